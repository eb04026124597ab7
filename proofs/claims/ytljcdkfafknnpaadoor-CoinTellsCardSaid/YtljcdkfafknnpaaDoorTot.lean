/- The walks of coin.Sum and the reference's WorthOf. Conditions: none beyond each theorem's own. -/
import Derived.Test.YtljcdkfafknnpaaDoorSetc
namespace Go.Proofs.YtljcdkfafknnpaaDoor
set_option linter.unusedVariables false
set_option linter.unusedSimpArgs false
open Go.RowKit
attribute [local go_sem ↓] run_load_agg run_store_agg run_load_any

def iV64 (n : Int) : Value := .int .i64 n
theorem iV64_plain (l : List Int) : ∀ u ∈ l.map iV64, u.oneCell' = true := vs_oneCell .i64 (fun x => x) l
theorem info_int : (Tryd.prog.info? 3).map (fun i => (i.zero, i.size, i.bytes)) = some (some (.int .i64 0), 1, 8) := by kernel_rfl
/-- What amounts are together, and what is wrong with them. -/
def totC : Int → List Int → Int
  | _, [] => 0
  | s, n :: ns => if n < 0 ∨ 1125899906842624 < n then 2 else if 1125899906842624 < s + n then 4 else totC (s + n) ns
def totS : Int → List Int → Int
  | s, [] => s
  | s, n :: ns => totS (s + n) ns
def totV (ns : List Int) : Int := if totC 0 ns = 0 then totS 0 ns else 0
theorem tot_bad (s n : Int) (ns : List Int) (h : n < 0 ∨ 1125899906842624 < n) : totC s (n :: ns) = 2 := by rw [totC, if_pos h]
theorem tot_full (s n : Int) (ns : List Int) (h : ¬ (n < 0 ∨ 1125899906842624 < n)) (h2 : 1125899906842624 < s + n) : totC s (n :: ns) = 4 := by rw [totC, if_neg h, if_pos h2]
theorem tot_on (s n : Int) (ns : List Int) (h : ¬ (n < 0 ∨ 1125899906842624 < n)) (h2 : ¬ 1125899906842624 < s + n) : totC s (n :: ns) = totC (s + n) ns := by rw [totC, if_neg h, if_neg h2]
theorem drop_at (ns : List Int) (j : Nat) (hj : j < ns.length) : ns.drop j = ns[j] :: ns.drop (j + 1) := List.drop_eq_getElem_cons hj
/-- A number of a slice of numbers. -/
theorem int_at {w : World} {ao : Option Addr} {n cap : Nat} {ns : List Int} (h : rd w (.slice ao n cap) n (ns.map iV64)) (hl : ns.length = n) (hn : 0 < n) :
    ∃ g off, ao = some ⟨g, off, none⟩ ∧ ∀ j (hj : j < ns.length), w.cell? ⟨g, off + j, none⟩ = some (.int .i64 ns[j]) := by
  obtain ⟨_, _, e, -, -, h3⟩ := h
  cases e
  rcases h3 with h3 | ⟨g, off, rfl, h3⟩
  · have := congrArg List.length h3; rw [List.length_map, List.length_nil] at this; omega
  · exact ⟨g, off, rfl, fun j hj => h3 j _ (by rw [List.getElem?_map, List.getElem?_eq_getElem hj]; rfl)⟩
set_option maxHeartbeats 2000000 in
set_option maxRecDepth 100000 in
theorem total_any (ns : List Int) (v : Value) (n : Nat) (w : World) (h : rd w v n (ns.map iV64)) (hl : ns.length = n) :
    Calls Tryd.prog 48 #[v] w fun e w' => e = .returned (.tuple #[.int .i64 (totV ns), .int .i64 (totC 0 ns)]) ∧ w' = w := by
  have h' := h
  obtain ⟨ao, cap, rfl, k1, k2, -⟩ := h'
  unfold maxLen at k2
  have HA := Lib.hid (fun hn => int_at h hl hn)
  have HV : Hid (∀ c s, totC 0 ns = c → (c = 0 → totS 0 ns = s) → (c ≠ 0 → s = 0) → Ending.returned (.tuple #[.int .i64 s, .int .i64 c]) = .returned (.tuple #[.int .i64 (totV ns), .int .i64 (totC 0 ns)])) := fun c s h1 h2 h3 => by
    subst h1
    unfold totV
    by_cases hz : totC 0 ns = 0
    · rw [if_pos hz, h2 hz]
    · rw [if_neg hz, h3 hz]
  have HL := Lib.hid hl
  clear h hl
  go_enter Tryd.func48, Tryd.ntmps48
  go_wp2_with fail
  go_loop [4, 5] (fun s c => ∃ (j : Nat) (S : Int), j ≤ n ∧ c = .int .i64 j ∧ s = .int .i64 S ∧ 0 ≤ S ∧ S ≤ 1125899906842624 ∧ Hid (totC 0 ns = totC S (ns.drop j)) ∧ Hid (totS 0 ns = totS S (ns.drop j))) (fun _ c => n - (intOf c).toNat)
  case atStart => exact ⟨0, 0, by omega, rfl, rfl, by omega, by omega, Lib.hid rfl, Lib.hid rfl⟩
  case round =>
    obtain ⟨j, S, hj, rfl, rfl, s0, s1, HC, HS⟩ := hrel
    by_cases hlt : j < n
    · obtain ⟨g, off, rfl, hcs⟩ := HA.out (by omega)
      have hjl : j < ns.length := by rw [HL.out]; exact hlt
      have c1 := hcs j hjl
      have hd := drop_at ns j hjl
      obtain ⟨x, hx⟩ : ∃ x, ns[j] = x := ⟨_, rfl⟩
      rw [hx] at c1 hd
      have HD := Lib.hid hd
      have HM := Lib.hid (money_any x)
      clear hcs hx hd hjl
      by_cases hm : 0 ≤ x ∧ x ≤ 1125899906842624
      · have d1 : decide (0 ≤ x ∧ x ≤ 1125899906842624) = true := decide_eq_true hm
        rw [d1] at HM
        obtain ⟨m1, m2⟩ := hm
        clear d1
        by_cases hf : 1125899906842624 < S + x
        · have hc : totC 0 ns = 4 := by rw [HC.out, HD.out, tot_full _ _ _ (by omega) hf]
          have HZ := Lib.hid hc; clear hc
          go_wp2_with fail
          refine (HM.out _).mono ?_
          rintro e w' ⟨rfl, hw'⟩
          rw [hw']
          clear hw' w'
          go_wp2
          go_ret2
          exact ⟨HV.out 4 0 HZ.out (fun h => by cases h) (fun _ => rfl), rfl⟩
        · have HC2 := Lib.hid (HC.out.trans (by rw [HD.out, tot_on _ _ _ (by omega) hf]))
          have HS2 := Lib.hid (HS.out.trans (by rw [HD.out, totS]))
          go_wp2_with fail
          refine (HM.out _).mono ?_
          rintro e w' ⟨rfl, hw'⟩
          rw [hw']
          clear hw' w'
          go_wp2
          go_round
          case rel => exact ⟨j + 1, S + x, by omega, by go_num, rfl, by omega, by omega, HC2, HS2⟩
          case measure => simp [intOf]; omega
      · have d1 : decide (0 ≤ x ∧ x ≤ 1125899906842624) = false := decide_eq_false hm
        rw [d1] at HM
        have hc : totC 0 ns = 2 := by rw [HC.out, HD.out, tot_bad _ _ _ (by omega)]
        have HZ := Lib.hid hc
        clear d1 hm hc
        go_wp2_with fail
        refine (HM.out _).mono ?_
        rintro e w' ⟨rfl, hw'⟩
        rw [hw']
        clear hw' w'
        go_wp2
        go_ret2
        exact ⟨HV.out 2 0 HZ.out (fun h => by cases h) (fun _ => rfl), rfl⟩
    · have hd : ns.drop j = [] := List.drop_eq_nil_of_le (by rw [HL.out]; omega)
      have hc : totC 0 ns = 0 := by rw [HC.out, hd, totC]
      have hs : totS 0 ns = S := by rw [HS.out, hd, totS]
      have HZ := Lib.hid hc; have HZS := Lib.hid hs
      clear hd hc hs
      go_wp2
      go_ret2
      exact ⟨HV.out 0 S HZ.out (fun _ => HZS.out) (fun h => absurd rfl h), rfl⟩
set_option maxHeartbeats 2000000 in
set_option maxRecDepth 100000 in
theorem moneySum_any (ns : List Int) (v : Value) (n : Nat) (w : World) (h : rd w v n (ns.map iV64)) (hl : ns.length = n) :
    Calls Tryd.prog 75 #[v] w fun e w' => e = .returned (.tuple #[.int .i64 (totV ns), errV (totC 0 ns)]) ∧ w' = w := by
  have h' := h
  obtain ⟨ao, cap, rfl, k1, k2, -⟩ := h'
  unfold maxLen at k2
  have HA := Lib.hid (fun hn => int_at h hl hn)
  have HV : Hid (∀ c s v, v = errV c → totC 0 ns = c → (c = 0 → totS 0 ns = s) → (c ≠ 0 → s = 0) → Ending.returned (.tuple #[.int .i64 s, v]) = .returned (.tuple #[.int .i64 (totV ns), errV (totC 0 ns)])) := fun c s v hv h1 h2 h3 => by
    subst h1
    subst hv
    unfold totV
    by_cases hz : totC 0 ns = 0
    · rw [if_pos hz, h2 hz]
    · rw [if_neg hz, h3 hz]
  have HL := Lib.hid hl
  clear h hl
  go_enter Tryd.func75, Tryd.ntmps75
  go_wp2_with fail
  go_loop [4, 10] (fun s c => ∃ (j : Nat) (S : Int), j ≤ n ∧ c = .int .i64 j ∧ s = .int .i64 S ∧ 0 ≤ S ∧ S ≤ 1125899906842624 ∧ Hid (totC 0 ns = totC S (ns.drop j)) ∧ Hid (totS 0 ns = totS S (ns.drop j))) (fun _ c => n - (intOf c).toNat)
  case atStart => exact ⟨0, 0, by omega, rfl, rfl, by omega, by omega, Lib.hid rfl, Lib.hid rfl⟩
  case round =>
    obtain ⟨j, S, hj, rfl, rfl, s0, s1, HC, HS⟩ := hrel
    by_cases hlt : j < n
    · obtain ⟨g, off, rfl, hcs⟩ := HA.out (by omega)
      have hjl : j < ns.length := by rw [HL.out]; exact hlt
      have c1 := hcs j hjl
      have hd := drop_at ns j hjl
      obtain ⟨x, hx⟩ : ∃ x, ns[j] = x := ⟨_, rfl⟩
      rw [hx] at c1 hd
      have HD := Lib.hid hd
      have HM := Lib.hid (moneyCheck_any x)
      clear hcs hx hd hjl
      by_cases hm : x < 0 ∨ 1125899906842624 < x
      · have d1 : moneyF x = 2 := by unfold moneyF; rw [if_pos hm]
        rw [d1, errV_ne (c := 2) (by decide)] at HM
        have hc : totC 0 ns = 2 := by rw [HC.out, HD.out, tot_bad _ _ _ hm]
        have HZ := Lib.hid hc
        clear d1 hm hc
        go_wp2_with fail
        refine (HM.out _).mono ?_
        rintro e w' ⟨rfl, hw'⟩
        rw [hw']
        clear hw' w'
        go_wp2
        go_ret2
        exact ⟨HV.out 2 0 _ rfl HZ.out (fun h => by cases h) (fun _ => rfl), rfl⟩
      · have d1 : moneyF x = 0 := by unfold moneyF; rw [if_neg hm]
        rw [d1, errV_0] at HM
        have m1 : 0 ≤ x := by omega
        have m2 : x ≤ 1125899906842624 := by omega
        clear d1 hm
        by_cases hf : 1125899906842624 < S + x
        · have hc : totC 0 ns = 4 := by rw [HC.out, HD.out, tot_full _ _ _ (by omega) hf]
          have HZ := Lib.hid hc; clear hc
          go_wp2_with fail
          refine (HM.out _).mono ?_
          rintro e w' ⟨rfl, hw'⟩
          rw [hw']
          clear hw' w'
          go_wp2
          go_ret2
          exact ⟨HV.out 4 0 _ rfl HZ.out (fun h => by cases h) (fun _ => rfl), rfl⟩
        · have HC2 := Lib.hid (HC.out.trans (by rw [HD.out, tot_on _ _ _ (by omega) hf]))
          have HS2 := Lib.hid (HS.out.trans (by rw [HD.out, totS]))
          go_wp2_with fail
          refine (HM.out _).mono ?_
          rintro e w' ⟨rfl, hw'⟩
          rw [hw']
          clear hw' w'
          go_wp2
          go_round
          case rel => exact ⟨j + 1, S + x, by omega, by go_num, rfl, by omega, by omega, HC2, HS2⟩
          case measure => simp [intOf]; omega
    · have hd : ns.drop j = [] := List.drop_eq_nil_of_le (by rw [HL.out]; omega)
      have hc : totC 0 ns = 0 := by rw [HC.out, hd, totC]
      have hs : totS 0 ns = S := by rw [HS.out, hd, totS]
      have HZ := Lib.hid hc; have HZS := Lib.hid hs
      clear hd hc hs
      go_wp2
      go_ret2
      exact ⟨HV.out 0 S _ rfl HZ.out (fun _ => HZS.out) (fun h => absurd rfl h), rfl⟩
end Go.Proofs.YtljcdkfafknnpaaDoor
