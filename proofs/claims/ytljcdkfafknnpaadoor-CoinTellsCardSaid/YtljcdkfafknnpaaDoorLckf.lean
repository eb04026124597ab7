/- The walk of the reference's LockFault. Conditions: none beyond each theorem's own. -/
import Derived.Test.YtljcdkfafknnpaaDoorEndw
namespace Go.Proofs.YtljcdkfafknnpaaDoor
set_option linter.unusedVariables false
set_option linter.unusedSimpArgs false
open Go.RowKit
attribute [local go_sem ↓] run_load_agg run_store_agg

def firstF : List OpD → Int
  | [] => 0
  | o :: os => if opF o.op o.n o.data.length = 0 then firstF os else opF o.op o.n o.data.length
def pairF (os : List OpD) : Int := if scanM [] (os.map OpD.op) = some [] then 0 else 1
/-- What is wrong with a lock. -/
def lockF (os : List OpD) : Int := if 60 < os.length then 4 else if firstF os = 0 then pairF os else firstF os
theorem firstF_step (os : List OpD) (j : Nat) (hj : j < os.length) (h : opF os[j].op os[j].n os[j].data.length = 0) : firstF (os.drop j) = firstF (os.drop (j + 1)) := by
  rw [List.drop_eq_getElem_cons hj, firstF, if_pos h]
theorem firstF_hit (os : List OpD) (j : Nat) (hj : j < os.length) (c : Int) (hc : opF os[j].op os[j].n os[j].data.length = c) (h : c ≠ 0) : firstF (os.drop j) = c := by
  rw [List.drop_eq_getElem_cons hj, firstF, if_neg (by rw [hc]; exact h), hc]
theorem lockF_hit (os : List OpD) (hn : ¬ 60 < os.length) (c : Int) (hc : firstF os = c) (h : c ≠ 0) : lockF os = c := by
  unfold lockF; rw [if_neg hn, if_neg (by rw [hc]; exact h), hc]
theorem lockF_pairs (os : List OpD) (hn : ¬ 60 < os.length) (hc : firstF os = 0) : lockF os = pairF os := by
  unfold lockF; rw [if_neg hn, if_pos hc]
/-- An op as the walk loads it. -/
theorem op_at {w : World} {ao : Option Addr} {n cap : Nat} {os : List OpD} (h : rdSl opR 3 w (.slice ao n cap) os) (j : Nat) (hj : j < os.length) :
    ∃ g off so dcap, ao = some ⟨g, off, none⟩ ∧ n = os.length ∧ os[j].data.length ≤ dcap ∧ dcap ≤ 2 ^ 63 - 1 ∧ rd w (.slice so os[j].data.length dcap) os[j].data.length (os[j].data.map vB) ∧
      rowAt w g (off + j * 3) 3 = some #[.int .i64 os[j].op, .int .i64 os[j].n, .slice so os[j].data.length dcap] := by
  obtain ⟨g, off, cap', so, dcap, e, h1, h2, h3, h4⟩ := op_row h j hj
  cases e
  unfold maxLen at h2
  exact ⟨g, off, so, dcap, rfl, rfl, h1, by omega, h3, h4⟩
set_option maxHeartbeats 4000000 in
set_option maxRecDepth 100000 in
theorem lockFault_any (os : List OpD) (ao : Option Addr) (cap : Nat) (w : World) (h : rdSl opR 3 w (.slice ao os.length cap) os) :
    Calls Tryd.prog 44 #[.slice ao os.length cap] w fun e w' => e = .returned (.int .i64 (lockF os)) ∧ Below w.heap.size w w' := by
  obtain ⟨_, _, e, hcap, hmax⟩ := sl_bounds h
  cases e
  unfold maxLen at hmax
  have HS := Lib.hid h; clear h
  by_cases hn : 60 < os.length
  · have hf : lockF os = 4 := by unfold lockF; rw [if_pos hn]
    have HF := Lib.hid hf; clear hf
    go_enter Tryd.func44, Tryd.ntmps44
    go_wp2
    go_ret
    exact ⟨by rw [HF.out]; rfl, Below.refl _ _⟩
  have HN := Lib.hid hn
  go_enter Tryd.func44, Tryd.ntmps44
  go_wp2_with fail
  go_loopw [3] (fun c wr => ∃ j : Nat, j ≤ os.length ∧ c = .int .i64 j ∧ Hid (Below w.heap.size w wr) ∧ Hid (firstF os = firstF (os.drop j))) (fun c _ => os.length - (intOf c).toNat)
  case atStart => exact ⟨0, by omega, rfl, Lib.hid (Below.refl _ _), Lib.hid rfl⟩
  case round =>
    obtain ⟨j, hj, rfl, HB, HF⟩ := hrel
    by_cases hlt : j < os.length
    · obtain ⟨g, off, so, dcap, rfl, -, d1, d2, -, hrow⟩ := op_at (opR_stays.slB HS.out HB.out (Nat.le_refl _)) j hlt
      have H1 := Lib.hid (firstF_step os j hlt); have H2 := Lib.hid (firstF_hit os j hlt)
      obtain ⟨op, hop⟩ : ∃ x, os[j].op = x := ⟨_, rfl⟩
      obtain ⟨k, hk⟩ : ∃ x, os[j].n = x := ⟨_, rfl⟩
      obtain ⟨dl, hdl⟩ : ∃ x, os[j].data.length = x := ⟨_, rfl⟩
      rw [hop, hk, hdl] at hrow H1 H2
      rw [hdl] at d1
      clear hop hk hdl
      go_wp2_with fail
      refine (opFault_any op k so dl dcap _ d1 d2).mono ?_
      rintro e w1 ⟨rfl, hb1⟩
      have B1 := Lib.hid (HB.out.trans (hb1.mono HB.out.size)); clear hb1
      obtain ⟨c, hc⟩ : ∃ x, opF op k dl = x := ⟨_, rfl⟩
      rw [hc] at H1 H2 ⊢
      by_cases hz : c = 0
      · have hf := HF.out.trans (H1.out hz)
        have HF2 := Lib.hid hf
        subst hz
        clear hf hc
        go_wp2
        go_roundw
        case rel => exact ⟨j + 1, by omega, by go_num, B1, HF2⟩
        case measure => simp [intOf]; omega
      · have hf := lockF_hit os HN.out c (HF.out.trans (H2.out c rfl hz)) hz
        have HF2 := Lib.hid hf
        have q : (c != 0) = true := by rw [bne_iff_ne]; exact hz
        clear hf hc
        go_wp2
        go_ret
        exact ⟨by rw [HF2.out]; rfl, B1.out⟩
    · have hz : firstF os = 0 := by rw [HF.out, List.drop_eq_nil_of_le (by omega)]; rfl
      have hf := lockF_pairs os HN.out hz
      have hE := ended_any os ao cap wr (opR_stays.slB HS.out HB.out (Nat.le_refl _)) (os.length + 1) 0 (by omega) (by omega)
      rw [List.drop_zero] at hE
      have hp := pairs_endI (os.map OpD.op)
      rw [List.length_map] at hp
      by_cases hpp : scanM [] (os.map OpD.op) = some []
      · have he := hp.1 hpp
        rw [he] at hE
        have HE := Lib.hid hE
        have HF2 := Lib.hid (show lockF os = 0 by rw [hf, pairF, if_pos hpp])
        clear hE he hpp hp hf hz
        go_wp2_with fail
        refine Calls.mono HE.out ?_
        rintro e w' ⟨rfl, hw'⟩
        rw [hw']
        clear hw' w'
        go_wp2
        go_ret
        exact ⟨by rw [HF2.out]; rfl, HB.out⟩
      · have HE := Lib.hid hE
        have HF2 := Lib.hid (show lockF os = 1 by rw [hf, pairF, if_neg hpp])
        have hne : endI os.length (os.map OpD.op) ≠ (os.length : Int) := fun e => hpp (hp.2 e)
        obtain ⟨E, hE2⟩ : ∃ E, endI os.length (os.map OpD.op) = E := ⟨_, rfl⟩
        rw [hE2] at hne HE
        have q : (E != (os.length : Int)) = true := by rw [bne_iff_ne]; exact hne
        clear hE hpp hp hf hz hE2
        go_wp2_with fail
        refine Calls.mono HE.out ?_
        rintro e w' ⟨rfl, hw'⟩
        rw [hw']
        clear hw' w'
        go_wp2
        go_ret
        exact ⟨by rw [HF2.out]; rfl, HB.out⟩
end Go.Proofs.YtljcdkfafknnpaaDoor
