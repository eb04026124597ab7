/- The walk of the reference's Long and of the law TreeBinds. Conditions: none beyond each theorem's own. -/
import Derived.Test.YtamjldakllafcaaDoorClash
import Derived.Deep.RegionLaw
namespace Go.Proofs.YtamjldakllafcaaDoor
set_option linter.unusedVariables false
set_option linter.unusedSimpArgs false
open Go.RowKit
attribute [local go_sem ↓] run_load_agg run_store_agg run_build_two run_load_any

set_option maxHeartbeats 1000000 in
set_option maxRecDepth 100000 in
theorem rlong_any : ∀ (N n i : Nat) (_ : n ≤ N) (_ : 1 ≤ n) (_ : n ≤ 256) (_ : i < n) (w : World),
    Calls Tryd.prog 20 #[.int .i64 i, .int .i64 n] w fun e w' => e = .returned (.int .i64 (sidesM i n).length) ∧ Below w.heap.size w w' := by
  intro N
  induction N with
  | zero => intro n i hN h1; omega
  | succ N ih =>
    intro n i hN h1 hn hi w
    by_cases h2 : 2 ≤ n
    · obtain ⟨hh1, hh2, -⟩ := halfM_bounds n h2 hn
      have HH := Lib.hid (rhalf_any n h2 hn)
      obtain ⟨k, hk⟩ : ∃ k, halfM n = k := ⟨_, rfl⟩
      rw [hk] at hh1 hh2 HH
      have HK := Lib.hid hk; clear hk
      have hn1 : ((n : Int) == 1) = false := beq_false_of_ne (by omega)
      by_cases hik : i < k
      · have hsd : sidesM i n = true :: sidesM i k := by rw [sidesM_left i n h2 hn (by rw [HK.out]; exact hik), HK.out]
        have hbd := sidesM_bound k i k (Nat.le_refl _) (by omega)
        have HC := Lib.hid (fun w9 => ih k i (by omega) (by omega) (by omega) hik w9)
        obtain ⟨L, hL⟩ : ∃ L, (sidesM i k).length = L := ⟨_, rfl⟩
        rw [hL] at HC hbd
        have HS := Lib.hid (show (sidesM i n).length = L + 1 by rw [hsd, List.length_cons, hL])
        clear hsd hL
        go_enter Tryd.func20, Tryd.ntmps20
        go_wp2_with fail
        refine (HH.out _).mono ?_
        rintro e w' ⟨rfl, rfl⟩
        go_wp2_with fail
        refine (HC.out _).mono ?_
        rintro e w2 ⟨rfl, hb2⟩
        have B2 := Lib.hid hb2; clear hb2
        go_wp2
        go_ret
        exact ⟨by rw [HS.out]; congr 2; simp; omega, B2.out⟩
      · have hsd : sidesM i n = false :: sidesM (i - k) (n - k) := by rw [sidesM_right i n h2 hn (by rw [HK.out]; exact hik), HK.out]
        have hbd := sidesM_bound (n - k) (i - k) (n - k) (Nat.le_refl _) (by omega)
        have HC := Lib.hid (fun w9 => ih (n - k) (i - k) (by omega) (by omega) (by omega) (by omega) w9)
        obtain ⟨L, hL⟩ : ∃ L, (sidesM (i - k) (n - k)).length = L := ⟨_, rfl⟩
        rw [hL] at HC hbd
        have HS := Lib.hid (show (sidesM i n).length = L + 1 by rw [hsd, List.length_cons, hL])
        have hik2 : (i : Int) - (k : Int) = ((i - k : Nat) : Int) := by omega
        have hnk2 : (n : Int) - (k : Int) = ((n - k : Nat) : Int) := by omega
        clear hsd hL
        go_enter Tryd.func20, Tryd.ntmps20
        go_wp2_with fail
        refine (HH.out _).mono ?_
        rintro e w' ⟨rfl, rfl⟩
        go_wp2_with fail
        refine (HC.out _).mono ?_
        rintro e w2 ⟨rfl, hb2⟩
        have B2 := Lib.hid hb2; clear hb2
        go_wp2
        go_ret
        exact ⟨by rw [HS.out]; congr 2; simp; omega, B2.out⟩
    · obtain rfl : n = 1 := by omega
      have hs : (sidesM i 1).length = 0 := by rw [sidesM_one i 1 (by omega)]; rfl
      have HS := Lib.hid hs; clear hs
      go_enter Tryd.func20, Tryd.ntmps20
      go_wp2
      go_ret
      exact ⟨by rw [HS.out]; rfl, Below.refl _ _⟩
/-- tree.Root, whatever comes in. -/
theorem root_all (ls : List (List UInt8)) (h32 : ∀ d ∈ ls, d.length = 32) (v : Value) (n : Nat) (w : World) (hb : rd w v n (ls.flatten.map vB)) (hl : ls.length = n) (hT : tabAt w) :
    Calls Tryd.prog 13 #[v] w fun e w' => ∃ D err, e = .returned (.tuple #[.agg (dgV D), err]) ∧ D.length = 32 ∧ Below w.heap.size w w' ∧
      ((∃ x, err = .iface 47 x) ∨ (err = .nilIface ∧ n ≤ 256 ∧ D = rootM ls)) := by
  by_cases hn : n ≤ 256
  · refine (Root_small ls h32 v n w hb hl hn hT).mono ?_
    rintro e w' ⟨rfl, hb⟩
    exact ⟨_, _, rfl, rootM_length ls h32, hb, .inr ⟨rfl, hn, rfl⟩⟩
  · obtain ⟨ao, cap, rfl, k1, k2, -⟩ := hb
    refine (Root_big ao n cap w (by omega) k1 (by unfold maxLen at k2; omega)).mono ?_
    rintro e w' ⟨rfl, hb⟩
    exact ⟨List.replicate 32 0, _, by rw [zD_eq], by simp, hb, .inl ⟨_, rfl⟩⟩
set_option maxHeartbeats 4000000 in
set_option maxRecDepth 100000 in
theorem binds_any (xs ys : List (List UInt8)) (ha : ∀ d ∈ xs, d.length = 32) (hb : ∀ d ∈ ys, d.length = 32) (av bv' : Value) (m1 m2 : Nat) (w : World)
    (ra : rd w av m1 (xs.flatten.map vB)) (la : xs.length = m1) (rb : rd w bv' m2 (ys.flatten.map vB)) (lb : ys.length = m2) (hT : tabAt w) :
    Calls Tryd.prog 5 #[av, bv'] w fun e w' => e = .returned (.bool true) ∧ Below w.heap.size w w' := by
  have hg0 := rowAt_lt hT
  have ra' := ra; have rb' := rb
  obtain ⟨aa, acap, rfl, ak1, ak2, -⟩ := ra'
  obtain ⟨ba, bcap, rfl, bk1, bk2, -⟩ := rb'
  unfold maxLen at ak2 bk2
  have HT := Lib.hid hT; have RA := Lib.hid ra; have RB := Lib.hid rb
  clear hT ra rb
  go_enter Tryd.func5, Tryd.ntmps5
  go_wp2_with fail
  refine (rooted_any w HT.out).mono ?_
  rintro e w1 ⟨rfl, hb1⟩
  have B1 := Lib.hid hb1; clear hb1
  go_wp2_with fail
  refine (root_all xs ha _ m1 w1 (rd_belowB RA.out B1.out (Nat.le_refl _)) la ((rowAt_below B1.out hg0 0 64).trans HT.out)).mono ?_
  rintro e w2 ⟨X, e1, rfl, hX, hb2, hc1⟩
  have B2 := Lib.hid (B1.out.trans (hb2.mono B1.out.size)); have HE1 := Lib.hid hc1
  clear hb2 hc1
  obtain ⟨n1, n2, n3, n4, n5⟩ := new_dig w2 X hX
  have B3 := Lib.hid (B2.out.alloc B2.out.size (.cells (dgV X) 25))
  have hz3 : (w2.alloc (.cells (dgV X) 25)).heap.size = w2.heap.size + 1 := by simp
  unfold zD at n1 n2
  go_wp2_with fail
  clear n1 n2
  generalize w2.alloc (.cells (dgV X) 25) = w3 at B3 n5 hz3 ⊢
  refine (root_all ys hb _ m2 w3 (rd_belowB RB.out B3.out (Nat.le_refl _)) lb ((rowAt_below B3.out hg0 0 64).trans HT.out)).mono ?_
  rintro e w4 ⟨Y, e2, rfl, hY, hb4, hc2⟩
  have B4 := Lib.hid (B3.out.trans (hb4.mono B3.out.size)); have HE2 := Lib.hid hc2
  have n6 : rowAt w4 w2.heap.size 0 32 = some (dgV X) := (rowAt_below hb4 (by omega) 0 32).trans n5
  have hz4 := hb4.size
  clear hb4 hc2 n5
  obtain ⟨y1, y2, y3, y4, y5⟩ := new_dig w4 Y hY
  have B5 := Lib.hid (B4.out.alloc B4.out.size (.cells (dgV Y) 25))
  have n7 : rowAt (w4.alloc (.cells (dgV Y) 25)) w2.heap.size 0 32 = some (dgV X) := by rw [rowAt_alloc_past _ _ _ _ _ (by omega)]; exact n6
  have ez1 : ∀ w, (Op.equalIn 10000 25 (.agg (dgV X)) (.agg (dgV Y))).run Tryd.prog w = .ok (decide (X = Y)) w := run_eql_dig X Y hX hY
  unfold zD at y1 y2
  rcases HE1.out with ⟨x, rfl⟩ | ⟨rfl, g1, g2⟩
  · clear ez1
    go_wp2
    go_ret
    exact ⟨rfl, B5.out⟩
  · rcases HE2.out with ⟨x, rfl⟩ | ⟨rfl, f1, f2⟩
    · clear ez1
      go_wp2
      go_ret
      exact ⟨rfl, B5.out⟩
    · by_cases hmm : m1 = m2
      · subst hmm
        by_cases hxy : X = Y
        · rw [decide_eq_true hxy] at ez1
          have hrr : rootM xs = rootM ys := by rw [← g2, ← f2, hxy]
          have HRR := Lib.hid hrr
          clear hrr hxy g2 f2 HE1 HE2
          go_wp2_with fail
          clear y1 y2
          generalize w4.alloc (.cells (dgV Y) 25) = w5 at B5 y5 n7 ⊢
          go_loopw [10] (fun c wr => ∃ i : Nat, i ≤ m1 ∧ c = .int .i64 i ∧ Below w.heap.size w wr) (fun c _ => m1 - (intOf c).toNat)
          case atStart => exact ⟨0, by omega, rfl, B5.out⟩
          case round =>
            obtain ⟨i, hi, rfl, hB⟩ := hrel
            have B6 := Lib.hid hB; clear hB
            by_cases hlt : i < m1
            · obtain ⟨ag, aoff, rfl, arows⟩ := rd_digest ha la RA.out (by omega)
              obtain ⟨bg, boff, rfl, brows⟩ := rd_digest hb lb RB.out (by omega)
              have arow := arows i hlt
              have brow := brows i hlt
              have fA := fold_root m1 xs i (by omega) (by omega) (by omega)
              have fB := fold_root m1 ys i (by omega) (by omega) (by omega)
              have hA := getD_len ha (i := i) (by omega)
              have hBl := getD_len hb (i := i) (by omega)
              obtain ⟨A, eA⟩ : ∃ A, xs.getD i [] = A := ⟨_, rfl⟩
              obtain ⟨B, eB⟩ : ∃ B, ys.getD i [] = B := ⟨_, rfl⟩
              rw [eA] at arow hA fA
              rw [eB] at brow hBl fB
              have hag := rowAt_lt arow; have hbg := rowAt_lt brow
              have AR := Lib.hid arow; have BR := Lib.hid brow; have FA := Lib.hid fA; have FB := Lib.hid fB
              have ar1 : rowAt wr ag (aoff + i * 32) 32 = some (dgV A) := by rw [Nat.mul_comm]; exact (rowAt_below B6.out hag _ _).trans AR.out
              have br1 : rowAt wr bg (boff + i * 32) 32 = some (dgV B) := by rw [Nat.mul_comm]; exact (rowAt_below B6.out hbg _ _).trans BR.out
              have ez2 : ∀ w, (Op.equalIn 10000 25 (.agg (dgV A)) (.agg (dgV B))).run Tryd.prog w = .ok (decide (A = B)) w := run_eql_dig A B hA hBl
              clear arows brows eA eB arow brow fA fB
              by_cases hab : A = B
              · rw [decide_eq_true hab] at ez2
                clear hab
                go_wp2_with fail
                go_region
                all_goals
                  go_wp2
                  go_roundw
                  case rel => exact ⟨i + 1, by omega, by go_num, B6.out.drew⟩
                  case measure => simp [intOf]; omega
              · rw [decide_eq_false hab] at ez2
                have HAB := Lib.hid hab; clear hab
                go_wp2_with fail
                go_region
                have B7 := Lib.hid B6.out.drew
                go_wp2_with fail
                refine (path_any xs ha _ m1 i wr.drew (rd_belowB RA.out B7.out (Nat.le_refl _)) la (by omega) hlt ((rowAt_below B7.out hg0 0 64).trans HT.out)).mono ?_
                rintro e w6 ⟨p, k, rfl, hop, hk, hb6⟩
                have B8 := Lib.hid (B7.out.trans (hb6.mono B7.out.size))
                have hpo := own_rd hop
                have hpo' := hpo
                obtain ⟨po, pcap, rfl, p1, p2, -⟩ := hpo'
                unfold maxLen at p2
                have HPO := Lib.hid hpo
                have hks : k = (sidesM i m1).length := by rw [hk, downM_length m1 xs i (by omega) (by omega), la]
                have HKS := Lib.hid hks
                clear hb6 hop hpo hk hks
                go_wp2_with fail
                refine (path_any ys hb _ m1 i w6 (rd_belowB RB.out B8.out (Nat.le_refl _)) lb (by omega) hlt ((rowAt_below B8.out hg0 0 64).trans HT.out)).mono ?_
                rintro e w7 ⟨q, k', rfl, hoq, hk', hb7⟩
                have B9 := Lib.hid (B8.out.trans (hb7.mono B8.out.size))
                have hqo := own_rd hoq
                have hkk : k' = k := by rw [hk', downM_length m1 ys i (by omega) (by omega), lb, HKS.out]
                subst hkk
                have hqo' := hqo
                obtain ⟨qo, qcap, rfl, q1, q2, -⟩ := hqo'
                unfold maxLen at q2
                have HQO := Lib.hid hqo
                have HPO7 := Lib.hid (rd_below HPO.out hb7)
                clear hb7 hoq hqo hk'
                go_wp2_with fail
                refine (rlong_any m1 m1 i (Nat.le_refl _) (by omega) (by omega) hlt w7).mono ?_
                rintro e w8 ⟨rfl, hb8⟩
                rw [← HKS.out]
                have B10 := Lib.hid (B9.out.trans (hb8.mono B9.out.size))
                have HPO8 := Lib.hid (rd_below HPO7.out hb8)
                have HQO8 := Lib.hid (rd_below HQO.out hb8)
                have ar8 : rowAt w8 ag (aoff + i * 32) 32 = some (dgV A) := by rw [Nat.mul_comm]; exact (rowAt_below B10.out hag _ _).trans AR.out
                have br8 : rowAt w8 bg (boff + i * 32) 32 = some (dgV B) := by rw [Nat.mul_comm]; exact (rowAt_below B10.out hbg _ _).trans BR.out
                have ar9 : rowAt w8.drew ag (aoff + i * 32) 32 = some (dgV A) := ar8
                have br9 : rowAt w8.drew bg (boff + i * 32) 32 = some (dgV B) := br8
                have hsl := downM_length m1 xs i (by omega) (by omega)
                have hsl2 := downM_length m1 ys i (by omega) (by omega)
                rw [la] at hsl
                rw [lb] at hsl2
                have hfe : foldM A (sidesM i m1).reverse (downM xs i).reverse = foldM B (sidesM i m1).reverse (downM ys i).reverse := by
                  have e1 := FA.out; have e2 := FB.out
                  rw [la] at e1; rw [lb] at e2
                  rw [e1, e2]; exact HRR.out
                have HCL : Hid (∀ w9, Below w8.heap.size w8 w9 → Calls Tryd.prog 21 #[.agg (dgV A), .slice po k' pcap, .agg (dgV B), .slice qo k' qcap, .int .i64 i, .int .i64 m1] w9 fun e w' => e = .returned (.bool true) ∧ Below w9.heap.size w9 w') := fun w9 hb9 =>
                  clash_any m1 A B hA hBl m1 i _ _ k' (downM xs i).reverse (downM ys i).reverse (mem_reverse32 (downM_32 m1 xs i (by omega) (by omega) ha)) (mem_reverse32 (downM_32 m1 ys i (by omega) (by omega) hb)) w9 (Nat.le_refl _)
                    (rd_below HPO8.out hb9) (rd_below HQO8.out hb9) (by rw [List.length_reverse, hsl]; exact HKS.out.symm) (by rw [List.length_reverse, hsl2]; exact HKS.out.symm) (by omega) (by omega) hlt HKS.out HAB.out hfe
                    ((rowAt_below (B10.out.trans (hb9.mono B10.out.size)) hg0 0 64).trans HT.out)
                clear hb8 ar1 br1 hsl hsl2 hfe
                go_wp2_with fail
                go_region_law (go_simp; go_at_call 21; with_reducible refine Calls.mono (HCL.out _ (Below.refl _ _).drew) ?_; rintro e w9 ⟨rfl, hb9⟩; have B11 := Lib.hid (B10.out.drew.trans (hb9.mono B10.out.drew.size)); clear hb9)
                all_goals
                  go_wp2
                  go_ret
                  exact ⟨rfl, B11.out⟩
            · go_wp2
              go_ret
              exact ⟨rfl, B6.out⟩
        · rw [decide_eq_false hxy] at ez1
          clear hxy g2 f2 HE1 HE2
          go_wp2
          go_ret
          exact ⟨rfl, B5.out⟩
      · have hne : ((m1 : Int) != (m2 : Int)) = true := by rw [bne_iff_ne]; omega
        have hne2 : ((m1 : Int) == (m2 : Int)) = false := beq_false_of_ne (by omega)
        clear g2 f2 HE1 HE2 ez1
        go_wp2
        go_ret
        exact ⟨rfl, B5.out⟩
end Go.Proofs.YtamjldakllafcaaDoor
