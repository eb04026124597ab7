/- The walk of the law TreeProves. Conditions: none beyond each theorem's own. -/
import Derived.Test.YtamjldakllafcaaDoorFold
namespace Go.Proofs.YtamjldakllafcaaDoor
open Go.RowKit
attribute [local go_sem ↓] run_load_agg run_store_agg run_build_two run_load_any

theorem halvings_le : ∀ n : Fin 257, halvings n.val ≤ 9 := by decide +kernel
set_option maxHeartbeats 1500000 in
set_option maxRecDepth 100000 in
theorem proves_any (ls : List (List UInt8)) (h32 : ∀ d ∈ ls, d.length = 32) (v : Value) (n : Nat) (i : Int) (w : World) (hb : rd w v n (ls.flatten.map vB)) (hl : ls.length = n) (hT : tabAt w) :
    Calls Tryd.prog 7 #[v, .int .i64 i] w fun e w' => e = .returned (.bool true) ∧ Below w.heap.size w w' := by
  have hg := rowAt_lt hT
  have HT := Lib.hid hT; clear hT
  have hb' := hb
  obtain ⟨ao, cap, rfl, k1, k2, -⟩ := hb'
  unfold maxLen at k2
  have HB := Lib.hid hb; clear hb
  go_enter Tryd.func7, Tryd.ntmps7
  go_wp2_with fail
  refine (rooted_any w HT.out).mono ?_
  rintro e w1 ⟨rfl, hb1⟩
  have B1 := Lib.hid hb1; clear hb1
  by_cases h3 : 256 < n
  · go_wp2
    go_ret
    exact ⟨rfl, B1.out⟩
  by_cases h4 : i < 0
  · go_wp2
    go_ret
    exact ⟨rfl, B1.out⟩
  by_cases h5 : (n : Int) ≤ i
  · go_wp2
    go_ret
    exact ⟨rfl, B1.out⟩
  obtain ⟨i, rfl⟩ : ∃ k : Nat, i = k := ⟨i.toNat, by omega⟩
  have hi : i < n := by omega
  obtain ⟨g, off, rfl, hrows⟩ := rd_digest h32 hl HB.out (by omega)
  have hrow := hrows i hi
  have hDl := getD_len h32 (i := i) (by omega)
  have hfold := fold_root n ls i (by omega) (by omega) (by omega)
  obtain ⟨D, hD⟩ : ∃ D, ls.getD i [] = D := ⟨_, rfl⟩
  rw [hD] at hrow hDl hfold
  have hgw := rowAt_lt hrow
  have HF := Lib.hid hfold
  clear hrows hD hfold
  go_wp2_with fail
  refine (Root_small ls h32 _ n w1 (rd_belowB HB.out B1.out (Nat.le_refl _)) hl (by omega) ((rowAt_below B1.out hg 0 64).trans HT.out)).mono ?_
  rintro e w2 ⟨rfl, hb2⟩
  have B2 := Lib.hid (B1.out.trans (hb2.mono B1.out.size)); clear hb2
  have hXl := rootM_length ls h32
  obtain ⟨X, hX⟩ : ∃ X, rootM ls = X := ⟨_, rfl⟩
  rw [hX] at hXl ⊢
  have HX := Lib.hid hX; clear hX
  obtain ⟨n1, n2, n3, n4, n5⟩ := new_dig w2 X hXl
  have B3 := Lib.hid (B2.out.alloc B2.out.size (.cells (dgV X) 25))
  have z3 : w2.heap.size < (w2.alloc (.cells (dgV X) 25)).heap.size := by simp
  unfold zD at n1 n2
  go_wp2_with fail
  clear n1 n2
  generalize w2.alloc (.cells (dgV X) 25) = w3 at B3 n5 z3 ⊢
  refine (path_any ls h32 _ n i w3 (rd_belowB HB.out B3.out (Nat.le_refl _)) hl (by omega) hi ((rowAt_below B3.out hg 0 64).trans HT.out)).mono ?_
  rintro e w4 ⟨p, k, rfl, ho4, hk, hb4⟩
  have B4 := Lib.hid (B3.out.trans (hb4.mono B3.out.size))
  have n6 : rowAt w4 w2.heap.size 0 32 = some (dgV X) := (rowAt_below hb4 z3 0 32).trans n5
  have z4 : w2.heap.size < w4.heap.size := Nat.lt_of_lt_of_le z3 hb4.size
  have hpo := own_rd ho4
  obtain ⟨po, pcap, rfl, q1, q2, -⟩ := hpo
  unfold maxLen at q2
  have n7 : rowAt w4 g (off + i * 32) 32 = some (dgV D) := by
    rw [Nat.mul_comm]; exact (rowAt_below B4.out hgw _ _).trans hrow
  have hks : k = (sidesM i n).length := by rw [hk, downM_length n ls i (by omega) (by omega), hl]
  have hk8 := sidesM_most n i n (Nat.le_refl _) (by omega)
  rw [← hks] at hk8
  have H8 := Lib.hid hk8
  have HS := Lib.hid hks
  have HO4 := Lib.hid ho4; have HK := Lib.hid hk; clear ho4 hk hb4 n5 hrow hks hk8
  go_wp2_with fail
  have hP32 : ∀ d ∈ (downM ls i).reverse, d.length = 32 := mem_reverse32 (downM_32 n ls i (by omega) (by omega) h32)
  refine (fold_any D hDl n i _ k (downM ls i).reverse hP32 w4 (own_rd HO4.out) (by rw [List.length_reverse]; exact HK.out.symm) (by omega) (by omega) hi HS.out ((rowAt_below B4.out hg 0 64).trans HT.out)).mono ?_
  rintro e w5 ⟨rfl, hb5⟩
  have hfx : foldM D (sidesM i n).reverse (downM ls i).reverse = X := by
    have e1 := HF.out; rw [hl] at e1; rw [e1]; exact HX.out
  rw [hfx]
  have B5 := Lib.hid (B4.out.trans (hb5.mono B4.out.size))
  have n8 : rowAt w5 w2.heap.size 0 32 = some (dgV X) := (rowAt_below hb5 z4 0 32).trans n6
  have z5 : w2.heap.size < w5.heap.size := Nat.lt_of_lt_of_le z4 hb5.size
  obtain ⟨e1, e2, e3, e4, e5⟩ := new_dig w5 X hXl
  have e6 : rowAt (w5.alloc (.cells (dgV X) 25)) w2.heap.size 0 32 = some (dgV X) := by
    rw [rowAt_alloc_past _ _ _ _ _ z5]; exact n8
  have B6 := Lib.hid (B5.out.alloc B5.out.size (.cells (dgV X) 25))
  have he := eql_self X hXl
  clear hb5 n6 n7 n8 hfx
  unfold zD at e1 e2
  go_wp2_with fail
  clear e1 e2
  generalize w5.alloc (.cells (dgV X) 25) = w6 at B6 e5 e6 ⊢
  go_loopw [12, 13] (fun s c wr => wr = w6 ∧ ∃ a m : Nat, s = .int .i64 a ∧ c = .int .i64 m ∧ m ≤ n - 1 ∧ a ≤ 300 ∧ a + halvings m = halvings (n - 1)) (fun _ c _ => (intOf c).toNat)
  case atStart => exact ⟨rfl, 0, n - 1, rfl, by rw [show ((n - 1 : Nat) : Int) = (n : Int) - 1 from by omega], Nat.le_refl _, by omega, by omega⟩
  case round =>
    obtain ⟨rfl, a, m, rfl, rfl, hm, ha, hh⟩ := hrel
    by_cases hm0 : m = 0
    · subst hm0
      have hz : halvings 0 = 0 := by decide
      have hka : k ≤ a := by have := H8.out; omega
      clear hh
      go_wp2
      go_ret
      exact ⟨rfl, B6.out⟩
    · have hst := halvings_step ⟨m, by omega⟩ (by simp; omega)
      simp only at hst
      have hmost := halvings_le ⟨n - 1, by omega⟩
      simp only at hmost
      have HH := Lib.hid hh; have HT' := Lib.hid hst; clear hh hst
      go_wp2
      go_roundw
      case rel => exact ⟨trivial, a + 1, m / 2, by go_num, by go_num, by omega, by have := HH.out; have := HT'.out; omega, by rw [← HH.out, HT'.out]; omega⟩
      case measure => simp [intOf]; omega
end Go.Proofs.YtamjldakllafcaaDoor
