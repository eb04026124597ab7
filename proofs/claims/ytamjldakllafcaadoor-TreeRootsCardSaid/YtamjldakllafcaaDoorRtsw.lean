/- The walk of the law TreeRoots. Conditions: none beyond each theorem's own. -/
import Derived.Test.YtamjldakllafcaaDoorRroot
import Derived.Test.YtamjldakllafcaaDoorLeaf
import Derived.Test.YtamjldakllafcaaDoorTold
import Derived.Test.YtamjldakllafcaaDoorNew
namespace Go.Proofs.YtamjldakllafcaaDoor
set_option linter.unusedVariables false
set_option linter.unusedSimpArgs false
open Go.RowKit
attribute [local go_sem ↓] run_load_agg run_store_agg run_build_two run_load_any

set_option maxHeartbeats 4000000 in
set_option maxRecDepth 100000 in
theorem roots_any (ls : List (List UInt8)) (h32 : ∀ d ∈ ls, d.length = 32) (v : Value) (n : Nat) (b : List UInt8) (v1 : Value) (bn : Nat) (w : World) (hb : rd w v n (ls.flatten.map vB)) (hl : ls.length = n)
    (hb1 : rd w v1 bn (b.map vB)) (hl1 : b.length = bn) (hbn : bn ≤ 140737488351232) (hT : tabAt w) (hE : errAt w) :
    Calls Tryd.prog 9 #[v, v1] w fun e w' => e = .returned (.bool true) ∧ Below w.heap.size w w' := by
  have hg := rowAt_lt hT
  have hb' := hb
  obtain ⟨ao, cap, rfl, k1, k2, -⟩ := hb'
  have hb1' := hb1
  obtain ⟨bo, bcap, rfl, p1, p2, -⟩ := hb1'
  unfold maxLen at k2 p2
  have HT := Lib.hid hT; have HE := Lib.hid hE; have HB := Lib.hid hb; have HB1 := Lib.hid hb1; have HL1 := Lib.hid hl1
  clear hT hE hb hb1 hl1
  have hb0 : Hid (Below w.heap.size w (w.alloc (.cells zD 25))) := (Below.refl _ _).alloc (Nat.le_refl _) _
  have hd0 : Hid ((w.alloc (.cells zD 25)).heap[w.heap.size]? = some (.cells zD 25 (0, 0))) := heap_alloc_new w _
  have hs0 : (w.alloc (.cells zD 25)).heap.size = w.heap.size + 1 := by simp
  by_cases hn : 256 < n
  · go_enter Tryd.func9, Tryd.ntmps9
    go_wp2_with fail
    change Calls _ _ _ (w.alloc (.cells zD 25)) _
    generalize w.alloc (.cells zD 25) = wa at hb0 hd0 hs0 ⊢
    refine (Root_big ao n cap wa hn k1 k2).mono ?_
    rintro e w2 ⟨rfl, hb2⟩
    have hd2 : Hid (w2.heap[w.heap.size]? = some (.cells zD 25 (0, 0))) := (hb2.block _ (by omega)).trans hd0.out
    have B2 := Lib.hid (hb0.out.trans (hb2.mono hb0.out.size))
    have hp2 : rowAt w2 w.heap.size 0 32 = some zD := rowAt_whole hd2.out 32 rfl
    obtain ⟨X, hXz⟩ : ∃ X : List UInt8, List.replicate 32 0 = X := ⟨_, rfl⟩
    have hXl : X.length = 32 := by rw [← hXz]; rfl
    have hz : zD = dgV X := by rw [zD_eq, hXz]
    rw [hz] at hp2 ⊢
    have hs2 : w.heap.size < w2.heap.size := (Array.getElem?_eq_some_iff.1 hd2.out).1
    obtain ⟨n1, n2, n3, n4, n5⟩ := new_dig w2 X hXl
    have B5 := Lib.hid (B2.out.alloc B2.out.size (.cells (dgV X) 25))
    have hp5 : rowAt (w2.alloc (.cells (dgV X) 25)) w.heap.size 0 32 = some (dgV X) := by rw [rowAt_alloc_past _ _ _ _ _ hs2]; exact hp2
    have hes := eql_self X hXl
    unfold zD at n1 n2
    clear hb2 hp2 hXz hz
    go_wp2_with fail
    clear n1 n2
    have hE5 := Lib.hid (errAt_below HE.out B5.out (Nat.le_refl _))
    generalize w2.alloc (.cells (dgV X) 25) = w5 at B5 hp5 n5 hE5 ⊢
    have hs5 : w.heap.size ≤ w5.heap.size := B5.out.size
    have hA5 : w.heap.size < w5.heap.size := rowAt_lt hp5
    have hA6 : w2.heap.size < w5.heap.size := rowAt_lt n5
    refine (same_errno 4 4 _ hE5.out).mono ?_
    rintro e w5' ⟨rfl, hb5⟩
    have B5' := Lib.hid (B5.out.trans (hb5.mono hs5))
    have hp5' := (rowAt_below hb5 hA5 0 32).trans hp5
    have n5' := (rowAt_below hb5 hA6 0 32).trans n5
    clear hb5 hE5 hp5 n5 B5
    rw [show decide ((4 : Int) = 4) = true from by decide]
    go_wp2_with fail
    refine (leaf_any b _ bn _ (rd_belowB HB1.out B5'.out (Nat.le_refl _)) HL1.out hbn ((rowAt_below B5'.out hg 0 64).trans HT.out)).mono ?_
    rintro e w6 ⟨rfl, hb6⟩
    have B6 := Lib.hid (B5'.out.trans (hb6.mono B5'.out.size))
    have hYl := shaM_length (0 :: b)
    obtain ⟨Y, hY⟩ : ∃ Y, shaM (0 :: b) = Y := ⟨_, rfl⟩
    rw [hY] at hYl ⊢
    have HY := Lib.hid hY; clear hY
    clear hb6 n5'
    go_wp2_with fail
    refine (rleaf_any b _ bn _ (rd_belowB HB1.out B6.out (Nat.le_refl _)) HL1.out hbn).mono ?_
    rintro e w7 ⟨rfl, hb7⟩
    rw [HY.out]
    have B7 := Lib.hid (B6.out.trans (hb7.mono B6.out.size))
    clear hb7
    have hes2 := eql_self Y hYl
    go_wp2
    go_ret
    exact ⟨rfl, B7.out⟩
  · go_enter Tryd.func9, Tryd.ntmps9
    go_wp2_with fail
    change Calls _ _ _ (w.alloc (.cells zD 25)) _
    generalize w.alloc (.cells zD 25) = wa at hb0 hd0 hs0 ⊢
    refine (rroot_any n ls h32 _ n wa (Nat.le_refl _) (rd_belowB HB.out hb0.out (Nat.le_refl _)) hl (by omega) ((rowAt_below hb0.out hg 0 64).trans HT.out)).mono ?_
    rintro e w2 ⟨rfl, hb2⟩
    have hXl := rootM_length ls h32
    obtain ⟨X, hX⟩ : ∃ X, rootM ls = X := ⟨_, rfl⟩
    rw [hX] at hXl ⊢
    have HX := Lib.hid hX; clear hX
    have hd2 : Hid (w2.heap[w.heap.size]? = some (.cells zD 25 (0, 0))) := (hb2.block _ (by omega)).trans hd0.out
    have B2 := Lib.hid (hb0.out.trans (hb2.mono hb0.out.size))
    have hrw : (rowAt w2 w.heap.size 0 32).isSome = true := by rw [rowAt_whole hd2.out 32 rfl]; rfl
    have hrg := wrAt_of_heap hd2.out
    have hpl : plainCells (dgV X) = true := dgV_plain _
    have hsz : (dgV X).size = 32 := by rw [dgV_size, hXl]
    have B3 := Lib.hid (putAt_below B2.out (Nat.le_refl _) 0 (dgV X))
    have hp3 := Lib.hid (rowAt_put_same hd2.out (dgV X) (by rw [hsz]; rfl) 32 hsz.symm)
    clear hb2
    go_wp2_with fail
    generalize hw3 : putAt w2 w.heap.size 0 (dgV X) = w3 at B3 hp3 ⊢
    have hs3 : w.heap.size < w3.heap.size := by rw [← hw3, putAt_size]; exact (Array.getElem?_eq_some_iff.1 hd2.out).1
    clear hw3 hrw hrg
    refine (Root_small ls h32 _ n w3 (rd_belowB HB.out B3.out (Nat.le_refl _)) hl (by omega) ((rowAt_below B3.out hg 0 64).trans HT.out)).mono ?_
    rintro e w4 ⟨rfl, hb4⟩
    rw [HX.out]
    have B4 := Lib.hid (B3.out.trans (hb4.mono B3.out.size))
    have hp4 : rowAt w4 w.heap.size 0 32 = some (dgV X) := (rowAt_below hb4 hs3 0 32).trans hp3.out
    have hs4 : w.heap.size < w4.heap.size := Nat.lt_of_lt_of_le hs3 hb4.size
    obtain ⟨n1, n2, n3, n4, n5⟩ := new_dig w4 X hXl
    have B5 := Lib.hid (B4.out.alloc B4.out.size (.cells (dgV X) 25))
    have hp5 : rowAt (w4.alloc (.cells (dgV X) 25)) w.heap.size 0 32 = some (dgV X) := by rw [rowAt_alloc_past _ _ _ _ _ hs4]; exact hp4
    have hes := eql_self X hXl
    unfold zD at n1 n2
    clear hb4 hp4
    go_wp2_with fail
    clear n1 n2
    refine (same_nil 0 _).mono ?_
    rintro e w' ⟨rfl, hw'⟩
    rw [hw']
    clear hw' w'
    go_wp2_with fail
    generalize w4.alloc (.cells (dgV X) 25) = w5 at B5 hp5 n5 ⊢
    refine (leaf_any b _ bn _ (rd_belowB HB1.out B5.out (Nat.le_refl _)) HL1.out hbn ((rowAt_below B5.out hg 0 64).trans HT.out)).mono ?_
    rintro e w6 ⟨rfl, hb6⟩
    have B6 := Lib.hid (B5.out.trans (hb6.mono B5.out.size))
    have hYl := shaM_length (0 :: b)
    obtain ⟨Y, hY⟩ : ∃ Y, shaM (0 :: b) = Y := ⟨_, rfl⟩
    rw [hY] at hYl ⊢
    have HY := Lib.hid hY; clear hY
    clear hb6 n5
    go_wp2_with fail
    refine (rleaf_any b _ bn _ (rd_belowB HB1.out B6.out (Nat.le_refl _)) HL1.out hbn).mono ?_
    rintro e w7 ⟨rfl, hb7⟩
    rw [HY.out]
    have B7 := Lib.hid (B6.out.trans (hb7.mono B6.out.size))
    clear hb7
    have hes2 := eql_self Y hYl
    go_wp2
    go_ret
    exact ⟨rfl, B7.out⟩
end Go.Proofs.YtamjldakllafcaaDoor
