/- The walk of sha.Sum and sha.Of. Conditions: none beyond each theorem's own. -/
import Derived.Test.YtamjldakllafcaaDoorHsum
namespace Go.Proofs.YtamjldakllafcaaDoor
set_option linter.unusedVariables false
set_option linter.unusedSimpArgs false
open Go.RowKit
attribute [local go_sem ↓] run_load_agg run_store_agg

set_option maxHeartbeats 1000000 in
theorem shaSum_any (b : List UInt8) (v : Value) (n : Nat) (w : World) (hb : rd w v n (b.map vB)) (hl : b.length = n) (hn : n ≤ 140737488353000) (hT : tabAt w) :
    Calls Tryd.prog 60 #[v] w fun e w' => e = .returned (.agg (dgV (shaM b))) ∧ Below w.heap.size w w' := by
  have hg := rowAt_lt hT
  have HT := Lib.hid hT; have HB := Lib.hid hb; clear hb hT
  go_enter Tryd.func60, Tryd.ntmps60
  go_wp2_with fail
  have hb0 : Below w.heap.size w (w.alloc (.cells zD 25)) := (Below.refl _ _).alloc (Nat.le_refl _) _
  have hd0 : (w.alloc (.cells zD 25)).heap[w.heap.size]? = some (.cells zD 25 (0, 0)) := heap_alloc_new w _
  have hs0 : (w.alloc (.cells zD 25)).heap.size = w.heap.size + 1 := by simp
  obtain ⟨wa, hwa⟩ : ∃ wa, w.alloc (.cells zD 25) = wa := ⟨_, rfl⟩
  change Calls _ _ _ (w.alloc (.cells zD 25)) _
  rw [hwa] at hb0 hd0 hs0 ⊢
  clear hwa
  have HB0 := Lib.hid hb0; have HD0 := Lib.hid hd0; clear hb0 hd0
  refine (new_any wa).mono ?_
  rintro e w1 ⟨g, rfl, hH, hb1⟩
  have HH := Lib.hid hH; have HB1 := Lib.hid (HB0.out.trans (hb1.mono HB0.out.size)); have HE1 := Lib.hid hb1; clear hH hb1
  go_wp2_with fail
  refine (write_any wa.heap.size g [] b _ v n w1 HH.out (rd_below HB.out HB1.out) hl (by simpa using hn) ((rowAt_below HB1.out hg 0 64).trans HT.out) (by omega) HE1.out.size).mono ?_
  rintro e w2 ⟨rfl, ⟨r', hH2⟩, hb2⟩
  have HH2 := Lib.hid hH2; have HB2 := Lib.hid (HB1.out.trans (hb2.mono (by omega))); have HE2 := Lib.hid (HE1.out.trans hb2); clear hH2 hb2
  go_wp2_with fail
  refine (sum_any wa.heap.size g ([] ++ b) r' w2 HH2.out (by simp; omega) ((rowAt_below HB2.out hg 0 64).trans HT.out)).mono ?_
  rintro e w3 ⟨rfl, hb3⟩
  have HB3 := Lib.hid (HB2.out.trans (hb3.mono HB2.out.size)); have HE3 := Lib.hid (HE2.out.trans (hb3.mono HE2.out.size)); clear hb3
  rw [List.nil_append]
  have hd3 : w3.heap[w.heap.size]? = some (.cells zD 25 (0, 0)) := (HE3.out.block _ (by omega)).trans HD0.out
  have hrw : (rowAt w3 w.heap.size 0 32).isSome = true := by rw [rowAt_whole hd3 32 rfl]; rfl
  have hrg := wrAt_of_heap hd3
  have hpl : plainCells (dgV (shaM b)) = true := dgV_plain _
  have hsz : (dgV (shaM b)).size = 32 := by rw [dgV_size, shaM_length]
  have HD3 := Lib.hid hd3; clear hd3
  go_wp2
  refine bodyPost_ret (v := .agg (dgV (shaM b))) (results_cell_at rfl _ _ w.heap.size 0 _ rfl agg_digest ?_) rfl ⟨rfl, ?_⟩
  · rw [cells_digest]; exact rowAt_put_same HD3.out (dgV (shaM b)) (by rw [hsz]; rfl) 32 hsz.symm
  · exact putAt_below HB3.out (Nat.le_refl _) _ _
end Go.Proofs.YtamjldakllafcaaDoor
