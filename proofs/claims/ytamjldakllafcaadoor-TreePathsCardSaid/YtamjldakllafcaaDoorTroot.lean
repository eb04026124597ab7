/- The walk of tree's Root and of the laws' rooted. Conditions: none beyond each theorem's own. -/
import Derived.Test.YtamjldakllafcaaDoorRoot
import Derived.Deep.RegionLaw
namespace Go.Proofs.YtamjldakllafcaaDoor
set_option linter.unusedVariables false
set_option linter.unusedSimpArgs false
open Go.RowKit
attribute [local go_sem ↓] run_load_agg run_store_agg run_build_two run_load_any

/-- Two results, the first in a row. -/
theorem results_cell_tmp_at {P : Program} {fn : Func} {p u : Tmp} {ty : TypeId} (h : fn.results = #[.cell p ty, .tmp u]) (tmps : Array Value) (w : World) (g off : Nat) (cs : Array Value) (v : Value)
    (hp : tmps.getD p undef = .pointer (some ⟨g, off, none⟩)) (hu : tmps.getD u undef = v) (ha : aggOf P ty = true) (hr : rowAt w g off (P.cellsOf ty) = some cs) : (results fn tmps).run P w = .ok (.tuple #[.agg cs, v]) w := by
  have hp' : tmps[p]?.getD undef = .pointer (some ⟨g, off, none⟩) := by simpa using hp
  have hu' : tmps[u]?.getD undef = v := by simpa using hu
  simp [results, h, hp', hu', asAddr, run_loadVar_at ha w g off hr]
set_option maxHeartbeats 1000000 in
set_option maxRecDepth 100000 in
theorem Root_small (ls : List (List UInt8)) (h32 : ∀ d ∈ ls, d.length = 32) (v : Value) (n : Nat) (w : World) (hb : rd w v n (ls.flatten.map vB)) (hl : ls.length = n) (hn : n ≤ 256) (hT : tabAt w) :
    Calls Tryd.prog 13 #[v] w fun e w' => e = .returned (.tuple #[.agg (dgV (rootM ls)), .nilIface]) ∧ Below w.heap.size w w' := by
  have hg := rowAt_lt hT
  have HT := Lib.hid hT; clear hT
  have hb' := hb
  obtain ⟨ao, cap, rfl, k1, k2, -⟩ := hb'
  unfold maxLen at k2
  have HB := Lib.hid hb; clear hb
  have hb0 : Hid (Below w.heap.size w (w.alloc (.cells zD 25))) := (Below.refl _ _).alloc (Nat.le_refl _) _
  have hd0 : Hid ((w.alloc (.cells zD 25)).heap[w.heap.size]? = some (.cells zD 25 (0, 0))) := heap_alloc_new w _
  have hz0 : w.heap.size < (w.alloc (.cells zD 25)).heap.size := by simp
  go_enter Tryd.func13, Tryd.ntmps13
  go_wp2_with fail
  change Calls _ _ _ (w.alloc (.cells zD 25)) _
  generalize w.alloc (.cells zD 25) = wa at hb0 hd0 hz0 ⊢
  refine (root_any n ls h32 _ n wa (Nat.le_refl _) (rd_belowB HB.out hb0.out (Nat.le_refl _)) hl hn ((rowAt_below hb0.out hg 0 64).trans HT.out)).mono ?_
  rintro e w3 ⟨rfl, hb3⟩
  have B3 := Lib.hid (hb0.out.trans (hb3.mono hb0.out.size))
  have hd3 : w3.heap[w.heap.size]? = some (.cells zD 25 (0, 0)) := (hb3.block _ hz0).trans hd0.out
  have hrw : (rowAt w3 w.heap.size 0 32).isSome = true := by rw [rowAt_whole hd3 32 rfl]; rfl
  have hrg := wrAt_of_heap hd3
  have hpl : plainCells (dgV (rootM ls)) = true := dgV_plain _
  have hsz : (dgV (rootM ls)).size = 32 := by rw [dgV_size, rootM_length ls h32]
  have HD3 := Lib.hid hd3; clear hd3 hb3
  go_wp2
  refine bodyPost_ret (v := .tuple #[.agg (dgV (rootM ls)), .nilIface]) (results_cell_tmp_at rfl _ _ w.heap.size 0 _ _ rfl rfl agg_digest ?_) rfl ⟨rfl, ?_⟩
  · rw [cells_digest]; exact rowAt_put_same HD3.out (dgV (rootM ls)) (by rw [hsz]; rfl) 32 hsz.symm
  · exact putAt_below B3.out (Nat.le_refl _) _ _
set_option maxHeartbeats 1000000 in
set_option maxRecDepth 100000 in
theorem Root_big (ao : Option Addr) (n cap : Nat) (w : World) (hn : 256 < n) (k1 : n ≤ cap) (k2 : cap ≤ 2 ^ 63 - 1) :
    Calls Tryd.prog 13 #[.slice ao n cap] w fun e w' => e = .returned (.tuple #[.agg zD, .iface 47 (.int .i64 4)]) ∧ Below w.heap.size w w' := by
  go_enter Tryd.func13, Tryd.ntmps13
  go_wp2
  refine bodyPost_ret (v := .tuple #[.agg zD, .iface 47 (.int .i64 4)]) (results_cell_tmp_at rfl _ _ w.heap.size 0 _ _ rfl rfl agg_digest ?_) rfl ⟨rfl, ?_⟩
  · rw [cells_digest]; exact rowAt_whole (heap_alloc_new _ _) 32 rfl
  · exact (Below.refl _ _).alloc (Nat.le_refl _) _
/-- .. and what the laws ask first. -/
def dOne (b : UInt8) : List UInt8 := b :: List.replicate 31 0
theorem nodeM_eq (l r : List UInt8) : nodeM l r = shaM (1 :: (l ++ r)) := by unfold nodeM; rfl
theorem node12 : nodeM (dOne 1) (dOne 2) ≠ List.replicate 32 0 := by rw [nodeM_eq]; decide +kernel
theorem rootM_pair (a b : List UInt8) : rootM [a, b] = nodeM a b := by
  have h : halfM 2 = 1 := by decide
  rw [rootM_two _ (by simp) (by simp)]
  simp [h, rootM_one]
set_option maxHeartbeats 1000000 in
set_option maxRecDepth 100000 in
theorem rooted_any (w : World) (hT : tabAt w) :
    Calls Tryd.prog 12 #[] w fun e w' => e = .returned (.bool true) ∧ Below w.heap.size w w' := by
  have hg := rowAt_lt hT
  have HT := Lib.hid hT; clear hT
  go_enter Tryd.func12, Tryd.ntmps12
  go_wp2_with fail
  have hb0 : Hid (Below w.heap.size w (w.alloc (.cells (dgV (dOne 1 ++ dOne 2)) 25))) := (Below.refl _ _).alloc (Nat.le_refl _) _
  have hr0 : Hid (rd (w.alloc (.cells (dgV (dOne 1 ++ dOne 2)) 25)) (.slice (some ⟨w.heap.size, 0, none⟩) 2 2) 2 ([dOne 1, dOne 2].flatten.map vB)) := by
    obtain ⟨a, c, e, -, -, h3⟩ := rd_block (heap_alloc_new w (.cells (dgV (dOne 1 ++ dOne 2)) 25)) 64 (by simp [dgV, dOne]) (by decide)
    cases e
    refine ⟨_, _, rfl, Nat.le_refl _, by decide, ?_⟩
    have e2 : ([dOne 1, dOne 2].flatten.map vB) = (dgV (dOne 1 ++ dOne 2)).toList := by simp [dgV]
    rw [e2]; exact h3
  change Calls _ _ _ (w.alloc (.cells (dgV (dOne 1 ++ dOne 2)) 25)) _
  generalize w.alloc (.cells (dgV (dOne 1 ++ dOne 2)) 25) = wa at hb0 hr0 ⊢
  refine (Root_small [dOne 1, dOne 2] (by simp [dOne]) _ 2 wa hr0.out rfl (by decide) ((rowAt_below hb0.out hg 0 64).trans HT.out)).mono ?_
  rintro e w1 ⟨rfl, hb1⟩
  have B1 := Lib.hid (hb0.out.trans (hb1.mono hb0.out.size))
  rw [rootM_pair]
  obtain ⟨X, hX⟩ : ∃ X, nodeM (dOne 1) (dOne 2) = X := ⟨_, rfl⟩
  rw [hX]
  have hXl : X.length = 32 := by rw [← hX]; exact nodeM_length _ _
  have hne : X ≠ List.replicate 32 0 := by rw [← hX]; exact node12
  have he1 : ∀ w, (Op.equalIn 10000 25 (.agg (dgV X)) (.agg (dgV X))).run Tryd.prog w = .ok true w := fun w => by
    have := run_eql_dig X X hXl hXl w
    simpa using this
  have he2 : ∀ w, (Op.equalIn 10000 25 (.agg (dgV X)) (.agg zD)).run Tryd.prog w = .ok false w := fun w => by
    have := run_eql_dig X (List.replicate 32 0) hXl (by simp) w
    rw [← zD_eq, decide_eq_false hne] at this
    exact this
  unfold zD at he2
  have HX := Lib.hid hX; clear hX hb1
  have hsz : (dgV X).size = 32 := by rw [dgV_size, hXl]
  have hpl : plainCells (dgV X) = true := dgV_plain _
  have hra : (rowAt (w1.alloc (.cells zD 25)) w1.heap.size 0 32).isSome = true := by rw [rowAt_whole (heap_alloc_new w1 _) 32 rfl]; rfl
  have hrg : wrAt (w1.alloc (.cells zD 25)) w1.heap.size = true := wrAt_of_heap (heap_alloc_new w1 _)
  have hrl : rowAt (w1.alloc (.cells (dgV X) 25)) w1.heap.size 0 32 = some (dgV X) := rowAt_whole (heap_alloc_new w1 _) 32 hsz.symm
  have hb2 := Lib.hid (B1.out.alloc B1.out.size (.cells (dgV X) 25))
  unfold zD at hra hrg
  go_wp2_with fail
  have hz0 : w1.heap.size < (w1.alloc (.cells (dgV X) 25)).heap.size := by simp
  clear hra hrg
  generalize w1.alloc (.cells (dgV X) 25) = wb at hb2 hrl hz0 ⊢
  have hb3 := Lib.hid hb2.out.drew
  have hrl2 : rowAt wb.drew w1.heap.size 0 32 = some (dgV X) := hrl
  have hz1 : w1.heap.size < wb.drew.heap.size := hz0
  go_region_law (go_simp; go_at_call 14; refine (node_any (dOne 1) (dOne 2) (by simp [dOne]) (by simp [dOne]) _ ((rowAt_below hb3.out hg 0 64).trans HT.out)).mono ?_; rintro e w2 ⟨rfl, hb4⟩; rw [HX.out]; have hrl3 : rowAt w2 w1.heap.size 0 32 = some (dgV X) := (rowAt_below hb4 hz1 0 32).trans hrl2; have B4 := Lib.hid (hb3.out.trans (hb4.mono hb3.out.size)); clear hb4)
  all_goals
    go_wp2
    go_ret
    exact ⟨rfl, B4.out⟩
end Go.Proofs.YtamjldakllafcaaDoor
