/- Merged: Troot. Conditions: none beyond each theorem's own. -/
import Derived.Test.YtljcdkfafknnpaaGreatDoorRoot
import Derived.Deep.RegionLaw
namespace Go.Proofs.YtljcdkfafknnpaaGreatDoor
set_option linter.unusedVariables false
set_option linter.unusedSimpArgs false
open Go.RowKit
attribute [local go_sem ↓] run_load_agg run_store_agg run_build_two run_load_any

set_option maxHeartbeats 1000000 in
set_option maxRecDepth 100000 in
theorem Root_small (ls : List (List UInt8)) (h32 : ∀ d ∈ ls, d.length = 32) (v : Value) (n : Nat) (w : World) (hb : rd w v n (ls.flatten.map vB)) (hl : ls.length = n) (hn : n ≤ 256) (hT : tabAt w) :
    Calls Tryz.prog 47 #[v] w fun e w' => e = .returned (.tuple #[.agg (dgV (rootM ls)), .nilIface]) ∧ Below w.heap.size w w' := by
  have hg := rowAt_lt hT
  have HT := Lib.hid hT; clear hT
  have hb' := hb
  obtain ⟨ao, cap, rfl, k1, k2, -⟩ := hb'
  unfold maxLen at k2
  have HB := Lib.hid hb; clear hb
  have hb0 : Hid (Below w.heap.size w (w.alloc (.cells zD 23))) := (Below.refl _ _).alloc (Nat.le_refl _) _
  have hd0 : Hid ((w.alloc (.cells zD 23)).heap[w.heap.size]? = some (.cells zD 23 (0, 0))) := heap_alloc_new w _
  have hz0 : w.heap.size < (w.alloc (.cells zD 23)).heap.size := by simp
  go_enter Tryz.func47, Tryz.ntmps47
  go_wp2_with fail
  change Calls _ _ _ (w.alloc (.cells zD 23)) _
  generalize w.alloc (.cells zD 23) = wa at hb0 hd0 hz0 ⊢
  refine (root_any n ls h32 _ n wa (Nat.le_refl _) (rd_belowB HB.out hb0.out (Nat.le_refl _)) hl hn ((rowAt_below hb0.out hg 0 64).trans HT.out)).mono ?_
  rintro e w3 ⟨rfl, hb3⟩
  have B3 := Lib.hid (hb0.out.trans (hb3.mono hb0.out.size))
  have hd3 : w3.heap[w.heap.size]? = some (.cells zD 23 (0, 0)) := (hb3.block _ hz0).trans hd0.out
  have hrw : (rowAt w3 w.heap.size 0 32).isSome = true := by rw [rowAt_whole hd3 32 rfl]; rfl
  have hrg := wrAt_of_heap hd3
  have hpl : plainCells (dgV (rootM ls)) = true := dgV_plain _
  have hsz : (dgV (rootM ls)).size = 32 := by rw [dgV_size, rootM_length ls h32]
  have HD3 := Lib.hid hd3; clear hd3 hb3
  go_wp2
  refine bodyPost_ret (v := .tuple #[.agg (dgV (rootM ls)), .nilIface]) (results_cell_tmp_at rfl _ _ w.heap.size 0 _ _ rfl rfl agg_digest ?_) rfl ⟨rfl, ?_⟩
  · rw [cells_digest]; exact rowAt_put_same HD3.out (dgV (rootM ls)) (by rw [hsz]; rfl) 32 hsz.symm
  · exact putAt_below B3.out (Nat.le_refl _) _ _
set_option maxHeartbeats 1000000 in
set_option maxRecDepth 100000 in
theorem Root_big (ao : Option Addr) (n cap : Nat) (w : World) (hn : 256 < n) (k1 : n ≤ cap) (k2 : cap ≤ 2 ^ 63 - 1) :
    Calls Tryz.prog 47 #[.slice ao n cap] w fun e w' => e = .returned (.tuple #[.agg zD, .iface 30 (.int .i64 4)]) ∧ Below w.heap.size w w' := by
  go_enter Tryz.func47, Tryz.ntmps47
  go_wp2
  refine bodyPost_ret (v := .tuple #[.agg zD, .iface 30 (.int .i64 4)]) (results_cell_tmp_at rfl _ _ w.heap.size 0 _ _ rfl rfl agg_digest ?_) rfl ⟨rfl, ?_⟩
  · rw [cells_digest]; exact rowAt_whole (heap_alloc_new _ _) 32 rfl
  · exact (Below.refl _ _).alloc (Nat.le_refl _) _
theorem nodeM_eq (l r : List UInt8) : nodeM l r = shaM (1 :: (l ++ r)) := by unfold nodeM; rfl
end Go.Proofs.YtljcdkfafknnpaaGreatDoor
