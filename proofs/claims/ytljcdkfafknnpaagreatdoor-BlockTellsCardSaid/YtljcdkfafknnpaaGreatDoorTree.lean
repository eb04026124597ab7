/- Merged: Tree. Conditions: none beyond each theorem's own. -/
import Derived.Test.YtljcdkfafknnpaaGreatDoorDig
import Derived.Test.YtljcdkfafknnpaaGreatDoorBits
namespace Go.Proofs.YtljcdkfafknnpaaGreatDoor
set_option linter.unusedVariables false
set_option linter.unusedSimpArgs false
open Go.RowKit
attribute [local go_sem ↓] run_load_agg run_store_agg run_build_two

/-- The digest of two. -/
def nodeM (l r : List UInt8) : List UInt8 := shaM (1 :: (l ++ r))
set_option maxHeartbeats 1000000 in
set_option maxRecDepth 100000 in
theorem node_any (l r : List UInt8) (hl : l.length = 32) (hr : r.length = 32) (w : World) (hT : tabAt w) :
    Calls Tryz.prog 122 #[.agg (dgV l), .agg (dgV r)] w fun e w' => e = .returned (.agg (dgV (nodeM l r))) ∧ Below w.heap.size w w' := by
  have HT := Lib.hid hT; clear hT
  have hA : rowAt (((w.alloc (.cells (dgV l) 23)).alloc (.cells (dgV r) 23)).alloc (.cells zD 23)) w.heap.size 0 32 = some (dgV l) := by
    refine rowAt_whole (t := 23) (fr := (0, 0)) ?_ 32 (by rw [dgV_size, hl])
    rw [Below.heap_alloc _ _ _ (by simp; omega), Below.heap_alloc _ _ _ (by simp)]
    exact heap_alloc_new w _
  have hB : rowAt (((w.alloc (.cells (dgV l) 23)).alloc (.cells (dgV r) 23)).alloc (.cells zD 23)) (w.heap.size + 1) 0 32 = some (dgV r) := by
    refine rowAt_whole (t := 23) (fr := (0, 0)) ?_ 32 (by rw [dgV_size, hr])
    rw [Below.heap_alloc _ _ _ (by simp)]
    have := heap_alloc_new (w.alloc (.cells (dgV l) 23)) (.cells (dgV r) 23)
    rwa [show (w.alloc (.cells (dgV l) 23)).heap.size = w.heap.size + 1 from by simp] at this
  unfold zD at hA hB
  have hsl : (dgV l).size = 32 := by rw [dgV_size, hl]
  have hsr : (dgV r).size = 32 := by rw [dgV_size, hr]
  go_enter Tryz.func122, Tryz.ntmps122
  go_wp2_with fail
  have hd0 : Hid ((((w.alloc (.cells (dgV l) 23)).alloc (.cells (dgV r) 23)).alloc (.cells zD 23)).heap[w.heap.size + 1 + 1]? = some (.cells zD 23 (0, 0))) := by
    have := heap_alloc_new ((w.alloc (.cells (dgV l) 23)).alloc (.cells (dgV r) 23)) (.cells zD 23)
    rwa [show ((w.alloc (.cells (dgV l) 23)).alloc (.cells (dgV r) 23)).heap.size = w.heap.size + 1 + 1 from by simp] at this
  have hb0 : Hid (Below w.heap.size w (((w.alloc (.cells (dgV l) 23)).alloc (.cells (dgV r) 23)).alloc (.cells zD 23))) :=
    (((Below.refl _ _).alloc (Nat.le_refl _) _).alloc (by simp) _).alloc (by simp; omega) _
  have hs0 : (((w.alloc (.cells (dgV l) 23)).alloc (.cells (dgV r) 23)).alloc (.cells zD 23)).heap.size = w.heap.size + 1 + 1 + 1 := by simp
  change Calls _ _ _ ((((w.alloc (.cells (dgV l) 23)).alloc (.cells (dgV r) 23)).alloc (.cells zD 23)).alloc _) _
  clear hA hB
  generalize ((w.alloc (.cells (dgV l) 23)).alloc (.cells (dgV r) 23)).alloc (.cells zD 23) = wa at hd0 hb0 hs0 ⊢
  have hn0 := heap_alloc_new wa (.cells (dgV l ++ dgV r) 23)
  have hrd := rd_block hn0 64 (by simp [hsl, hsr]) (by decide)
  rw [hs0] at hrd
  have hrd2 : Hid (rd (wa.alloc (.cells (dgV l ++ dgV r) 23)) (.slice (some ⟨w.heap.size + 1 + 1 + 1, 0, none⟩) 2 2) 2 ([l, r].flatten.map vB)) := by
    obtain ⟨a, c, e, -, -, h3⟩ := hrd
    cases e
    refine ⟨_, _, rfl, Nat.le_refl _, by decide, ?_⟩
    have e2 : ([l, r].flatten.map vB) = (dgV l ++ dgV r).toList := by simp [dgV]
    rw [e2]; exact h3
  have hb1 : Hid (Below w.heap.size w (wa.alloc (.cells (dgV l ++ dgV r) 23))) := hb0.out.alloc (by omega) _
  clear hrd hn0
  have hg := rowAt_lt HT.out
  refine (of_any 1 [l, r] (by simp [hl, hr]) _ 2 _ hrd2.out rfl (by decide) ((rowAt_below hb1.out hg 0 64).trans HT.out)).mono ?_
  rintro e w3 ⟨rfl, hb3⟩
  have HB3 := Lib.hid (hb1.out.trans (hb3.mono hb1.out.size))
  have hd3 : w3.heap[w.heap.size + 1 + 1]? = some (.cells zD 23 (0, 0)) := by
    rw [hb3.block _ (by simp; omega), Below.heap_alloc _ _ _ (by omega)]; exact hd0.out
  have hn : nodeM l r = shaM (1 :: [l, r].flatten) := by simp [nodeM]
  rw [← hn]
  have hrw : (rowAt w3 (w.heap.size + 1 + 1) 0 32).isSome = true := by rw [rowAt_whole hd3 32 rfl]; rfl
  have hrg := wrAt_of_heap hd3
  have hpl : plainCells (dgV (nodeM l r)) = true := dgV_plain _
  have hsz : (dgV (nodeM l r)).size = 32 := by rw [dgV_size, nodeM, shaM_length]
  have HD3 := Lib.hid hd3; clear hd3 hb3 hn
  go_wp2
  refine bodyPost_ret (v := .agg (dgV (nodeM l r))) (results_cell_at rfl _ _ (w.heap.size + 1 + 1) 0 _ rfl agg_digest ?_) rfl ⟨rfl, ?_⟩
  · rw [cells_digest]; exact rowAt_put_same HD3.out (dgV (nodeM l r)) (by rw [hsz]; rfl) 32 hsz.symm
  · exact putAt_below HB3.out (by omega) _ _
attribute [irreducible] nodeM
/-- The greatest power of 2 below. -/
def halfM (n : Nat) : Nat := 2 ^ (Lib.bitLen (n - 1) - 1)
theorem half_any (n : Nat) (hn : 2 ≤ n) (h2 : n ≤ 256) (w : World) :
    Calls Tryz.prog 121 #[.int .i64 n] w fun e w' => e = .returned (.int .i64 (halfM n)) ∧ w' = w := by
  have h8 := Lib.bitLen_le8' ((n : Int) - 1) (by omega) (by omega)
  have h0 : 1 ≤ Lib.bitLen (n - 1) := by
    rw [Lib.bitLen_half _ (by omega) (by omega)]; omega
  have ee : ((n : Int) - 1).toNat = n - 1 := by omega
  rw [ee] at h8
  unfold halfM
  generalize hL : Lib.bitLen (n - 1) = L at h8 h0 ⊢
  have HL := Lib.hid hL; clear hL
  go_enter Tryz.func121, Tryz.ntmps121
  go_wp2_with fail
  refine (len_any ((n : Int) - 1) _ (by omega) (by omega)).mono ?_
  rintro e w' ⟨rfl, rfl⟩
  rw [ee, HL.out]
  obtain rfl | rfl | rfl | rfl | rfl | rfl | rfl | rfl : L = 1 ∨ L = 2 ∨ L = 3 ∨ L = 4 ∨ L = 5 ∨ L = 6 ∨ L = 7 ∨ L = 8 := by omega
  all_goals
    go_wp2
    go_ret
    exact ⟨rfl, rfl⟩
end Go.Proofs.YtljcdkfafknnpaaGreatDoor
