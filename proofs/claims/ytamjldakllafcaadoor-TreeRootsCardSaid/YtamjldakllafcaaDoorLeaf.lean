/- The walks of tree.Leaf and the reference's Leaf. Conditions: none beyond each theorem's own. -/
import Derived.Test.YtamjldakllafcaaDoorRefN
namespace Go.Proofs.YtamjldakllafcaaDoor
set_option linter.unusedVariables false
set_option linter.unusedSimpArgs false
open Go.RowKit
attribute [local go_sem ↓] run_load_agg run_store_agg

set_option maxHeartbeats 1000000 in
set_option maxRecDepth 100000 in
theorem leaf_any (b : List UInt8) (v : Value) (n : Nat) (w : World) (hb : rd w v n (b.map vB)) (hl : b.length = n) (hn : n ≤ 140737488351232) (hT : tabAt w) :
    Calls Tryd.prog 31 #[v] w fun e w' => e = .returned (.agg (dgV (shaM (0 :: b)))) ∧ Below w.heap.size w w' := by
  have hg := rowAt_lt hT
  have hb' := hb
  obtain ⟨ao, cap, rfl, k1, k2, -⟩ := hb'
  unfold maxLen at k2
  have HT := Lib.hid hT; have HB := Lib.hid hb; have HL := Lib.hid hl
  clear hT hb hl
  obtain ⟨i0, hi0, hz0, hz1, hz2⟩ := info_parts info_u8
  have HS0 := Lib.hid (SmI.start w)
  have HO0 := Lib.hid (own_lit (w := w.alloc (.cells zD 25)) (base := w.heap.size + 1) (e := 5) (sz := 1) #[vB 0] 1 (by simp) (by decide) rfl)
  have HS1 := Lib.hid (HS0.out.alloc (.cells #[vB 0] 5))
  have HR := Lib.hid (rd_belowB HB.out HS1.out.below (Nat.le_refl _))
  rw [show (w.alloc (.cells zD 25)).heap.size = w.heap.size + 1 from by simp] at HO0
  go_enter Tryd.func31, Tryd.ntmps31
  go_wp2_with (at_builtin; refine wpList_append_rd rfl (.tmp 3) (.tmp 4) 32 rfl 5 i0 (.int .u8 0) 1 1 Tryd.underlying32 hi0 hz0 hz1 hz2 rfl (by decide) (w.heap.size + 1) 1 _ HO0.out n (b.map vB) ?c1 HR.out (vB_plain _) ?c2 ?c3 ?c4 ?_)
  case c1 => have := HL.out; simp [this]
  case c2 => unfold maxLen; omega
  case c3 => omega
  intro v1 w1 ho1 _ hg1
  have HS2 := Lib.hid (SmI.grown HS1.out hg1 (fun k hk => own_rows HO0.out k hk))
  have ho2 : own w1 (w.heap.size + 1) 5 1 v1 (1 + n) ((0 :: b).map vB) := by simpa using ho1
  have HO2 := Lib.hid (own_rd ho2); clear ho1 ho2 hg1
  go_wp2_with fail
  refine (shaSum_any (0 :: b) _ (1 + n) w1 HO2.out (by have := HL.out; simp; omega) (by omega) ((rowAt_below HS2.out.below hg 0 64).trans HT.out)).mono ?_
  rintro e w3 ⟨rfl, hb3⟩
  have HS3 := Lib.hid (SmI.below' HS2.out hb3); clear hb3
  have hrw : (rowAt w3 w.heap.size 0 32).isSome = true := by rw [rowAt_whole HS3.out.d0 32 rfl]; rfl
  have hrg := wrAt_of_heap HS3.out.d0
  have hpl : plainCells (dgV (shaM (0 :: b))) = true := dgV_plain _
  have hsz : (dgV (shaM (0 :: b))).size = 32 := by rw [dgV_size, shaM_length]
  go_wp2
  refine bodyPost_ret (v := .agg (dgV (shaM (0 :: b)))) (results_cell_at rfl _ _ w.heap.size 0 _ rfl agg_digest ?_) rfl ⟨rfl, ?_⟩
  · rw [cells_digest]; exact rowAt_put_same HS3.out.d0 (dgV (shaM (0 :: b))) (by rw [hsz]; rfl) 32 hsz.symm
  · exact putAt_below HS3.out.below (Nat.le_refl _) _ _
set_option maxHeartbeats 1000000 in
set_option maxRecDepth 100000 in
theorem rleaf_any (b : List UInt8) (v : Value) (n : Nat) (w : World) (hb : rd w v n (b.map vB)) (hl : b.length = n) (hn : n ≤ 140737488351232) :
    Calls Tryd.prog 32 #[v] w fun e w' => e = .returned (.agg (dgV (shaM (0 :: b)))) ∧ Below w.heap.size w w' := by
  have hb' := hb
  obtain ⟨ao, cap, rfl, k1, k2, -⟩ := hb'
  unfold maxLen at k2
  have HB := Lib.hid hb; have HL := Lib.hid hl
  clear hb hl
  obtain ⟨i0, hi0, hz0, hz1, hz2⟩ := info_parts info_u8
  have HS0 := Lib.hid (SmI.start w)
  have HO0 := Lib.hid (own_lit (w := w.alloc (.cells zD 25)) (base := w.heap.size + 1) (e := 5) (sz := 1) #[vB 0] 1 (by simp) (by decide) rfl)
  have HS1 := Lib.hid (HS0.out.alloc (.cells #[vB 0] 5))
  have HR := Lib.hid (rd_belowB HB.out HS1.out.below (Nat.le_refl _))
  rw [show (w.alloc (.cells zD 25)).heap.size = w.heap.size + 1 from by simp] at HO0
  go_enter Tryd.func32, Tryd.ntmps32
  go_wp2_with (at_builtin; refine wpList_append_rd rfl (.tmp 3) (.tmp 4) 32 rfl 5 i0 (.int .u8 0) 1 1 Tryd.underlying32 hi0 hz0 hz1 hz2 rfl (by decide) (w.heap.size + 1) 1 _ HO0.out n (b.map vB) ?c1 HR.out (vB_plain _) ?c2 ?c3 ?c4 ?_)
  case c1 => have := HL.out; simp [this]
  case c2 => unfold maxLen; omega
  case c3 => omega
  intro v1 w1 ho1 _ hg1
  have HS2 := Lib.hid (SmI.grown HS1.out hg1 (fun k hk => own_rows HO0.out k hk))
  have ho2 : own w1 (w.heap.size + 1) 5 1 v1 (1 + n) ((0 :: b).map vB) := by simpa using ho1
  have HO2 := Lib.hid (own_rd ho2); clear ho1 ho2 hg1
  go_wp2_with fail
  refine (rsum_any (0 :: b) _ (1 + n) w1 HO2.out (by have := HL.out; simp; omega) (by omega)).mono ?_
  rintro e w3 ⟨rfl, hb3⟩
  have HS3 := Lib.hid (SmI.below' HS2.out hb3); clear hb3
  have hrw : (rowAt w3 w.heap.size 0 32).isSome = true := by rw [rowAt_whole HS3.out.d0 32 rfl]; rfl
  have hrg := wrAt_of_heap HS3.out.d0
  have hpl : plainCells (dgV (shaM (0 :: b))) = true := dgV_plain _
  have hsz : (dgV (shaM (0 :: b))).size = 32 := by rw [dgV_size, shaM_length]
  go_wp2
  refine bodyPost_ret (v := .agg (dgV (shaM (0 :: b)))) (results_cell_at rfl _ _ w.heap.size 0 _ rfl agg_digest ?_) rfl ⟨rfl, ?_⟩
  · rw [cells_digest]; exact rowAt_put_same HS3.out.d0 (dgV (shaM (0 :: b))) (by rw [hsz]; rfl) 32 hsz.symm
  · exact putAt_below HS3.out.below (Nat.le_refl _) _ _
end Go.Proofs.YtamjldakllafcaaDoor
