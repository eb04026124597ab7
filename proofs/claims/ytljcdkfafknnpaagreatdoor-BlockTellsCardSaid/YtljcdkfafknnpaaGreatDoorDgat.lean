/- Merged: Dgat. Conditions: none beyond each theorem's own. -/
import Derived.Test.YtljcdkfafknnpaaGreatDoorSrd
import Derived.Test.YtljcdkfafknnpaaGreatDoorIdb
namespace Go.Proofs.YtljcdkfafknnpaaGreatDoor
set_option linter.unusedVariables false
set_option linter.unusedSimpArgs false
open Go.RowKit
attribute [local go_sem ↓] run_load_agg run_store_agg run_load_any
theorem keptPut {w w1 : World} {X : Nat} {cs : Array Value} {T : TypeId} {bs : List BoxD} (h : Kept w ((X, cs, T) :: bs) w1) (i : Nat) (v : Value) (hX : w.heap.size ≤ X) (hn : ∀ b ∈ bs, b.1 ≠ X) : Kept w ((X, cs.setIfInBounds i v, T) :: bs) (w1.setCell ⟨X, i, none⟩ v) :=
  ⟨h.below.setCell hX _, fun b hb => by
    rcases List.mem_cons.1 hb with rfl | hb
    · exact heap_setCell_same _ _ _ _ _ _ (h.get 0 _ rfl)
    · exact (Below.heap_setCell _ _ _ _ (hn b hb)).trans (h.at_ b (List.mem_cons_of_mem _ hb))⟩
/-- A digest of which so many bytes are laid. -/
def pD (c : List UInt8) (k : Nat) : Array Value := dgV (c.take k ++ List.replicate (32 - k) 0)
theorem pD_0 (c : List UInt8) : pD c 0 = zD := by unfold pD; rw [zD_eq]; simp
theorem pD_32 (c : List UInt8) (h : c.length = 32) : pD c 32 = dgV c := by unfold pD; rw [List.take_of_length_le (by omega)]; simp
theorem pD_size (c : List UInt8) (h : c.length = 32) (k : Nat) (hk : k ≤ 32) : (pD c k).size = 32 := by unfold pD; rw [dgV_size, List.length_append, List.length_take, List.length_replicate]; omega
theorem pD_set (c : List UInt8) (h : c.length = 32) (k : Nat) (hk : k < 32) : (pD c k).setIfInBounds k (.int .u8 (bv (c.getD k 0))) = pD c (k + 1) := by
  have hs : c.take (k + 1) = c.take k ++ [c.getD k 0] := by
    rw [List.take_add_one, List.getD_eq_getElem?_getD, List.getElem?_eq_getElem (by omega)]; rfl
  have hr : List.replicate (32 - k) (0 : UInt8) = 0 :: List.replicate (32 - (k + 1)) 0 := by
    rw [show 32 - k = (32 - (k + 1)) + 1 from by omega, List.replicate_succ]
  have hl : (c.take k).length = k := by rw [List.length_take]; omega
  unfold pD
  rw [hs, hr]
  apply Array.ext'
  simp only [dgV, Array.toList_setIfInBounds, List.map_append, List.map_cons, List.map_nil]
  rw [List.set_append_right _ _ (by rw [List.length_map, hl]; exact Nat.le_refl _), List.length_map, hl, Nat.sub_self, List.set_cons_zero]
  simp [vB]
set_option maxHeartbeats 4000000 in
set_option maxRecDepth 100000 in
theorem digestAt_any (b : List UInt8) (n : Nat) (ao : Option Addr) (cap : Nat) (i : Nat) (w : World) (h : rd w (.slice ao n cap) n (b.map vB)) (hl : b.length = n) (hi : i + 32 ≤ n) (hn : n ≤ 140737488351232) :
    Calls Tryz.prog 38 #[.slice ao n cap, .int .i64 i] w fun e w' => e = .returned (.agg (dgV ((b.drop i).take 32))) ∧ Below w.heap.size w w' := by
  have h' := h
  obtain ⟨ao', cap', e0, k1, k2, k3⟩ := h'
  cases e0
  clear k2
  rcases k3 with k3 | ⟨g, off, rfl, k3⟩
  · have := congrArg List.length k3; rw [List.length_map, List.length_nil] at this; omega
  obtain ⟨c, hc⟩ : ∃ c, (b.drop i).take 32 = c := ⟨_, rfl⟩
  have hcl : c.length = 32 := by rw [← hc, List.length_take, List.length_drop]; omega
  have HCL := Lib.hid hcl
  have HC : Hid (∀ j, j < 32 → w.cell? ⟨g, off + (i + j), none⟩ = some (.int .u8 (bv (c.getD j 0)))) := Lib.hid (fun j hj => by
    rw [← hc]
    simp only [List.getD_eq_getElem?_getD, List.getElem?_take_of_lt hj, List.getElem?_drop]
    apply k3; simp [List.getElem?_eq_getElem (show i + j < b.length by omega), vB])
  rw [hc]
  clear k3 hc hcl h
  have k0 := ((Kept.refl w).alloc zD 23).alloc zD 23
  rw [show (w.alloc (.cells zD 23)).heap.size = w.heap.size + 1 from by simp] at k0
  have K0 := Lib.hid k0
  clear k0
  go_enter Tryz.func38, Tryz.ntmps38
  go_upto_region 3 with fail
  change Code.wp _ _ _ _ ((w.alloc (.cells zD 23)).alloc (.cells zD 23))
  obtain ⟨A, hA⟩ : ∃ A, w.heap.size + 1 = A := ⟨_, rfl⟩
  have HAG : Hid (w.heap.size ≤ A) := Lib.hid (by omega)
  have HNE : Hid (w.heap.size ≠ A) := Lib.hid (by omega)
  rw [hA] at K0 ⊢
  clear hA
  obtain ⟨G, hG⟩ : ∃ G, w.heap.size = G := ⟨_, rfl⟩
  have K0' : Hid (∃ w0, (w.alloc (.cells zD 23)).alloc (.cells zD 23) = w0 ∧ Kept w [(A, zD, 23), (G, zD, 23)] w0) := Lib.hid ⟨_, rfl, by rw [← hG]; exact K0.out⟩
  have HGG : Hid (w.heap.size ≤ G) := Lib.hid (by omega)
  have HNE2 : Hid (G ≠ A) := Lib.hid (by rw [← hG]; exact HNE.out)
  rw [hG] at ⊢
  clear hG K0 HNE
  obtain ⟨w0, hw0, k0⟩ := K0'.out
  rw [hw0]
  have K0 := Lib.hid k0
  clear hw0 k0 K0'
  go_loopw [6] (fun ix wr => ∃ k : Nat, k ≤ 32 ∧ ix = .int .i64 k ∧ Hid (Kept w [(A, pD c k, 23), (G, zD, 23)] wr)) (fun ix _ => 32 - (intOf ix).toNat)
  case atStart => exact ⟨0, by omega, rfl, Lib.hid (by rw [pD_0]; exact K0.out)⟩
  case round =>
    obtain ⟨k, hk, rfl, HK⟩ := hrel
    by_cases hlt : k < 32
    · have hcx : wr.cell? ⟨g, off + (i + k), none⟩ = some (.int .u8 (bv (c.getD k 0))) := (HK.out.below.cell (World.block_lt_of_cell? w _ (HC.out k hlt))).trans (HC.out k hlt)
      obtain ⟨y, hy⟩ : ∃ y, c.getD k 0 = y := ⟨_, rfl⟩
      have HPS : Hid ((pD c k).setIfInBounds k (.int .u8 (bv y)) = pD c (k + 1)) := Lib.hid (by rw [← hy]; exact pD_set c HCL.out k hlt)
      rw [hy] at hcx
      have hd : wr.heap[A]? = some (.cells (pD c k) 23 (0, 0)) := HK.out.get 0 _ rfl
      have hsz : (pD c k).size = 32 := pD_size c HCL.out k hk
      have hc0 : ∃ z, wr.cell? ⟨A, k, none⟩ = some z := by
        rw [cell_of_row _ _ _ _ _ _ hd]; exact ⟨_, Array.getElem?_eq_getElem (by omega)⟩
      obtain ⟨z, hz⟩ := hc0
      have hfr : wr.frozen? ⟨A, k, none⟩ = false := frozen_of_row _ _ _ _ _ hd
      clear hy hd hsz
      go_wp2
      go_roundw
      case rel => exact ⟨k + 1, by omega, by go_num, Lib.hid (by rw [← HPS.out]; exact keptPut HK.out k _ HAG.out (by intro b hb; rcases List.mem_singleton.1 hb with rfl; exact HNE2.out))⟩
      case measure => simp [intOf]; omega
    · obtain rfl : k = 32 := by omega
      have hd : wr.heap[A]? = some (.cells (dgV c) 23 (0, 0)) := by rw [← pD_32 c HCL.out]; exact HK.out.get 0 _ rfl
      have hrw : rowAt wr A 0 32 = some (dgV c) := rowAt_whole hd 32 (by rw [dgV_size, HCL.out])
      have s1 : (rowAt wr G 0 32).isSome = true := by rw [HK.out.row 1 _ 32 rfl rfl]; rfl
      have s2 : wrAt wr G = true := wrAt_of_heap (HK.out.get 1 _ rfl)
      have s3 : plainCells (dgV c) = true := dgV_plain _
      have hsz : (dgV c).size = 32 := by rw [dgV_size, HCL.out]
      clear hd
      go_wp2
      refine bodyPost_ret (v := .agg (dgV c)) (results_cell_at rfl _ _ G 0 _ rfl agg_digest ?_) rfl ⟨rfl, ?_⟩
      · rw [cells_digest]; exact rowAt_put_same (HK.out.get 1 _ rfl) (dgV c) (by rw [hsz]; rfl) 32 hsz.symm
      · exact putAt_below HK.out.below HGG.out _ _
end Go.Proofs.YtljcdkfafknnpaaGreatDoor
