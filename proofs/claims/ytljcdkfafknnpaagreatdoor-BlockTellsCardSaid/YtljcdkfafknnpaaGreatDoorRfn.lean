/- Merged: Rfn. Conditions: none beyond each theorem's own. -/
import Derived.Test.YtljcdkfafknnpaaGreatDoorMf
import Derived.Test.YtljcdkfafknnpaaGreatDoorTroot
namespace Go.Proofs.YtljcdkfafknnpaaGreatDoor
set_option linter.unusedVariables false
set_option linter.unusedSimpArgs false
open Go.RowKit
attribute [local go_sem ↓] run_load_agg run_store_agg run_build_two

set_option maxHeartbeats 1000000 in
set_option maxRecDepth 100000 in
theorem rof_any (tag : UInt8) (ds : List (List UInt8)) (h32 : ∀ d ∈ ds, d.length = 32) (v : Value) (n : Nat) (w : World) (hb : rd w v n (ds.flatten.map vB)) (hl : ds.length = n) (hn : n ≤ 1048576) :
    Calls Tryz.prog 81 #[.int .u8 (bv tag), v] w fun e w' => e = .returned (.agg (dgV (shaM (tag :: ds.flatten)))) ∧ Below w.heap.size w w' := by
  have hb' := hb
  obtain ⟨ao, cap, rfl, k1, k2, -⟩ := hb'
  unfold maxLen at k2
  have HB := Lib.hid hb; clear hb
  obtain ⟨i0, hi0, hz0, hz1, hz2⟩ := info_parts info_u8
  have HS := Lib.hid ((OfI.start w).alloc (.cells #[.int .u8 (bv tag)] 5))
  have HO := Lib.hid (own_lit (w := w.alloc (.cells zD 23)) (base := w.heap.size + 1) (e := 5) (sz := 1) #[vB tag] 1 (by simp) (by decide) rfl)
  go_enter Tryz.func81, Tryz.ntmps81
  go_wp2_with fail
  go_loopw [5, 6] (fun t c wr => ∃ i : Nat, i ≤ n ∧ c = .int .i64 i ∧ own wr (w.heap.size + 1) 5 1 t (1 + 32 * i) ((tag :: (ds.take i).flatten).map vB) ∧ OfI w wr) (fun _ c _ => n - (intOf c).toNat)
  case atStart =>
    have e := HO.out
    rw [show (w.alloc (.cells zD 23)).heap.size = w.heap.size + 1 from by simp] at e
    exact ⟨0, by omega, rfl, e, HS.out⟩
  case round =>
    obtain ⟨i, hin, rfl, ho, hS⟩ := hrel
    by_cases hi : i < n
    · obtain ⟨g, off, rfl, hrows⟩ := rd_digest h32 hl HB.out (by omega)
      have hrow := hrows i hi
      clear hrows
      obtain ⟨D, hD⟩ : ∃ D, ds.getD i [] = D := ⟨_, rfl⟩
      rw [hD] at hrow
      have hgw := rowAt_lt hrow
      have hrow2 : rowAt wr g (off + 32 * i) 32 = some (dgV D) := (rowAt_below hS.below hgw _ _).trans hrow
      have hrow3 : rowAt wr g (off + i * 32) 32 = some (dgV D) := by rw [Nat.mul_comm]; exact hrow2
      have HD := Lib.hid hD; clear hD
      have HO1 := Lib.hid ho; have HS1 := Lib.hid hS; clear ho hS
      clear hrow
      have hDl : D.length = 32 := by
        rw [← HD.out, List.getD_eq_getElem?_getD, List.getElem?_eq_getElem (by omega), Option.getD_some]
        exact h32 _ (List.getElem_mem _)
      have hsz : (dgV D).size = 32 := by rw [dgV_size, hDl]
      have hpl : plainCells (dgV D) = true := dgV_plain _
      have ha0 : (wr.alloc (.cells zD 23)).heap[wr.heap.size]? = some (.cells zD 23 (0, 0)) := heap_alloc_new wr _
      have ha1 : (rowAt (wr.alloc (.cells zD 23)) wr.heap.size 0 32).isSome = true := by rw [rowAt_whole ha0 32 rfl]; rfl
      have ha2 : wrAt (wr.alloc (.cells zD 23)) wr.heap.size = true := wrAt_of_heap ha0
      have ha3 := Lib.hid (heap_alloc_new wr (.cells (dgV D) 23))
      have HS2 := Lib.hid (HS1.out.alloc (.cells (dgV D) 23))
      have HO2 := Lib.hid (own_alloc HO1.out (.cells (dgV D) 23))
      unfold zD at ha1 ha2
      clear ha0
      go_wp2_with (at_builtin; go_loud (refine wpList_append_rd rfl (.tmp 20) (.tmp 21) 26 rfl 5 i0 (.int .u8 0) 1 1 Tryz.underlying26 hi0 hz0 hz1 hz2 rfl (by decide) (w.heap.size + 1) (1 + 32 * i) _ HO2.out 32 (D.map vB) ?c1 ?c5 (vB_plain _) ?c2 ?c3 ?c4 ?_))
      case c1 => simp [hDl]
      case c5 => exact rd_block ha3.out 32 hsz (by decide)
      case c2 => unfold maxLen; omega
      case c3 => omega
      case c4 => have := (Array.getElem?_eq_some_iff.1 HS2.out.d0).1; exact this
      intro v1 w1 ho1 _ hg1
      have HS3 := Lib.hid (HS2.out.grown hg1 (fun k hk => own_rows HO2.out k hk))
      have HO3 := Lib.hid ho1; clear ho1 hg1
      go_wp2
      go_roundw
      case rel =>
        refine ⟨i + 1, by omega, by go_num, ?_, HS3.out⟩
        have e := HO3.out
        have e1 : ds.take (i + 1) = ds.take i ++ [D] := by
          have := HD.out
          rw [List.getD_eq_getElem?_getD, List.getElem?_eq_getElem (by omega), Option.getD_some] at this
          rw [List.take_add_one, List.getElem?_eq_getElem (by omega), this]
          rfl
        rw [e1, show 1 + 32 * (i + 1) = 1 + 32 * i + 32 from by omega]
        simpa using e
      case measure => simp [intOf]; omega
    · obtain rfl : i = n := by omega
      have HR := Lib.hid (own_rd ho)
      have hlen : (tag :: (ds.take i).flatten).length = 1 + 32 * i := by have := flat_length ds h32; rw [List.take_of_length_le (by omega)]; simp only [List.length_cons]; omega
      have HS2 := Lib.hid hS; clear ho hS
      go_wp2_with fail
      refine (rsum_any _ _ _ wr HR.out hlen (by omega)).mono ?_
      rintro e w3 ⟨rfl, hb3⟩
      rw [List.take_of_length_le (by omega)]
      have HB3 := Lib.hid (HS2.out.below.trans (hb3.mono HS2.out.below.size))
      have hd3 : w3.heap[w.heap.size]? = some (.cells zD 23 (0, 0)) := (hb3.block _ (Array.getElem?_eq_some_iff.1 HS2.out.d0).1).trans HS2.out.d0
      have hrw : (rowAt w3 w.heap.size 0 32).isSome = true := by rw [rowAt_whole hd3 32 rfl]; rfl
      have hrg := wrAt_of_heap hd3
      have hpl : plainCells (dgV (shaM (tag :: ds.flatten))) = true := dgV_plain _
      have hsz : (dgV (shaM (tag :: ds.flatten))).size = 32 := by rw [dgV_size, shaM_length]
      have HD3 := Lib.hid hd3; clear hd3 hb3
      go_wp2
      refine bodyPost_ret (v := .agg (dgV (shaM (tag :: ds.flatten)))) (results_cell_at rfl _ _ w.heap.size 0 _ rfl agg_digest ?_) rfl ⟨rfl, ?_⟩
      · rw [cells_digest]; exact rowAt_put_same HD3.out (dgV (shaM (tag :: ds.flatten))) (by rw [hsz]; rfl) 32 hsz.symm
      · exact putAt_below HB3.out (Nat.le_refl _) _ _
set_option maxHeartbeats 1000000 in
set_option maxRecDepth 100000 in
theorem rnode_any (l r : List UInt8) (hl : l.length = 32) (hr : r.length = 32) (w : World) :
    Calls Tryz.prog 45 #[.agg (dgV l), .agg (dgV r)] w fun e w' => e = .returned (.agg (dgV (nodeM l r))) ∧ Below w.heap.size w w' := by
  have hA : rowAt (((w.alloc (.cells (dgV l) 23)).alloc (.cells (dgV r) 23)).alloc (.cells zD 23)) w.heap.size 0 32 = some (dgV l) := by
    refine rowAt_whole (t := 23) (fr := (0, 0)) ?_ 32 (by rw [dgV_size, hl])
    rw [Below.heap_alloc _ _ _ (by simp; omega), Below.heap_alloc _ _ _ (by simp)]
    exact heap_alloc_new w _
  have hB : rowAt (((w.alloc (.cells (dgV l) 23)).alloc (.cells (dgV r) 23)).alloc (.cells zD 23)) (w.heap.size + 1) 0 32 = some (dgV r) := by
    refine rowAt_whole (t := 23) (fr := (0, 0)) ?_ 32 (by rw [dgV_size, hr])
    rw [Below.heap_alloc _ _ _ (by simp)]
    have := heap_alloc_new (w.alloc (.cells (dgV l) 23)) (.cells (dgV r) 23)
    rwa [show (w.alloc (.cells (dgV l) 23)).heap.size = w.heap.size + 1 from by simp] at this
  unfold zD at hA hB
  have hsl : (dgV l).size = 32 := by rw [dgV_size, hl]
  have hsr : (dgV r).size = 32 := by rw [dgV_size, hr]
  go_enter Tryz.func45, Tryz.ntmps45
  go_wp2_with fail
  have hd0 : Hid ((((w.alloc (.cells (dgV l) 23)).alloc (.cells (dgV r) 23)).alloc (.cells zD 23)).heap[w.heap.size + 1 + 1]? = some (.cells zD 23 (0, 0))) := by
    have := heap_alloc_new ((w.alloc (.cells (dgV l) 23)).alloc (.cells (dgV r) 23)) (.cells zD 23)
    rwa [show ((w.alloc (.cells (dgV l) 23)).alloc (.cells (dgV r) 23)).heap.size = w.heap.size + 1 + 1 from by simp] at this
  have hb0 : Hid (Below w.heap.size w (((w.alloc (.cells (dgV l) 23)).alloc (.cells (dgV r) 23)).alloc (.cells zD 23))) :=
    (((Below.refl _ _).alloc (Nat.le_refl _) _).alloc (by simp) _).alloc (by simp; omega) _
  have hs0 : (((w.alloc (.cells (dgV l) 23)).alloc (.cells (dgV r) 23)).alloc (.cells zD 23)).heap.size = w.heap.size + 1 + 1 + 1 := by simp
  change Calls _ _ _ ((((w.alloc (.cells (dgV l) 23)).alloc (.cells (dgV r) 23)).alloc (.cells zD 23)).alloc _) _
  clear hA hB
  generalize ((w.alloc (.cells (dgV l) 23)).alloc (.cells (dgV r) 23)).alloc (.cells zD 23) = wa at hd0 hb0 hs0 ⊢
  have hn0 := heap_alloc_new wa (.cells (dgV l ++ dgV r) 23)
  have hrd := rd_block hn0 64 (by simp [hsl, hsr]) (by decide)
  rw [hs0] at hrd
  have hrd2 : Hid (rd (wa.alloc (.cells (dgV l ++ dgV r) 23)) (.slice (some ⟨w.heap.size + 1 + 1 + 1, 0, none⟩) 2 2) 2 ([l, r].flatten.map vB)) := by
    obtain ⟨a, c, e, -, -, h3⟩ := hrd
    cases e
    refine ⟨_, _, rfl, Nat.le_refl _, by decide, ?_⟩
    have e2 : ([l, r].flatten.map vB) = (dgV l ++ dgV r).toList := by simp [dgV]
    rw [e2]; exact h3
  have hb1 : Hid (Below w.heap.size w (wa.alloc (.cells (dgV l ++ dgV r) 23))) := hb0.out.alloc (by omega) _
  clear hrd hn0
  refine (rof_any 1 [l, r] (by simp [hl, hr]) _ 2 _ hrd2.out rfl (by decide)).mono ?_
  rintro e w3 ⟨rfl, hb3⟩
  have HB3 := Lib.hid (hb1.out.trans (hb3.mono hb1.out.size))
  have hd3 : w3.heap[w.heap.size + 1 + 1]? = some (.cells zD 23 (0, 0)) := by
    rw [hb3.block _ (by simp; omega), Below.heap_alloc _ _ _ (by omega)]; exact hd0.out
  have hn : nodeM l r = shaM (1 :: [l, r].flatten) := by simp [nodeM_eq]
  rw [← hn]
  have hrw : (rowAt w3 (w.heap.size + 1 + 1) 0 32).isSome = true := by rw [rowAt_whole hd3 32 rfl]; rfl
  have hrg := wrAt_of_heap hd3
  have hpl : plainCells (dgV (nodeM l r)) = true := dgV_plain _
  have hsz : (dgV (nodeM l r)).size = 32 := by rw [dgV_size, nodeM_length]
  have HD3 := Lib.hid hd3; clear hd3 hb3 hn
  go_wp2
  refine bodyPost_ret (v := .agg (dgV (nodeM l r))) (results_cell_at rfl _ _ (w.heap.size + 1 + 1) 0 _ rfl agg_digest ?_) rfl ⟨rfl, ?_⟩
  · rw [cells_digest]; exact rowAt_put_same HD3.out (dgV (nodeM l r)) (by rw [hsz]; rfl) 32 hsz.symm
  · exact putAt_below HB3.out (by omega) _ _
end Go.Proofs.YtljcdkfafknnpaaGreatDoor
