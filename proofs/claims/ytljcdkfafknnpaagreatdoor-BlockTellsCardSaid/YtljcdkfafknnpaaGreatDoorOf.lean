/- Merged: Of. Conditions: none beyond each theorem's own. -/
import Derived.Test.YtljcdkfafknnpaaGreatDoorMb
namespace Go.Proofs.YtljcdkfafknnpaaGreatDoor
set_option linter.unusedVariables false
set_option linter.unusedSimpArgs false
open Go.RowKit
attribute [local go_sem ↓] run_load_agg run_store_agg

structure OfI (w : World) (wr : World) : Prop where
  below : Below w.heap.size w wr
  d0 : wr.heap[w.heap.size]? = some (.cells zD 23 (0, 0))
theorem OfI.grown {w wr w1 : World} (h : OfI w wr) {row : Option Nat} (hg : wr.grownBy w1 row) (hr : ∀ k, row = some k → w.heap.size + 1 ≤ k) : OfI w w1 := by
  have hl := (Array.getElem?_eq_some_iff.1 h.d0).1
  exact ⟨h.below.grown hg (by omega) (fun k hk => by have := hr k hk; omega), by rw [hg.block _ hl (fun e => by have := hr _ e.symm; omega)]; exact h.d0⟩
theorem OfI.alloc {w wr : World} (h : OfI w wr) (o : Obj) : OfI w (wr.alloc o) := by
  have hl := (Array.getElem?_eq_some_iff.1 h.d0).1
  exact ⟨h.below.alloc (by omega) o, by rw [Below.heap_alloc _ _ _ hl]; exact h.d0⟩
theorem OfI.start (w : World) : OfI w (w.alloc (.cells zD 23)) :=
  ⟨(Below.refl _ _).alloc (Nat.le_refl _) _, heap_alloc_new w _⟩
theorem OfI.put {w wr : World} (h : OfI w wr) {C : Nat} (hC : w.heap.size < C) (off : Nat) (cs : Array Value) : OfI w (putAt wr C off cs) :=
  ⟨putAt_below h.below (by omega) _ _, by rw [putAt_other _ _ _ _ _ (by omega)]; exact h.d0⟩
set_option maxHeartbeats 1000000 in
set_option maxRecDepth 100000 in
theorem of_any (tag : UInt8) (ds : List (List UInt8)) (h32 : ∀ d ∈ ds, d.length = 32) (v : Value) (n : Nat) (w : World) (hb : rd w v n (ds.flatten.map vB)) (hl : ds.length = n) (hn : n ≤ 1048576) (hT : tabAt w) :
    Calls Tryz.prog 140 #[.int .u8 (bv tag), v] w fun e w' => e = .returned (.agg (dgV (shaM (tag :: ds.flatten)))) ∧ Below w.heap.size w w' := by
  have hg := rowAt_lt hT
  have hb' := hb
  obtain ⟨ao, cap, rfl, k1, k2, -⟩ := hb'
  unfold maxLen at k2
  have HT := Lib.hid hT; have HB := Lib.hid hb; clear hb hT
  obtain ⟨i0, hi0, hz0, hz1, hz2⟩ := info_parts info_u8
  have HS := Lib.hid ((OfI.start w).alloc (.cells #[.int .u8 (bv tag)] 5))
  have HO := Lib.hid (own_lit (w := w.alloc (.cells zD 23)) (base := w.heap.size + 1) (e := 5) (sz := 1) #[vB tag] 1 (by simp) (by decide) rfl)
  go_enter Tryz.func140, Tryz.ntmps140
  go_wp2_with fail
  go_loopw [5, 12] (fun t c wr => ∃ i : Nat, i ≤ n ∧ c = .int .i64 i ∧ own wr (w.heap.size + 1) 5 1 t (1 + 32 * i) ((tag :: (ds.take i).flatten).map vB) ∧ OfI w wr) (fun _ c _ => n - (intOf c).toNat)
  case atStart =>
    have e := HO.out
    rw [show (w.alloc (.cells zD 23)).heap.size = w.heap.size + 1 from by simp] at e
    exact ⟨0, by omega, rfl, e, HS.out⟩
  case round =>
    obtain ⟨i, hin, rfl, ho, hS⟩ := hrel
    by_cases hi : i < n
    · obtain ⟨g, off, rfl, hrows⟩ := rd_digest h32 hl HB.out (by omega)
      have hrow := hrows i hi
      clear hrows
      obtain ⟨D, hD⟩ : ∃ D, ds.getD i [] = D := ⟨_, rfl⟩
      rw [hD] at hrow
      have hgw := rowAt_lt hrow
      have hrow2 : rowAt wr g (off + 32 * i) 32 = some (dgV D) := (rowAt_below hS.below hgw _ _).trans hrow
      have hrow3 : rowAt wr g (off + i * 32) 32 = some (dgV D) := by rw [Nat.mul_comm]; exact hrow2
      have HD := Lib.hid hD; clear hD
      have HO1 := Lib.hid ho; have HS1 := Lib.hid hS; clear ho hS
      clear hrow
      have hDl : D.length = 32 := by
        rw [← HD.out, List.getD_eq_getElem?_getD, List.getElem?_eq_getElem (by omega), Option.getD_some]
        exact h32 _ (List.getElem_mem _)
      have hsz : (dgV D).size = 32 := by rw [dgV_size, hDl]
      have hpl : plainCells (dgV D) = true := dgV_plain _
      have ha0 : (wr.alloc (.cells zD 23)).heap[wr.heap.size]? = some (.cells zD 23 (0, 0)) := heap_alloc_new wr _
      have ha1 : (rowAt (wr.alloc (.cells zD 23)) wr.heap.size 0 32).isSome = true := by rw [rowAt_whole ha0 32 rfl]; rfl
      have ha2 : wrAt (wr.alloc (.cells zD 23)) wr.heap.size = true := wrAt_of_heap ha0
      have ha3 := Lib.hid (heap_alloc_new wr (.cells (dgV D) 23))
      have HS2 := Lib.hid (HS1.out.alloc (.cells (dgV D) 23))
      have HO2 := Lib.hid (own_alloc HO1.out (.cells (dgV D) 23))
      unfold zD at ha1 ha2
      clear ha0
      go_wp2_with (at_builtin; go_loud (refine wpList_append_rd rfl (.tmp 16) (.tmp 17) 26 rfl 5 i0 (.int .u8 0) 1 1 Tryz.underlying26 hi0 hz0 hz1 hz2 rfl (by decide) (w.heap.size + 1) (1 + 32 * i) _ HO2.out 32 (D.map vB) ?c1 ?c5 (vB_plain _) ?c2 ?c3 ?c4 ?_))
      case c1 => simp [hDl]
      case c5 => exact rd_block ha3.out 32 hsz (by decide)
      case c2 => unfold maxLen; omega
      case c3 => omega
      case c4 => have := (Array.getElem?_eq_some_iff.1 HS2.out.d0).1; exact this
      intro v1 w1 ho1 _ hg1
      have HS3 := Lib.hid (HS2.out.grown hg1 (fun k hk => own_rows HO2.out k hk))
      have HO3 := Lib.hid ho1; clear ho1 hg1
      go_wp2
      go_roundw
      case rel =>
        refine ⟨i + 1, by omega, by go_num, ?_, HS3.out⟩
        have e := HO3.out
        have e1 : ds.take (i + 1) = ds.take i ++ [D] := by
          have := HD.out
          rw [List.getD_eq_getElem?_getD, List.getElem?_eq_getElem (by omega), Option.getD_some] at this
          rw [List.take_add_one, List.getElem?_eq_getElem (by omega), this]
          rfl
        rw [e1, show 1 + 32 * (i + 1) = 1 + 32 * i + 32 from by omega]
        simpa using e
      case measure => simp [intOf]; omega
    · obtain rfl : i = n := by omega
      have HR := Lib.hid (own_rd ho)
      have hlen : (tag :: (ds.take i).flatten).length = 1 + 32 * i := by have := flat_length ds h32; rw [List.take_of_length_le (by omega)]; simp only [List.length_cons]; omega
      have HT2 := Lib.hid ((rowAt_below hS.below hg 0 64).trans HT.out)
      have HS2 := Lib.hid hS; clear ho hS
      go_wp2_with fail
      refine (shaSum_any _ _ _ wr HR.out hlen (by omega) HT2.out).mono ?_
      rintro e w3 ⟨rfl, hb3⟩
      rw [List.take_of_length_le (by omega)]
      have HB3 := Lib.hid (HS2.out.below.trans (hb3.mono HS2.out.below.size))
      have hd3 : w3.heap[w.heap.size]? = some (.cells zD 23 (0, 0)) := (hb3.block _ (Array.getElem?_eq_some_iff.1 HS2.out.d0).1).trans HS2.out.d0
      have hrw : (rowAt w3 w.heap.size 0 32).isSome = true := by rw [rowAt_whole hd3 32 rfl]; rfl
      have hrg := wrAt_of_heap hd3
      have hpl : plainCells (dgV (shaM (tag :: ds.flatten))) = true := dgV_plain _
      have hsz : (dgV (shaM (tag :: ds.flatten))).size = 32 := by rw [dgV_size, shaM_length]
      have HD3 := Lib.hid hd3; clear hd3 hb3
      go_wp2
      refine bodyPost_ret (v := .agg (dgV (shaM (tag :: ds.flatten)))) (results_cell_at rfl _ _ w.heap.size 0 _ rfl agg_digest ?_) rfl ⟨rfl, ?_⟩
      · rw [cells_digest]; exact rowAt_put_same HD3.out (dgV (shaM (tag :: ds.flatten))) (by rw [hsz]; rfl) 32 hsz.symm
      · exact putAt_below HB3.out (Nat.le_refl _) _ _
end Go.Proofs.YtljcdkfafknnpaaGreatDoor
