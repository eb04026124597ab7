/- The walks of coin.Compare and the reference's Places. Conditions: none beyond each theorem's own. -/
import Derived.Test.YtljcdkfafknnpaaDoorDig0
import Derived.Lib.Bytealg
import Derived.Lib.BytesEntry
import Derived.Stop.Asserts
import Derived.Deep.RegionWith
namespace Go.Proofs.YtljcdkfafknnpaaDoor
set_option linter.unusedVariables false
set_option linter.unusedSimpArgs false
open Go.RowKit
attribute [local go_sem ↓] run_load_agg run_store_agg run_load_any

structure PlaceD where
  tx : List UInt8
  ix : Int
def plV (p : PlaceD) : Array Value := dgV p.tx ++ #[.int .i64 p.ix]
theorem plV_size (p : PlaceD) (h : p.tx.length = 32) : (plV p).size = 33 := by simp [plV, dgV_size, h]
theorem plV_plain (p : PlaceD) : plainCells (plV p) = true := by
  have := dgV_plain p.tx
  simp only [plainCells, plV, Array.toList_append, List.all_append, Bool.and_eq_true] at this ⊢
  exact ⟨this, rfl⟩
theorem plV_get (p : PlaceD) (h : p.tx.length = 32) (j : Nat) (hj : j < 32) : (plV p)[j]? = some (.int .u8 (bv (p.tx.getD j 0))) := by
  unfold plV
  rw [Array.getElem?_append_left (by rw [dgV_size]; omega), dgV_get _ _ (by omega)]
theorem plV_ix (p : PlaceD) (h : p.tx.length = 32) : (plV p)[32]? = some (.int .i64 p.ix) := by
  unfold plV
  rw [Array.getElem?_append_right (by rw [dgV_size]; omega), dgV_size, h]
  rfl
/-- Which place is ahead. -/
def plC (p q : PlaceD) : Int :=
  if Lib.compareBytes p.tx q.tx = 0 then (if p.ix < q.ix then -1 else if q.ix < p.ix then 1 else 0) else Lib.compareBytes p.tx q.tx
theorem cmpB_same : ∀ (a b : List UInt8), a.length = b.length → Lib.compareBytes a b = 0 → a = b
  | [], [], _, _ => rfl
  | [], _ :: _, h, _ => by simp at h
  | _ :: _, [], h, _ => by simp at h
  | x :: a, y :: b, h, e => by
    unfold Lib.compareBytes at e
    split at e
    · cases e
    · split at e
      · cases e
      · rename_i h1 h2
        have hxy : x = y := by
          have a1 := UInt8.not_lt.1 h1; have a2 := UInt8.not_lt.1 h2
          exact UInt8.le_antisymm a2 a1
        rw [hxy, cmpB_same a b (by simpa using h) e]
theorem cmpB_refl : ∀ (a : List UInt8), Lib.compareBytes a a = 0
  | [] => rfl
  | x :: a => by unfold Lib.compareBytes; rw [if_neg (UInt8.lt_irrefl x), if_neg (UInt8.lt_irrefl x)]; exact cmpB_refl a
theorem cmpB_drop (a b : List UInt8) (j : Nat) (ha : j < a.length) (hb : j < b.length) (h : a.getD j 0 = b.getD j 0) : Lib.compareBytes (a.drop j) (b.drop j) = Lib.compareBytes (a.drop (j + 1)) (b.drop (j + 1)) := by
  rw [drop_cons a j ha, drop_cons b j hb, h, Lib.compareBytes, if_neg (UInt8.lt_irrefl _), if_neg (UInt8.lt_irrefl _)]
theorem cmpB_lt (a b : List UInt8) (j : Nat) (ha : j < a.length) (hb : j < b.length) (h : bv (a.getD j 0) < bv (b.getD j 0)) : Lib.compareBytes (a.drop j) (b.drop j) = -1 := by
  have : a.getD j 0 < b.getD j 0 := by unfold bv at h; exact UInt8.lt_iff_toNat_lt.2 (by omega)
  rw [drop_cons a j ha, drop_cons b j hb, Lib.compareBytes, if_pos this]
theorem cmpB_gt (a b : List UInt8) (j : Nat) (ha : j < a.length) (hb : j < b.length) (h : bv (b.getD j 0) < bv (a.getD j 0)) : Lib.compareBytes (a.drop j) (b.drop j) = 1 := by
  have : b.getD j 0 < a.getD j 0 := by unfold bv at h; exact UInt8.lt_iff_toNat_lt.2 (by omega)
  have h2 : ¬ a.getD j 0 < b.getD j 0 := by
    intro h3
    have a1 := UInt8.lt_iff_toNat_lt.1 this; have a2 := UInt8.lt_iff_toNat_lt.1 h3; omega
  rw [drop_cons a j ha, drop_cons b j hb, Lib.compareBytes, if_neg h2, if_pos this]
@[go_sem] theorem agg_place : aggOf Tryd.prog 35 = true := by kernel_rfl
@[go_sem] theorem cells_place : Tryd.prog.cellsOf 35 = 33 := by kernel_rfl
set_option maxHeartbeats 2000000 in
set_option maxRecDepth 100000 in
theorem places_any (p q : PlaceD) (hp : p.tx.length = 32) (hq : q.tx.length = 32) (w : World) :
    Calls Tryd.prog 16 #[.agg (plV p), .agg (plV q)] w fun e w' => e = .returned (.int .i64 (plC p q)) ∧ Below w.heap.size w w' := by
  have hsp : (plV p).size = 33 := plV_size p hp
  have hsq : (plV q).size = 33 := plV_size q hq
  have hpp := plV_plain p; have hpq := plV_plain q
  have hB : Hid (Below w.heap.size w ((w.alloc (.cells (plV p) 35)).alloc (.cells (plV q) 35))) := ((Below.refl _ _).alloc (Nat.le_refl _) _).alloc (by simp) _
  have hP : Hid (((w.alloc (.cells (plV p) 35)).alloc (.cells (plV q) 35)).heap[w.heap.size]? = some (.cells (plV p) 35 (0, 0))) := by
    show _ = _
    rw [Below.heap_alloc _ _ _ (by simp)]; exact heap_alloc_new w _
  have hQ : Hid (((w.alloc (.cells (plV p) 35)).alloc (.cells (plV q) 35)).heap[w.heap.size + 1]? = some (.cells (plV q) 35 (0, 0))) := by
    have := heap_alloc_new (w.alloc (.cells (plV p) 35)) (.cells (plV q) 35)
    rwa [show (w.alloc (.cells (plV p) 35)).heap.size = w.heap.size + 1 from by simp] at this
  go_enter Tryd.func16, Tryd.ntmps16
  go_wp2_with fail
  change Code.wp _ _ _ _ ((w.alloc (.cells (plV p) 35)).alloc (.cells (plV q) 35))
  generalize (w.alloc (.cells (plV p) 35)).alloc (.cells (plV q) 35) = wa at hB hP hQ ⊢
  go_loopw [5] (fun c wr => ∃ j : Nat, j ≤ 32 ∧ c = .int .i64 j ∧ Hid (Below w.heap.size w wr) ∧ Hid (wr.heap[w.heap.size]? = some (.cells (plV p) 35 (0, 0))) ∧ Hid (wr.heap[w.heap.size + 1]? = some (.cells (plV q) 35 (0, 0))) ∧ Hid (Lib.compareBytes p.tx q.tx = Lib.compareBytes (p.tx.drop j) (q.tx.drop j))) (fun c _ => 32 - (intOf c).toNat)
  case atStart => exact ⟨0, by omega, rfl, hB, hP, hQ, Lib.hid (by simp)⟩
  case round =>
    obtain ⟨j, hj, rfl, HB, HP, HQ, HC⟩ := hrel
    by_cases hlt : j < 32
    · have c1 : wr.cell? ⟨w.heap.size, j, none⟩ = some (.int .u8 (bv (p.tx.getD j 0))) := by rw [cell_of_row _ _ _ _ _ _ HP.out, plV_get p hp j hlt]
      have c2 : wr.cell? ⟨w.heap.size + 1, j, none⟩ = some (.int .u8 (bv (q.tx.getD j 0))) := by rw [cell_of_row _ _ _ _ _ _ HQ.out, plV_get q hq j hlt]
      have HL := Lib.hid (cmpB_lt p.tx q.tx j (by omega) (by omega))
      have HG := Lib.hid (cmpB_gt p.tx q.tx j (by omega) (by omega))
      have HE := Lib.hid (fun h => cmpB_drop p.tx q.tx j (by omega) (by omega) (bv_inj h))
      generalize bv (p.tx.getD j 0) = x at c1 HL HG HE
      generalize bv (q.tx.getD j 0) = y at c2 HL HG HE
      by_cases h1 : x < y
      · have hc := HL.out h1
        have HR := Lib.hid (show plC p q = -1 by unfold plC; rw [HC.out, hc, if_neg (by decide)])
        clear hc
        go_wp2_with fail
        go_region
        all_goals
          go_wp2
          go_ret
          exact ⟨by rw [HR.out]; rfl, HB.out.drew⟩
      · by_cases h2 : y < x
        · have hc := HG.out h2
          have HR := Lib.hid (show plC p q = 1 by unfold plC; rw [HC.out, hc, if_neg (by decide)])
          clear hc
          go_wp2_with fail
          go_region
          go_wp2_with fail
          go_region
          all_goals
            go_wp2
            go_ret
            exact ⟨by rw [HR.out]; rfl, HB.out.drew.drew⟩
        · have hc := HE.out (by omega)
          have HR := Lib.hid (HC.out.trans hc)
          clear hc
          go_wp2_with fail
          go_region
          go_wp2_with fail
          go_region
          all_goals
            go_wp2
            go_roundw
            case rel => exact ⟨j + 1, by omega, by go_num, Lib.hid HB.out.drew.drew, HP, HQ, HR⟩
            case measure => simp [intOf]; omega
    · obtain rfl : j = 32 := by omega
      have hz : Lib.compareBytes p.tx q.tx = 0 := by rw [HC.out, List.drop_eq_nil_of_le (by omega), List.drop_eq_nil_of_le (by omega)]; rfl
      have c1 : wr.cell? ⟨w.heap.size, 32, none⟩ = some (.int .i64 p.ix) := by rw [cell_of_row _ _ _ _ _ _ HP.out, plV_ix p hp]
      have c2 : wr.cell? ⟨w.heap.size + 1, 32, none⟩ = some (.int .i64 q.ix) := by rw [cell_of_row _ _ _ _ _ _ HQ.out, plV_ix q hq]
      have HR := Lib.hid (show plC p q = if p.ix < q.ix then -1 else if q.ix < p.ix then 1 else 0 by unfold plC; rw [if_pos hz])
      clear hz
      generalize p.ix = x at c1 HR
      generalize q.ix = y at c2 HR
      by_cases h1 : x < y
      · go_wp2
        go_ret
        exact ⟨by rw [HR.out, if_pos h1]; rfl, HB.out⟩
      · by_cases h2 : y < x
        · go_wp2
          go_ret
          exact ⟨by rw [HR.out, if_neg (by omega), if_pos h2]; rfl, HB.out⟩
        · go_wp2
          go_ret
          exact ⟨by rw [HR.out, if_neg (by omega), if_neg (by omega)]; rfl, HB.out⟩
theorem isnan_any (n : Int) (w : World) : Calls Tryd.prog 70 #[.int .i64 n] w fun e w' => e = .returned (.bool false) ∧ w' = w := by
  go_enter Tryd.func70, Tryd.ntmps70
  go_wp2
  go_ret
  exact ⟨by simp, rfl⟩
def intC (x y : Int) : Int := if x < y then -1 else if y < x then 1 else 0
theorem cmpInt_any (x y : Int) (w : World) : Calls Tryd.prog 41 #[.int .i64 x, .int .i64 y] w fun e w' => e = .returned (.int .i64 (intC x y)) ∧ w' = w := by
  unfold intC
  by_cases h1 : x < y <;> by_cases h2 : y < x
  all_goals first
    | (exfalso; omega)
    | (go_enter Tryd.func41, Tryd.ntmps41
       go_wp2_with fail
       refine (isnan_any x _).mono ?_
       rintro e w' ⟨rfl, hw'⟩
       rw [hw']
       clear hw' w'
       go_wp2_with fail
       refine (isnan_any y _).mono ?_
       rintro e w' ⟨rfl, hw'⟩
       rw [hw']
       clear hw' w'
       go_wp2
       go_ret
       exact ⟨rfl, rfl⟩)
theorem run_bytesOf_rd {w : World} {v : Value} {n : Nat} {b : List UInt8} (h : rd w v n (b.map vB)) (hl : b.length = n) : (Extern.Bytes.bytesOf v).run Tryd.prog w = .ok ⟨b.toArray⟩ w := by
  obtain ⟨ao, cap, rfl, h1, h2, h3⟩ := h
  rcases h3 with h3 | ⟨g, off, rfl, h3⟩
  · have hb : b = [] := by simpa using h3
    subst hb
    obtain rfl : n = 0 := by simpa using hl.symm
    cases ao <;> simp [Extern.Bytes.bytesOf, Extern.Bytes.loadBytes] <;> rfl
  · have hb : Lib.bytesOf (b.map bv) = b := by
      unfold Lib.bytesOf
      rw [List.map_map]
      conv => rhs; rw [← List.map_id b]
      apply List.map_congr_left
      intro x _
      simp [bv]
    have := Lib.run_loadBytesX (P := Tryd.prog) w (b.map bv) ⟨g, off, none⟩ .empty (fun j x hj => by
      rw [Addr.add_lit]
      apply h3
      rw [List.getElem?_map] at hj ⊢
      cases hb2 : b[j]? with
      | none => rw [hb2] at hj; cases hj
      | some y => rw [hb2] at hj; simp only [Option.map_some, Option.some.injEq] at hj ⊢; rw [← hj]; rfl)
    rw [List.length_map, hl, hb] at this
    simpa [Extern.Bytes.bytesOf] using this
theorem run_compare_rd {w : World} {v1 v2 : Value} {n1 n2 : Nat} {a b : List UInt8} (h1 : rd w v1 n1 (a.map vB)) (l1 : a.length = n1) (h2 : rd w v2 n2 (b.map vB)) (l2 : b.length = n2) :
    (Extern.BytealgCompare.compare #[v1, v2]).run Tryd.prog w = .ok (.int .i64 (Lib.compareBytes a b)) w := by
  change Sem.run Tryd.prog (do pure (goInt (Extern.BytealgCompare.cmp (← Extern.Bytes.bytesOf v1) (← Extern.Bytes.bytesOf v2)))) w = _
  simp only [Sem.run_bind, run_bytesOf_rd h1 l1, run_bytesOf_rd h2 l2, Sem.run_pure, Result.andThen]
  rw [Lib.cmp_eq]
  rfl
theorem bytesCmp_any (v1 v2 : Value) (n1 n2 : Nat) (a b : List UInt8) (w : World) (h1 : rd w v1 n1 (a.map vB)) (l1 : a.length = n1) (h2 : rd w v2 n2 (b.map vB)) (l2 : b.length = n2) :
    Calls Tryd.prog 40 #[v1, v2] w fun e w' => e = .returned (.int .i64 (Lib.compareBytes a b)) ∧ w' = w := by
  have hx := @run_callFunc_extern Tryd.prog 69 _ Extern.BytealgCompare.compare Tryd.func69 (by kernel_rfl) (by kernel_rfl) (by kernel_rfl) (by kernel_rfl)
  have hc := run_compare_rd h1 l1 h2 l2
  clear h1 h2 l1 l2
  go_enter Tryd.func40, Tryd.ntmps40
  go_wp2
  go_ret
  exact ⟨rfl, rfl⟩
def orC (x y : Int) : Int := if x = 0 then y else x
theorem or2_any (x y : Int) (g : Nat) (w : World) (hc : w.heap[g]? = some (.cells #[.int .i64 x, .int .i64 y] 3 (0, 0))) :
    Calls Tryd.prog 39 #[.slice (some ⟨g, 0, none⟩) 2 2] w fun e w' => e = .returned (.int .i64 (orC x y)) ∧ w' = w := by
  unfold orC
  have c0 : w.cell? ⟨g, 0, none⟩ = some (.int .i64 x) := by rw [cell_of_row _ _ _ _ _ _ hc]; rfl
  have c1 : w.cell? ⟨g, 1, none⟩ = some (.int .i64 y) := by rw [cell_of_row _ _ _ _ _ _ hc]; rfl
  clear hc
  by_cases h0 : x = 0
  · subst h0
    by_cases h1 : y = 0
    · subst h1
      go_enter Tryd.func39, Tryd.ntmps39
      go_wp2
      refine wp_loop_rounds 3 ?_
      rw [rounds_succ]
      go_wp2
      rw [rounds_succ]
      go_wp2
      rw [rounds_succ]
      go_wp2
      go_ret
      exact ⟨rfl, rfl⟩
    · have q : (y != 0) = true := by simpa using h1
      go_enter Tryd.func39, Tryd.ntmps39
      go_wp2
      refine wp_loop_rounds 2 ?_
      rw [rounds_succ]
      go_wp2
      rw [rounds_succ]
      go_wp2
      go_ret
      exact ⟨rfl, rfl⟩
  · have q : (x != 0) = true := by simpa using h0
    go_enter Tryd.func39, Tryd.ntmps39
    go_wp2
    refine wp_loop_rounds 1 ?_
    rw [rounds_succ]
    go_wp2
    go_ret
    exact ⟨rfl, rfl⟩
set_option maxHeartbeats 2000000 in
set_option maxRecDepth 100000 in
theorem compare_any (p q : PlaceD) (hp : p.tx.length = 32) (hq : q.tx.length = 32) (w : World) :
    Calls Tryd.prog 15 #[.agg (plV p), .agg (plV q)] w fun e w' => e = .returned (.int .i64 (plC p q)) ∧ Below w.heap.size w w' := by
  have hsp : (plV p).size = 33 := plV_size p hp
  have hsq : (plV q).size = 33 := plV_size q hq
  have hpp := plV_plain p; have hpq := plV_plain q
  have hB : Hid (Below w.heap.size w ((w.alloc (.cells (plV p) 35)).alloc (.cells (plV q) 35))) := ((Below.refl _ _).alloc (Nat.le_refl _) _).alloc (by simp) _
  have hP : Hid (((w.alloc (.cells (plV p) 35)).alloc (.cells (plV q) 35)).heap[w.heap.size]? = some (.cells (plV p) 35 (0, 0))) := by
    show _ = _
    rw [Below.heap_alloc _ _ _ (by simp)]; exact heap_alloc_new w _
  have hQ : Hid (((w.alloc (.cells (plV p) 35)).alloc (.cells (plV q) 35)).heap[w.heap.size + 1]? = some (.cells (plV q) 35 (0, 0))) := by
    have := heap_alloc_new (w.alloc (.cells (plV p) 35)) (.cells (plV q) 35)
    rwa [show (w.alloc (.cells (plV p) 35)).heap.size = w.heap.size + 1 from by simp] at this
  go_enter Tryd.func15, Tryd.ntmps15
  go_wp2_with fail
  change Code.wp _ _ _ _ ((w.alloc (.cells (plV p) 35)).alloc (.cells (plV q) 35))
  generalize (w.alloc (.cells (plV p) 35)).alloc (.cells (plV q) 35) = wa at hB hP hQ ⊢
  have c1 : wa.cell? ⟨w.heap.size, 32, none⟩ = some (.int .i64 p.ix) := by rw [cell_of_row _ _ _ _ _ _ hP.out, plV_ix p hp]
  have c2 : wa.cell? ⟨w.heap.size + 1, 32, none⟩ = some (.int .i64 q.ix) := by rw [cell_of_row _ _ _ _ _ _ hQ.out, plV_ix q hq]
  have hrP : ∀ n : Nat, Hid (rd (wa.drewN n) (.slice (some ⟨w.heap.size, 0, none⟩) 32 32) 32 (p.tx.map vB)) := fun n => ⟨_, _, rfl, Nat.le_refl _, by decide, .inr ⟨_, 0, rfl, fun j u hj => by
    have hj32 : j < 32 := by have := (List.getElem?_eq_some_iff.1 hj).1; simp at this; omega
    show wa.cell? _ = _
    rw [Nat.zero_add, cell_of_row _ _ _ _ _ _ hP.out, plV_get p hp j hj32, ← hj]
    simp [List.getD_eq_getElem?_getD, List.getElem?_eq_getElem (show j < p.tx.length by omega), vB]⟩⟩
  have hrQ : ∀ n : Nat, Hid (rd (wa.drewN n) (.slice (some ⟨w.heap.size + 1, 0, none⟩) 32 32) 32 (q.tx.map vB)) := fun n => ⟨_, _, rfl, Nat.le_refl _, by decide, .inr ⟨_, 0, rfl, fun j u hj => by
    have hj32 : j < 32 := by have := (List.getElem?_eq_some_iff.1 hj).1; simp at this; omega
    show wa.cell? _ = _
    rw [Nat.zero_add, cell_of_row _ _ _ _ _ _ hQ.out, plV_get q hq j hj32, ← hj]
    simp [List.getD_eq_getElem?_getD, List.getElem?_eq_getElem (show j < q.tx.length by omega), vB]⟩⟩
  have HRP := Lib.hid (hrP 1).out; have HRQ := Lib.hid (hrQ 1).out
  clear hrP hrQ
  have hfin : Hid (plC p q = orC (Lib.compareBytes p.tx q.tx) (intC p.ix q.ix)) := rfl
  go_region_with (first
    | (go_at_call 40
       refine (bytesCmp_any _ _ 32 32 p.tx q.tx _ HRP.out hp HRQ.out hq).mono ?_
       rintro e w1 ⟨rfl, hw1⟩
       rw [hw1]
       clear hw1 w1)
    | (go_at_call 41
       refine (cmpInt_any _ _ _).mono ?_
       rintro e w1 ⟨rfl, hw1⟩
       rw [hw1]
       clear hw1 w1)
    | (go_at_call 39
       refine (or2_any _ _ _ _ (heap_alloc_new _ _)).mono ?_
       rintro e w1 ⟨rfl, hw1⟩
       rw [hw1]
       clear hw1 w1))
  all_goals
    go_wp2
    go_ret
    exact ⟨by rw [hfin.out]; rfl, (hB.out.drew.alloc (by have := hB.out.size; simp; omega) _)⟩
end Go.Proofs.YtljcdkfafknnpaaDoor
