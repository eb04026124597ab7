/- Merged: Hdd. Conditions: none beyond each theorem's own. -/
import Derived.Test.YtljcdkfafknnpaaGreatDoorMd
import Derived.Test.YtljcdkfafknnpaaGreatDoorZof
import Derived.Test.YtljcdkfafknnpaaGreatDoorRap
namespace Go.Proofs.YtljcdkfafknnpaaGreatDoor
set_option linter.unusedVariables false
set_option linter.unusedSimpArgs false
open Go.RowKit
structure HeadD where
  prev : List UInt8
  root : List UInt8
  height : Int
  time : Int
  bits : Int
  nonce : Int
structure HdOk (h : HeadD) : Prop where
  p : h.prev.length = 32
  r : h.root.length = 32
def hdV (h : HeadD) : Array Value := dgV h.prev ++ dgV h.root ++ #[.int .i64 h.height, .int .i64 h.time, .int .i64 h.bits, .int .i64 h.nonce]
def zHd : Array Value := #[.int .u8 0, .int .u8 0, .int .u8 0, .int .u8 0, .int .u8 0, .int .u8 0, .int .u8 0, .int .u8 0, .int .u8 0, .int .u8 0, .int .u8 0, .int .u8 0, .int .u8 0, .int .u8 0, .int .u8 0, .int .u8 0, .int .u8 0, .int .u8 0, .int .u8 0, .int .u8 0, .int .u8 0, .int .u8 0, .int .u8 0, .int .u8 0, .int .u8 0, .int .u8 0, .int .u8 0, .int .u8 0, .int .u8 0, .int .u8 0, .int .u8 0, .int .u8 0, .int .u8 0, .int .u8 0, .int .u8 0, .int .u8 0, .int .u8 0, .int .u8 0, .int .u8 0, .int .u8 0, .int .u8 0, .int .u8 0, .int .u8 0, .int .u8 0, .int .u8 0, .int .u8 0, .int .u8 0, .int .u8 0, .int .u8 0, .int .u8 0, .int .u8 0, .int .u8 0, .int .u8 0, .int .u8 0, .int .u8 0, .int .u8 0, .int .u8 0, .int .u8 0, .int .u8 0, .int .u8 0, .int .u8 0, .int .u8 0, .int .u8 0, .int .u8 0, .int .i64 0, .int .i64 0, .int .i64 0, .int .i64 0]
def hZero : HeadD := ⟨List.replicate 32 0, List.replicate 32 0, 0, 0, 0, 0⟩
theorem hZero_ok : HdOk hZero := ⟨by simp [hZero], by simp [hZero]⟩
theorem zHd_eq : zHd = hdV hZero := by rfl
theorem hdV_size (h : HeadD) (k : HdOk h) : (hdV h).size = 68 := by simp [hdV, dgV_size, k.p, k.r]
theorem hdV_plain (h : HeadD) : plainCells (hdV h) = true := by
  have h1 := dgV_plain h.prev
  have h2 := dgV_plain h.root
  simp only [plainCells, hdV, Array.toList_append, List.all_append, Bool.and_eq_true] at h1 h2 ⊢
  exact ⟨⟨h1, h2⟩, rfl⟩
theorem hdV_tail (h : HeadD) (k : HdOk h) : (hdV h)[64]? = some (.int .i64 h.height) ∧ (hdV h)[65]? = some (.int .i64 h.time) ∧ (hdV h)[66]? = some (.int .i64 h.bits) ∧ (hdV h)[67]? = some (.int .i64 h.nonce) := by
  have hz : (dgV h.prev ++ dgV h.root).size = 64 := by simp [dgV_size, k.p, k.r]
  unfold hdV
  refine ⟨?_, ?_, ?_, ?_⟩ <;> (rw [Array.getElem?_append_right (by omega), hz]; rfl)
theorem hdV_prev (h : HeadD) (k : HdOk h) : (hdV h).extract 0 32 = dgV h.prev := by
  have hz : (dgV h.prev).size = 32 := by rw [dgV_size, k.p]
  apply Array.ext
  · simp [hdV_size h k, hz]
  · intro i h1 h2
    rw [hz] at h2
    simp only [Array.getElem_extract, Nat.zero_add, hdV]
    rw [Array.getElem_append_left (by simp [hz]; omega), Array.getElem_append_left (by omega)]
theorem hdV_root (h : HeadD) (k : HdOk h) : (hdV h).extract 32 (32 + 32) = dgV h.root := by
  have hz : (dgV h.prev).size = 32 := by rw [dgV_size, k.p]
  have hz2 : (dgV h.root).size = 32 := by rw [dgV_size, k.r]
  apply Array.ext
  · simp [hdV_size h k, hz2]
  · intro i h1 h2
    rw [hz2] at h2
    simp only [Array.getElem_extract, hdV]
    rw [Array.getElem_append_left (by simp [hz, hz2]; omega), Array.getElem_append_right (by omega)]
    congr 1; omega
theorem hd_prev {w : World} {g o : Nat} {h : HeadD} (hr : rowAt w g o 68 = some (hdV h)) (k : HdOk h) : rowAt w g o 32 = some (dgV h.prev) := by
  have := rowAt_part hr 0 32 (by omega)
  rw [Nat.add_zero, Nat.zero_add, hdV_prev h k] at this
  exact this
theorem hd_root {w : World} {g o : Nat} {h : HeadD} (hr : rowAt w g o 68 = some (hdV h)) (k : HdOk h) : rowAt w g (o + 32) 32 = some (dgV h.root) := by
  have := rowAt_part hr 32 32 (by omega)
  rw [hdV_root h k] at this
  exact this
/-- A digest in a row, read as a slice. -/
theorem rd_dig {w : World} {g o : Nat} {d : List UInt8} (h : rowAt w g o 32 = some (dgV d)) (hd : d.length = 32) : rd w (.slice (some ⟨g, o, none⟩) 32 32) d.length (d.map vB) := by
  rw [hd]
  refine ⟨_, _, rfl, Nat.le_refl _, by unfold maxLen; omega, .inr ⟨g, o, rfl, fun j u hj => ?_⟩⟩
  have hlt : j < 32 := by have := (List.getElem?_eq_some_iff.1 hj).1; simp [hd] at this; exact this
  rw [cell_of_rowAt h j hlt]
  simpa [dgV] using hj
@[go_sem] theorem agg_head : aggOf Tryz.prog 25 = true := by kernel_rfl
@[go_sem] theorem cells_head : Tryz.prog.cellsOf 25 = 68 := by kernel_rfl
/-- What the walk asks where a head is laid into a new box. -/
theorem new_hd (w : World) (h : HeadD) (k : HdOk h) : (rowAt (w.alloc (.cells zHd 25)) w.heap.size 0 68).isSome = true ∧ wrAt (w.alloc (.cells zHd 25)) w.heap.size = true ∧ plainCells (hdV h) = true ∧ (hdV h).size = 68 :=
  ⟨by rw [rowAt_whole (heap_alloc_new w _) 68 rfl]; rfl, wrAt_of_heap (heap_alloc_new w _), hdV_plain h, hdV_size h k⟩
theorem built_hd (parts : List (Nat × Value)) : Tryz.prog.built 25 parts = Instr.fill (fun x => #[(0, 32), (32, 32), (64, 1), (65, 1), (66, 1), (67, 1)][x]?) zHd parts := by kernel_rfl
theorem exec_build_hd0 (ev : Operand → Value) (w : World) (dst : Option Tmp) (type : TypeId) (pos : String) (after : Array Edge) (guard : Option (Nat × Bool)) :
    (execOp ev ⟨dst, .build 25 #[], type, pos, after, guard⟩).run Tryz.prog w = .ok (.value (.agg zHd)) w := by
  have := run_build (P := Tryz.prog) w 25 #[] zHd (by rw [built_hd]; rfl)
  simp only [execOp, List.map_toArray, List.map_nil, Sem.run_bind, this]
  rfl
theorem built_hd2 (d r : List UInt8) (hd : d.length = 32) (hr : r.length = 32) : Tryz.prog.built 25 [(0, .agg (dgV d)), (1, .agg (dgV r))] = some (hdV ⟨d, r, 0, 0, 0, 0⟩) := by
  have h1 : (dgV d).size = 32 := by rw [dgV_size, hd]
  have h2 : (dgV r).size = 32 := by rw [dgV_size, hr]
  have hz : zHd.size = 68 := rfl
  have hl1 : (dgV d).toList.length = 32 := by rw [Array.length_toList, h1]
  rw [built_hd, fill_step _ _ 0 (.agg (dgV d)) 0 32 _ rfl (by simpa [Value.cells] using h1) (by omega), fill_step _ _ 1 (.agg (dgV r)) 32 32 _ rfl (by simpa [Value.cells] using h2) (by simp [Value.cells, h1, hz])]
  simp only [Instr.fill, List.take_zero, List.nil_append, Value.cells]
  congr 1
  apply Array.ext'
  simp only [List.toList_toArray, hdV, Array.toList_append]
  have e1 : zHd.toList.drop 32 = List.replicate 32 (Value.int .u8 0) ++ [.int .i64 0, .int .i64 0, .int .i64 0, .int .i64 0] := by rfl
  rw [Nat.zero_add, e1, List.take_left' hl1, List.drop_append, List.drop_eq_nil_of_le (show (dgV d).toList.length ≤ 32 + 32 by omega), hl1]
  rfl
def rangeF (h : HeadD) : Int := if (0 ≤ h.height ∧ h.height ≤ 1073741824) ∧ (0 ≤ h.time ∧ h.time ≤ 1073741824) ∧ (0 ≤ h.nonce ∧ h.nonce ≤ 1073741824) ∧ (0 ≤ h.bits ∧ h.bits ≤ 40) then 0 else 2
attribute [local go_sem ↓] run_load_agg run_store_agg run_load_any
theorem heightB (n : Int) (w : World) (b : Bool) (hb : decide (0 ≤ n ∧ n ≤ 1073741824) = b) : Calls Tryz.prog 28 #[.int .i64 n] w fun e w' => e = .returned (.bool b) ∧ w' = w := by
  subst hb
  have := height2_any n w
  rwa [show (decide (0 ≤ n) && decide (n ≤ 1073741824)) = decide (0 ≤ n ∧ n ≤ 1073741824) from by rw [Bool.decide_and]] at this
theorem bitsB (n : Int) (w : World) (b : Bool) (hb : decide (0 ≤ n ∧ n ≤ 40) = b) : Calls Tryz.prog 29 #[.int .i64 n] w fun e w' => e = .returned (.bool b) ∧ w' = w := by
  subst hb
  have := bits2_any n w
  rwa [show (decide (0 ≤ n) && decide (n ≤ 40)) = decide (0 ≤ n ∧ n ≤ 40) from by rw [Bool.decide_and]] at this
set_option maxHeartbeats 4000000 in
set_option maxRecDepth 100000 in
theorem rangeOf_any (h : HeadD) (k : HdOk h) (w : World) :
    Calls Tryz.prog 6 #[.agg (hdV h)] w fun e w' => e = .returned (.int .i64 (rangeF h)) ∧ Below w.heap.size w w' := by
  obtain ⟨n1, n2, n3, n4⟩ := new_hd w h k
  have k0 := (Kept.refl w).alloc (hdV h) 25
  unfold zHd at n1 n2
  have HT := Lib.hid (hdV_tail h k)
  have K0 := Lib.hid k0
  have HK := Lib.hid k
  clear k0 k
  go_enter Tryz.func6, Tryz.ntmps6
  go_upto_region 1 with fail
  clear n1 n2 n3 n4
  change Code.wp _ _ _ _ (w.alloc (.cells (hdV h) 25))
  obtain ⟨G, hG⟩ : ∃ G, w.heap.size = G := ⟨_, rfl⟩
  have K0' : Hid (∃ w0, w.alloc (.cells (hdV h) 25) = w0 ∧ Kept w [(G, hdV h, 25)] w0) := Lib.hid ⟨_, rfl, by rw [← hG]; exact K0.out⟩
  rw [hG] at ⊢
  clear hG K0
  obtain ⟨w0, hw0, k0⟩ := K0'.out
  rw [hw0]
  have K0 := Lib.hid k0
  clear hw0 k0 K0'
  have c64 : w0.cell? ⟨G, 64, none⟩ = some (.int .i64 h.height) := K0.out.cell 0 64 _ _ rfl HT.out.1
  have c65 : w0.cell? ⟨G, 65, none⟩ = some (.int .i64 h.time) := K0.out.cell 0 65 _ _ rfl HT.out.2.1
  have c66 : w0.cell? ⟨G, 66, none⟩ = some (.int .i64 h.bits) := K0.out.cell 0 66 _ _ rfl HT.out.2.2.1
  have c67 : w0.cell? ⟨G, 67, none⟩ = some (.int .i64 h.nonce) := K0.out.cell 0 67 _ _ rfl HT.out.2.2.2
  by_cases q : 0 ≤ h.height ∧ h.height ≤ 1073741824
  rotate_left
  · have HR : Hid (rangeF h = 2) := Lib.hid (by unfold rangeF; rw [if_neg]; intro hh; exact q hh.1)
    have HC := Lib.hid (heightB h.height w0 false (decide_eq_false q))
    clear q
    go_wp2_with fail
    refine Calls.mono HC.out ?_
    rintro e w' ⟨rfl, hw'⟩
    rw [hw']
    clear hw' w' HC
    go_wp2
    go_ret
    exact ⟨by rw [HR.out]; rfl, K0.out.below⟩
  have HQ0 := Lib.hid q
  have HC := Lib.hid (heightB h.height w0 true (decide_eq_true q))
  clear q
  go_wp2_with fail
  refine Calls.mono HC.out ?_
  rintro e w' ⟨rfl, hw'⟩
  rw [hw']
  clear hw' w' HC
  by_cases q : 0 ≤ h.time ∧ h.time ≤ 1073741824
  rotate_left
  · have HR : Hid (rangeF h = 2) := Lib.hid (by unfold rangeF; rw [if_neg]; intro hh; exact q hh.2.1)
    have HC := Lib.hid (heightB h.time w0 false (decide_eq_false q))
    clear q
    go_wp2_with fail
    refine Calls.mono HC.out ?_
    rintro e w' ⟨rfl, hw'⟩
    rw [hw']
    clear hw' w' HC
    go_wp2
    go_ret
    exact ⟨by rw [HR.out]; rfl, K0.out.below⟩
  have HQ1 := Lib.hid q
  have HC := Lib.hid (heightB h.time w0 true (decide_eq_true q))
  clear q
  go_wp2_with fail
  refine Calls.mono HC.out ?_
  rintro e w' ⟨rfl, hw'⟩
  rw [hw']
  clear hw' w' HC
  by_cases q : 0 ≤ h.nonce ∧ h.nonce ≤ 1073741824
  rotate_left
  · have HR : Hid (rangeF h = 2) := Lib.hid (by unfold rangeF; rw [if_neg]; intro hh; exact q hh.2.2.1)
    have HC := Lib.hid (heightB h.nonce w0 false (decide_eq_false q))
    clear q
    go_wp2_with fail
    refine Calls.mono HC.out ?_
    rintro e w' ⟨rfl, hw'⟩
    rw [hw']
    clear hw' w' HC
    go_wp2
    go_ret
    exact ⟨by rw [HR.out]; rfl, K0.out.below⟩
  have HQ2 := Lib.hid q
  have HC := Lib.hid (heightB h.nonce w0 true (decide_eq_true q))
  clear q
  go_wp2_with fail
  refine Calls.mono HC.out ?_
  rintro e w' ⟨rfl, hw'⟩
  rw [hw']
  clear hw' w' HC
  by_cases q : 0 ≤ h.bits ∧ h.bits ≤ 40
  rotate_left
  · have HR : Hid (rangeF h = 2) := Lib.hid (by unfold rangeF; rw [if_neg]; intro hh; exact q hh.2.2.2)
    have HC := Lib.hid (bitsB h.bits w0 false (decide_eq_false q))
    clear q
    go_wp2_with fail
    refine Calls.mono HC.out ?_
    rintro e w' ⟨rfl, hw'⟩
    rw [hw']
    clear hw' w' HC
    go_wp2
    go_ret
    exact ⟨by rw [HR.out]; rfl, K0.out.below⟩
  have HQ3 := Lib.hid q
  have HC := Lib.hid (bitsB h.bits w0 true (decide_eq_true q))
  clear q
  go_wp2_with fail
  refine Calls.mono HC.out ?_
  rintro e w' ⟨rfl, hw'⟩
  rw [hw']
  clear hw' w' HC
  have HR : Hid (rangeF h = 0) := Lib.hid (by unfold rangeF; rw [if_pos ⟨HQ0.out, HQ1.out, HQ2.out, HQ3.out⟩])
  go_wp2
  go_ret
  exact ⟨by rw [HR.out]; rfl, K0.out.below⟩
end Go.Proofs.YtljcdkfafknnpaaGreatDoor
