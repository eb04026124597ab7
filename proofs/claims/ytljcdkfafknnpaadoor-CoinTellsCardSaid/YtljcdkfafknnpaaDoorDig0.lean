/- Rows of cells stored, digests compared, whole rows in a region that draws. Conditions: none. -/
import Derived.Test.YtljcdkfafknnpaaDoorDv
import Derived.ChangeKeysEq
namespace Go.Proofs.YtljcdkfafknnpaaDoor
set_option linter.unusedVariables false
set_option linter.unusedSimpArgs false
open Go.RowKit

theorem run_storeCells_put {P : Program} (w : World) (g off : Nat) (cs : Array Value) (h1 : plainCells cs = true) (hr : (rowAt w g off cs.size).isSome = true) (hw : wrAt w g = true) :
    (storeCells ⟨g, off, none⟩ cs.toList).run P w = .ok () (putAt w g off cs) := by
  obtain ⟨os, hos⟩ := Option.isSome_iff_exists.1 hr
  obtain ⟨c, e, hh, hsz⟩ := wrAt_heap hos hw
  have hst := run_storeCells_at P g off e cs.toList 0 c w hh (by simp; omega) (List.all_eq_true.1 h1)
  simp only [Nat.add_zero, Array.length_toList] at hst
  simp [hst, putAt, hh, spliceAt]
theorem fold_set (vs : List Value) (off k : Nat) (cs : Array Value) (h : off + k + vs.length ≤ cs.size) :
    (vs.zipIdx k).foldl (fun cs (x : Value × Nat) => cs.setIfInBounds (off + x.2) x.1) cs = (cs.toList.take (off + k) ++ vs ++ cs.toList.drop (off + k + vs.length)).toArray := by
  induction vs generalizing k cs with
  | nil => simp
  | cons v vs ih =>
    simp only [List.length_cons] at h
    rw [List.zipIdx_cons, List.foldl_cons, ih (k + 1) _ (by simp; omega)]
    apply Array.ext'
    simp only [Array.toList_setIfInBounds, List.length_cons]
    rw [← Nat.add_assoc, List.take_set, List.drop_set_of_lt (by omega), List.take_add_one, List.getElem?_eq_getElem (by simp; omega)]
    rw [List.set_append_right _ _ (by simp; omega)]
    have e : off + k - (cs.toList.take (off + k)).length = 0 := by simp; omega
    rw [e]
    simp
    congr 1
    omega
theorem info_parts' {P : Program} {e : TypeId} {z : Option Value} {s b : Nat} (h : (P.info? e).map (fun i => (i.zero, i.size, i.bytes)) = some (z, s, b)) : ∃ i, P.info? e = some i ∧ i.zero = z ∧ i.size = s ∧ i.bytes = b := by
  cases hh : P.info? e with
  | none => simp [hh] at h
  | some i => simp only [hh, Option.map_some, Option.some.injEq, Prod.mk.injEq] at h; exact ⟨i, rfl, h.1, h.2.1, h.2.2⟩
theorem run_part_dig (a : List UInt8) (j : Nat) (h : j < a.length) (w : World) : (part 5 (dgV a) (j * 1)).run Tryd.prog w = .ok (.int .u8 (bv (a.getD j 0))) w := by
  have := dgV_get a j h
  simp [part, isAgg, run_underlying Tryd.underlying5, this]
theorem drop_cons (a : List UInt8) (j : Nat) (h : j < a.length) : a.drop j = a.getD j 0 :: a.drop (j + 1) := by
  rw [List.drop_eq_getElem_cons h, List.getD_eq_getElem?_getD, List.getElem?_eq_getElem h, Option.getD_some]
theorem run_eqItems_dig (d : Nat) (a b : List UInt8) (ha : a.length = 32) (hb : b.length = 32) (w : World) : ∀ (m s : Nat), s + m = 32 →
    (Op.eqItems (d + 1) 5 1 (dgV a) (dgV b) (List.range' s m)).run Tryd.prog w = .ok (decide (a.drop s = b.drop s)) w := by
  intro m
  induction m with
  | zero =>
    intro s hs
    rw [List.drop_eq_nil_of_le (by omega), List.drop_eq_nil_of_le (by omega)]
    simp [Op.eqItems]
  | succ m ih =>
    intro s hs
    have h1 := run_equalIn_int (P := Tryd.prog) w d 5 .u8 .u8 (bv (a.getD s 0)) (bv (b.getD s 0)) Tryd.underlying5
    rw [List.range'_succ]
    simp only [Op.eqItems, Sem.run_bind, run_part_dig a s (by omega) w, run_part_dig b s (by omega) w, h1, Result.andThen_ok]
    rw [drop_cons a s (by omega), drop_cons b s (by omega)]
    by_cases e : a.getD s 0 = b.getD s 0
    · rw [e]
      simp [ih (s + 1) (by omega)]
    · have : ¬ bv (a.getD s 0) = bv (b.getD s 0) := fun h => e (bv_inj h)
      simp only [List.cons.injEq, e, false_and, decide_false, beq_false_of_ne this]
      simp
theorem run_eql_dig (a b : List UInt8) (ha : a.length = 32) (hb : b.length = 32) (w : World) : (Op.equalIn 10000 29 (.agg (dgV a)) (.agg (dgV b))).run Tryd.prog w = .ok (decide (a = b)) w := by
  obtain ⟨i, hi, -, hs, -⟩ := info_parts' info_u8
  rw [run_equalIn_array w 9999 (dgV a) (dgV b) Tryd.underlying29 hi]
  have hc : Tryd.prog.cellsOf 5 = 1 := by kernel_rfl
  rw [hc, List.range_eq_range']
  simpa using run_eqItems_dig 9998 a b ha hb w 32 0 rfl

def ldTy : Op → TypeId | .load t _ => t | _ => 0
def ldX : Op → Operand | .load _ x => x | _ => .const undef
def ldIs : Op → Bool | .load _ _ => true | _ => false
theorem run_load_any (ev : Operand → Value) (w : World) (o : Oper) (h0 : ldIs o.op = true) (h : aggOf Tryd.prog (ldTy o.op) = true) (hr : (rowOf w (ev (ldX o.op)) (Tryd.prog.cellsOf (ldTy o.op))).isSome = true) :
    (execOp ev o).run Tryd.prog w = .ok (.value (.agg ((rowOf w (ev (ldX o.op)) (Tryd.prog.cellsOf (ldTy o.op))).getD #[]))) w := by
  obtain ⟨dst, op, type, pos, after, guard⟩ := o
  cases op with
  | load t x => exact run_load_agg ev w dst _ _ type pos after guard h hr
  | _ => exact absurd h0 Bool.false_ne_true
def stTy : Op → TypeId | .store t _ _ => t | _ => 0
def stX : Op → Operand | .store _ x _ => x | _ => .const undef
def stY : Op → Operand | .store _ _ y => y | _ => .const undef
def stIs : Op → Bool | .store _ _ _ => true | _ => false
theorem run_store_any (ev : Operand → Value) (w : World) (o : Oper) (h0 : stIs o.op = true) (h : aggOf Tryd.prog (stTy o.op) = true) (hy : isAggV (ev (stY o.op)) = true) (hs : (aggCells (ev (stY o.op))).size = Tryd.prog.cellsOf (stTy o.op))
    (h1 : plainCells (aggCells (ev (stY o.op))) = true) (hr : (rowOf w (ev (stX o.op)) (Tryd.prog.cellsOf (stTy o.op))).isSome = true) (hw : wrOf w (ev (stX o.op)) = true) :
    (execOp ev o).run Tryd.prog w = .ok .skip (putOf w (ev (stX o.op)) (aggCells (ev (stY o.op)))) := by
  obtain ⟨dst, op, type, pos, after, guard⟩ := o
  cases op with
  | store t x y => exact run_store_agg ev w dst _ _ _ type pos after guard h hy hs h1 hr hw
  | _ => exact absurd h0 Bool.false_ne_true
attribute [go_sem] ldTy ldX ldIs stTy stX stY stIs
end Go.Proofs.YtljcdkfafknnpaaDoor
