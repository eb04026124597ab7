/- Merged: As Told Frmb Con RCon ClOn. Conditions: none beyond each theorem's own. -/
import Derived.Test.YtljcdkfafknnpaaDoorMa
import Derived.Test.YtljcdkfafknnpaaDoorRows
import Derived.WalkKit
import Derived.LaidEql
import Derived.Stop.Asserts
import Derived.RowKitTokens
import Derived.Test.YtljcdkfafknnpaaDoorMc
import Derived.JoinedOf
import Derived.LaidLaws
import Derived.LaidHandle
import Derived.Stop.Joined
import Derived.Test.YtljcdkfafknnpaaDoorMd
namespace Go.Proofs.YtljcdkfafknnpaaDoor
set_option linter.unusedVariables false
set_option linter.unusedSimpArgs false
open Go.RowKit Go.Extern.Stop Go.Stop Go.Extern

theorem as_nil (t : Value) (w : World) :
    Calls Tryd.prog 73 #[.nilIface, t] w fun e w' => e = .returned (.bool false) ∧ w' = w := by
  go_enter Tryd.func73, Tryd.ntmps73
  go_wp2
  go_ret
  exact ⟨rfl, rfl⟩

theorem as_valueOf27 (t : Addr) (w : World) : (ReflectliteValue.unpack (.iface 115 (.pointer (some t)))).run Tryd.prog w
    = .ok (.agg #[.pointer (some ⟨3, 115, none⟩), .pointer (some ⟨w.heap.size, 0, none⟩), .int .u64 150]) (w.alloc (.cells #[.pointer (some t)] 115)) := by kernel_rfl
theorem as_type27 (a : Addr) (w : World) : (ReflectliteValue.methodAny (ReflectliteValue.valueError "reflectlite.Value.Type" 0) (fun t _ _ _ => ReflectliteType.toType t) #[.agg #[.pointer (some ⟨3, 115, none⟩), .pointer (some a), .int .u64 150]]).run Tryd.prog w
    = .ok (.iface 157 (.agg #[.pointer (some ⟨3, 115, none⟩)])) w := by kernel_rfl
theorem as_methodKind (h : Value) (w : World) : (Go.method 300 157 (.agg #[h]) "Kind").run Tryd.prog w = .ok (122, h) w := by kernel_rfl
theorem as_kind27 (w : World) : ((ReflectliteType.abiMethod fun t => (fun a : Nat => Value.int IntKind.u8 (a : Int)) <$> Rtype.kind t) #[.pointer (some ⟨3, 115, none⟩)]).run Tryd.prog w = .ok (.int .u8 22) w := by kernel_rfl
theorem as_kind25 (w : World) : ((ReflectliteType.abiMethod fun t => (fun a : Nat => Value.int IntKind.u8 (a : Int)) <$> Rtype.kind t) #[.pointer (some ⟨3, 46, none⟩)]).run Tryd.prog w = .ok (.int .u8 2) w := by kernel_rfl

theorem rlm (z : Sem Value) (f : TypeId → Addr → Nat → Nat → Sem Value) (v : Value) :
    ReflectliteValue.method z f #[v] = (do match ← ReflectliteValue.parts v with | none => z | some (t, a, fl) => f t a fl (fl % 32)) := rfl
theorem as_parts27 (a : Addr) (w : World) : (ReflectliteValue.parts (.agg #[.pointer (some ⟨3, 115, none⟩), .pointer (some a), .int .u64 150])).run Tryd.prog w = .ok (some (115, a, 150)) w := by kernel_rfl
theorem as_isNil27 (a p : Addr) (W : World) (ha : W.cell? a = some (.pointer (some p))) :
    (ReflectliteValue.method (ReflectliteValue.valueError "reflectlite.Value.IsNil" 0) ReflectliteValue.isNil #[.agg #[.pointer (some ⟨3, 115, none⟩), .pointer (some a), .int .u64 150]]).run Tryd.prog W = .ok (.bool false) W := by
  rw [rlm]
  simp only [Sem.run_bind, as_parts27, Result.andThen]
  simp [ReflectliteValue.isNil, loadVar, isAgg, underlying, Tryd.underlying115, ha, Result.andThen]

theorem as_methodElem (h : Value) (w : World) : (Go.method 300 157 (.agg #[h]) "Elem").run Tryd.prog w = .ok (132, .agg #[h]) w := by kernel_rfl
theorem as_methodImplements (h : Value) (w : World) : (Go.method 300 157 (.agg #[h]) "Implements").run Tryd.prog w = .ok (133, .agg #[h]) w := by kernel_rfl
theorem as_methodAssignableTo (h : Value) (w : World) : (Go.method 300 157 (.agg #[h]) "AssignableTo").run Tryd.prog w = .ok (130, .agg #[h]) w := by kernel_rfl
theorem as_elem27 (w : World) : (ReflectliteType.method ReflectliteType.elem #[.agg #[.pointer (some ⟨3, 115, none⟩)]]).run Tryd.prog w = .ok (.iface 157 (.agg #[.pointer (some ⟨3, 46, none⟩)])) w := by kernel_rfl
theorem as_implements25 (w : World) : (ReflectliteType.relation "Implements" ReflectliteType.implements_ #[.agg #[.pointer (some ⟨3, 46, none⟩)], .iface 157 (.agg #[.pointer (some ⟨3, 31, none⟩)])]).run Tryd.prog w = .ok (.bool true) w := by kernel_rfl
theorem as_typeOf25 (v : Value) (w : World) : (ReflectliteType.typeOf #[.iface 46 v]).run Tryd.prog w = .ok (.iface 157 (.agg #[.pointer (some ⟨3, 46, none⟩)])) w := by kernel_rfl
theorem as_assignable25 (w : World) : (ReflectliteType.relation "AssignableTo" ReflectliteType.assignableTo #[.agg #[.pointer (some ⟨3, 46, none⟩)], .iface 157 (.agg #[.pointer (some ⟨3, 46, none⟩)])]).run Tryd.prog w = .ok (.bool true) w := by kernel_rfl
theorem as_valueOf25 (e : Int) (w : World) : (ReflectliteValue.unpack (.iface 46 (.int .i64 e))).run Tryd.prog w
    = .ok (.agg #[.pointer (some ⟨3, 46, none⟩), .pointer (some ⟨w.heap.size, 0, none⟩), .int .u64 130]) (w.alloc (.cells #[.int .i64 e] 46)) := by kernel_rfl

theorem as_elemOf27 (w : World) : (Rtype.elem? 115).run Tryd.prog w = .ok (some 46) w := by kernel_rfl
theorem as_mk25 (p : Addr) (w : World) : (ReflectliteValue.mk 46 p ReflectliteValue.flagAddr).run Tryd.prog w = .ok (.agg #[.pointer (some ⟨3, 46, none⟩), .pointer (some p), .int .u64 386]) w := by kernel_rfl
theorem as_elemV27 (a p : Addr) (W : World) (ha : W.cell? a = some (.pointer (some p))) :
    (ReflectliteValue.method (ReflectliteValue.valueError "reflectlite.Value.Elem" 0) ReflectliteValue.elem #[.agg #[.pointer (some ⟨3, 115, none⟩), .pointer (some a), .int .u64 150]]).run Tryd.prog W
      = .ok (.agg #[.pointer (some ⟨3, 46, none⟩), .pointer (some p), .int .u64 386]) W := by
  rw [rlm]
  simp only [Sem.run_bind, as_parts27, Result.andThen]
  simp [ReflectliteValue.elem, loadVar, isAgg, underlying, Tryd.underlying115, ha, Result.andThen, as_elemOf27, as_mk25]
theorem rls (v x : Value) : ReflectliteValue.set #[v, x] = (do
    let (some (dst, a, fl), some (src, b, _)) := (← ReflectliteValue.parts v, ← ReflectliteValue.parts x)
      | unsupported (.noEntry "extern/(internal/reflectlite.Value).Set.zeroValue")
    if fl / ReflectliteValue.flagAddr % 2 == 0 then unsupported (.noEntry "extern/(internal/reflectlite.Value).Set.unaddressable")
    let val ← loadVar src b
    if ← Rtype.directlyAssignable dst src then storeVar dst a val
    else if ← Rtype.implements dst src then
      if (← Rtype.kind src) == 20 then
        match val with
        | .nilIface => unsupported (.noEntry "extern/reflectlite: a nil value of one interface type handed on as a value of another")
        | _ => storeVar dst a val
      else storeVar dst a (.iface src val)
    else panicString ("reflectlite.Set: value of type " ++ (← Rtype.spelt src) ++ " is not assignable to type " ++ (← Rtype.spelt dst))
    pure (.tuple #[])) := rfl
theorem as_parts25a (a : Addr) (w : World) : (ReflectliteValue.parts (.agg #[.pointer (some ⟨3, 46, none⟩), .pointer (some a), .int .u64 386])).run Tryd.prog w = .ok (some (46, a, 386)) w := by kernel_rfl
theorem as_parts25 (a : Addr) (w : World) : (ReflectliteValue.parts (.agg #[.pointer (some ⟨3, 46, none⟩), .pointer (some a), .int .u64 130])).run Tryd.prog w = .ok (some (46, a, 130)) w := by kernel_rfl
theorem as_direct25 (w : World) : (Rtype.directlyAssignable 46 46).run Tryd.prog w = .ok true w := by kernel_rfl
theorem as_size25 (w : World) : (sizeOf 46).run Tryd.prog w = .ok 1 w := by kernel_rfl
theorem as_set25 (ta b : Addr) (e : Int) (old : Value) (W : World) (hb : W.cell? b = some (.int .i64 e)) (ht : W.cell? ta = some old) (hf : W.frozen? ta = false) :
    (ReflectliteValue.set #[.agg #[.pointer (some ⟨3, 46, none⟩), .pointer (some ta), .int .u64 386], .agg #[.pointer (some ⟨3, 46, none⟩), .pointer (some b), .int .u64 130]]).run Tryd.prog W
      = .ok (.tuple #[]) (W.setCell ta (.int .i64 e)) := by
  rw [rls]
  simp only [Sem.run_bind, as_parts25a, as_parts25, Result.andThen]
  simp [ReflectliteValue.flagAddr, loadVar, isAgg, underlying, Tryd.underlying46, hb, Result.andThen, as_direct25, storeVar, Value.cells, storeCells, Addr.add]
  rw [run_store Tryd.prog W ta _ _ (by rfl)]
  simp [ht, hf]

set_option maxHeartbeats 4000000 in
set_option maxRecDepth 100000 in
theorem as_hit (e : Int) (t : Addr) (old : Value) (w : World) (hg : w.cell? ⟨1, 0, none⟩ = some (.iface 157 (.agg #[.pointer (some ⟨3, 31, none⟩)]))) (ht0 : w.cell? t = some old) (hf0 : w.frozen? t = false) :
    Calls Tryd.prog 73 #[.iface 46 (.int .i64 e), .iface 115 (.pointer (some t))] w fun ev w' => ev = .returned (.bool true) ∧ w' = ((((w.alloc (.cells #[.pointer (some t)] 115)).alloc (.cells #[.pointer (some ⟨3, 115, none⟩), .pointer (some ⟨w.heap.size, 0, none⟩), .int .u64 150] 142)).alloc (.cells #[.pointer (some ⟨3, 115, none⟩), .pointer (some ⟨w.heap.size, 0, none⟩), .int .u64 150] 142)).alloc (.cells #[.int .i64 e] 46)).setCell t (.int .i64 e) := by
  have h6 := @run_callFunc_extern Tryd.prog 94 _ (fun args => ReflectliteValue.unpack (args.getD 0 (.tuple #[]))) Tryd.func94 (by kernel_rfl) (by kernel_rfl) (by kernel_rfl) (by kernel_rfl)
  have h7 := @run_callFunc_extern Tryd.prog 95 _ (ReflectliteValue.methodAny (ReflectliteValue.valueError "reflectlite.Value.Type" 0) (fun t _ _ _ => ReflectliteType.toType t)) Tryd.func95 (by kernel_rfl) (by kernel_rfl) (by kernel_rfl) (by kernel_rfl)
  have h8 := @run_callFunc_extern Tryd.prog 96 _ (ReflectliteValue.method (ReflectliteValue.valueError "reflectlite.Value.IsNil" 0) ReflectliteValue.isNil) Tryd.func96 (by kernel_rfl) (by kernel_rfl) (by kernel_rfl) (by kernel_rfl)
  have h27 := @run_callFunc_extern Tryd.prog 122 _ (ReflectliteType.abiMethod fun t => do pure (.int .u8 (← Rtype.kind t))) Tryd.func122 (by kernel_rfl) (by kernel_rfl) (by kernel_rfl) (by kernel_rfl)
  have h37 := @run_callFunc_extern Tryd.prog 132 _ (ReflectliteType.method ReflectliteType.elem) Tryd.func132 (by kernel_rfl) (by kernel_rfl) (by kernel_rfl) (by kernel_rfl)
  have h38 := @run_callFunc_extern Tryd.prog 133 _ (ReflectliteType.relation "Implements" ReflectliteType.implements_) Tryd.func133 (by kernel_rfl) (by kernel_rfl) (by kernel_rfl) (by kernel_rfl)
  have h10 := @run_callFunc_extern Tryd.prog 104 _ ReflectliteType.typeOf Tryd.func104 (by kernel_rfl) (by kernel_rfl) (by kernel_rfl) (by kernel_rfl)
  have h35 := @run_callFunc_extern Tryd.prog 130 _ (ReflectliteType.relation "AssignableTo" ReflectliteType.assignableTo) Tryd.func130 (by kernel_rfl) (by kernel_rfl) (by kernel_rfl) (by kernel_rfl)
  have h11 := @run_callFunc_extern Tryd.prog 105 _ (ReflectliteValue.method (ReflectliteValue.valueError "reflectlite.Value.Elem" 0) ReflectliteValue.elem) Tryd.func105 (by kernel_rfl) (by kernel_rfl) (by kernel_rfl) (by kernel_rfl)
  have h12 := @run_callFunc_extern Tryd.prog 106 _ ReflectliteValue.set Tryd.func106 (by kernel_rfl) (by kernel_rfl) (by kernel_rfl) (by kernel_rfl)
  have tO := as_typeOf25
  have mA := as_methodAssignableTo
  have a25 := as_assignable25
  have v25 := as_valueOf25
  have f6 := as_valueOf27
  have f7 := as_type27
  have mK := as_methodKind
  have mE := as_methodElem
  have mI := as_methodImplements
  have k27 := as_kind27
  have k25 := as_kind25
  have e27 := as_elem27
  have i25 := as_implements25
  have n8 := as_isNil27 ⟨w.heap.size, 0, none⟩ t ((w.alloc (.cells #[.pointer (some t)] 115)).alloc (.cells #[.pointer (some ⟨3, 115, none⟩), .pointer (some ⟨w.heap.size, 0, none⟩), .int .u64 150] 142)) (by simp)
  have hlt : 1 < w.heap.size := World.block_lt_of_cell? w _ hg
  have hg2 : ((w.alloc (.cells #[.pointer (some t)] 115)).alloc (.cells #[.pointer (some ⟨3, 115, none⟩), .pointer (some ⟨w.heap.size, 0, none⟩), .int .u64 150] 142)).cell? ⟨1, 0, none⟩ = some (.iface 157 (.agg #[.pointer (some ⟨3, 31, none⟩)])) := by
    rw [World.cell?_alloc_lt _ _ ⟨1, 0, none⟩ (by simp; omega), World.cell?_alloc_lt _ _ ⟨1, 0, none⟩ hlt]; exact hg
  have htl : t.block < w.heap.size := by
    rcases Nat.lt_or_ge t.block w.heap.size with h | h
    · exact h
    · simp [World.cell?, Array.getElem?_eq_none h] at ht0
  have el := as_elemV27 ⟨w.heap.size, 0, none⟩ t (((w.alloc (.cells #[.pointer (some t)] 115)).alloc (.cells #[.pointer (some ⟨3, 115, none⟩), .pointer (some ⟨w.heap.size, 0, none⟩), .int .u64 150] 142)).alloc (.cells #[.pointer (some ⟨3, 115, none⟩), .pointer (some ⟨w.heap.size, 0, none⟩), .int .u64 150] 142)) (by rw [World.cell?_alloc_lt _ _ ⟨w.heap.size, 0, none⟩ (by simp; omega)]; simp)
  have st := as_set25 t ⟨w.heap.size + 1 + 1 + 1, 0, none⟩ e old ((((w.alloc (.cells #[.pointer (some t)] 115)).alloc (.cells #[.pointer (some ⟨3, 115, none⟩), .pointer (some ⟨w.heap.size, 0, none⟩), .int .u64 150] 142)).alloc (.cells #[.pointer (some ⟨3, 115, none⟩), .pointer (some ⟨w.heap.size, 0, none⟩), .int .u64 150] 142)).alloc (.cells #[.int .i64 e] 46))
    (by rw [World.cell?_alloc_at _ _ _ _ (by simp)]; rfl)
    (by rw [World.cell?_alloc_lt _ _ t (by simp; omega), World.cell?_alloc_lt _ _ t (by simp; omega), World.cell?_alloc_lt _ _ t (by simp; omega), World.cell?_alloc_lt _ _ t htl]; exact ht0)
    (by rw [World.frozen?_alloc_old _ _ t (by simp; omega), World.frozen?_alloc_old _ _ t (by simp; omega), World.frozen?_alloc_old _ _ t (by simp; omega), World.frozen?_alloc_old _ _ t (Nat.ne_of_lt htl)]; exact hf0)
  go_enter Tryd.func73, Tryd.ntmps73
  go_wp2
  refine wp_loop_rounds 1 ?_
  rw [rounds_succ]
  go_wp2
  go_ret
  exact ⟨rfl, rfl⟩
end Go.Proofs.YtljcdkfafknnpaaDoor
namespace Go.Proofs.YtljcdkfafknnpaaDoor
set_option linter.unusedVariables false
set_option linter.unusedSimpArgs false
open Go.RowKit

/-- The variable errors.errorType lies as it was laid. -/
def errAt (w : World) : Prop := w.cell? ⟨1, 0, none⟩ = some (.iface 157 (.agg #[.pointer (some ⟨3, 31, none⟩)]))
theorem errAt_below {B : Nat} {w w' : World} (h : errAt w) (hb : Below B w w') (hB : w.heap.size ≤ B) : errAt w' :=
  (hb.cell (by have := World.block_lt_of_cell? w _ h; exact Nat.lt_of_lt_of_le this hB)).trans h
theorem told_nil (w : World) : Calls Tryd.prog 45 #[.nilIface] w fun e w' => e = .returned (.int .i64 0) ∧ w' = w := by
  go_enter Tryd.func45, Tryd.ntmps45
  go_wp2
  go_ret
  exact ⟨rfl, rfl⟩
set_option maxHeartbeats 2000000 in
set_option maxRecDepth 100000 in
theorem told_errno (k : Int) (w : World) (h : errAt w) : Calls Tryd.prog 45 #[.iface 46 (.int .i64 k)] w fun e w' => e = .returned (.int .i64 k) ∧ Below w.heap.size w w' := by
  have hlt := World.block_lt_of_cell? w _ h
  have hb0 : Hid (Below w.heap.size w (w.alloc (.cells #[.int .i64 0] 46))) := (Below.refl _ _).alloc (Nat.le_refl _) _
  have hE := Lib.hid (errAt_below h hb0.out (Nat.le_refl _))
  have hc : Hid ((w.alloc (.cells #[.int .i64 0] 46)).cell? ⟨w.heap.size, 0, none⟩ = some (.int .i64 0)) := by show _ = _; simp [World.cell?_alloc_new]
  have hf : Hid ((w.alloc (.cells #[.int .i64 0] 46)).frozen? ⟨w.heap.size, 0, none⟩ = false) := frozen_of_row _ _ _ _ _ (heap_alloc_new w _)
  have hs : (w.alloc (.cells #[.int .i64 0] 46)).heap.size = w.heap.size + 1 := by simp
  clear h
  go_enter Tryd.func45, Tryd.ntmps45
  go_wp2_with fail
  generalize w.alloc (.cells #[.int .i64 0] 46) = wa at hb0 hE hc hf hs ⊢
  refine (as_hit k ⟨w.heap.size, 0, none⟩ _ wa hE.out hc.out hf.out).mono ?_
  rintro e w1 ⟨rfl, hw1⟩
  have B1 : Hid (Below w.heap.size w w1) := by
    show Below _ _ _
    rw [hw1]
    exact ((((hb0.out.alloc (by omega) _).alloc (by simp; omega) _).alloc (by simp; omega) _).alloc (by simp; omega) _).setCell (Nat.le_refl _) _
  have hc1 : w1.cell? ⟨w.heap.size, 0, none⟩ = some (.int .i64 k) := by
    rw [hw1]
    refine World.cell?_setCell_same (u := .int .i64 0) _ _ _ ?_
    rw [World.cell?_alloc_lt _ _ _ (by simp; omega), World.cell?_alloc_lt _ _ _ (by simp; omega), World.cell?_alloc_lt _ _ _ (by simp; omega), World.cell?_alloc_lt _ _ _ (by simp; omega)]
    exact hc.out
  clear hw1
  go_wp2
  go_ret
  exact ⟨rfl, B1.out⟩
/-- Is it the number told? -/
theorem same_nil (e : Int) (w : World) : Calls Tryd.prog 18 #[.nilIface, .int .i64 e] w fun ev w' => ev = .returned (.bool (decide (0 = e))) ∧ w' = w := by
  go_enter Tryd.func18, Tryd.ntmps18
  go_wp2_with fail
  refine (told_nil _).mono ?_
  rintro ev w' ⟨rfl, hw'⟩
  rw [hw']
  clear hw' w'
  go_wp2
  go_ret
  exact ⟨by show Ending.returned (.bool ((0 : Int) == e)) = _; congr 2, rfl⟩
theorem same_errno (k e : Int) (w : World) (h : errAt w) : Calls Tryd.prog 18 #[.iface 46 (.int .i64 k), .int .i64 e] w fun ev w' => ev = .returned (.bool (decide (k = e))) ∧ Below w.heap.size w w' := by
  have H := Lib.hid h; clear h
  go_enter Tryd.func18, Tryd.ntmps18
  go_wp2_with fail
  refine (told_errno k w H.out).mono ?_
  rintro ev w' ⟨rfl, hb⟩
  have B := Lib.hid hb; clear hb
  go_wp2
  go_ret
  exact ⟨by show Ending.returned (.bool (k == e)) = _; congr 2, B.out⟩
end Go.Proofs.YtljcdkfafknnpaaDoor
namespace Go.Proofs.YtljcdkfafknnpaaDoor
set_option linter.unusedVariables false
set_option linter.unusedSimpArgs false
open Go.ChangeShapes Go.WideShapes Go.RowKit
theorem ev_glob : Tryd.prog.globalNamed "errors.errorType" = some 1 := by kernel_rfl
theorem ev_rt : (Tryd.prog.cutTypes.find? (·.1 == "internal/reflectlite.rtype")).map (·.2) = some 157 := by kernel_rfl
theorem ev_row : ((List.range 200).filter fun t => Tryd.prog.rowNamed t [101, 114, 114, 111, 114]) = [31] := by kernel_rfl
theorem ev_size : Tryd.prog.types.size = 200 := by kernel_rfl
theorem err_of_handles {W : World} (h : handlesMet Tryd.prog [("errors.errorType", Rows.laid_errors_errorType)] W) : errAt W := by
  obtain ⟨name, u, ty, e1, e2, e3, e4, e5⟩ := h _ (List.mem_singleton.2 rfl)
  have en : name = [101, 114, 114, 111, 114] := (Option.some.inj e1).symm
  subst en
  obtain rfl := Option.some.inj (ev_rt.symm.trans e2)
  have hm : ty ∈ (List.range 200).filter fun t => Tryd.prog.rowNamed t [101, 114, 114, 111, 114] := List.mem_filter.2 ⟨List.mem_range.2 (by rw [← ev_size]; exact e3), e4⟩
  rw [ev_row] at hm
  obtain rfl := List.mem_singleton.1 hm
  have hh : typeHandle Tryd.prog 31 = .pointer (some ⟨3, 31, none⟩) := by kernel_rfl
  rw [hh] at e5
  have := World.var?_cell ev_glob e5 0
  unfold errAt
  simpa using this
theorem both_of_laid {W : World} (h : laidMetH Tryd.prog Rows.coinOnceRow.laid W) : tabAt W ∧ errAt W := by
  have h' : laidMet Tryd.prog [("moneyer/sha.rounds", Lib.tabData .u32 kInts)] W ∧ handlesMet Tryd.prog [("errors.errorType", Rows.laid_errors_errorType)] W := h
  exact ⟨tab_of h'.1, err_of_handles h'.2⟩
/-- Worlds with what is laid, for the witnesses. -/
noncomputable def bothWorld (os : Os) : World :=
  { laidWorld os with heap := (laidWorld os).heap.modify 1 fun
      | .cells _ t frozen => .cells #[.iface 157 (.agg #[.pointer (some ⟨3, 31, none⟩)])] t frozen
      | o => o }
end Go.Proofs.YtljcdkfafknnpaaDoor
namespace Go.Proofs.YtljcdkfafknnpaaDoor
set_option linter.unusedVariables false
set_option linter.unusedSimpArgs false
open Go.RowKit
attribute [local go_sem ↓] run_load_agg run_store_agg run_load_any exec_build_place

theorem atF_lo (p : PlaceD) : ∀ (cs : List CoinD) (j : Nat), atF p cs j = -1 ∨ (j : Int) ≤ atF p cs j
  | [], j => .inl rfl
  | c :: cs, j => by
    unfold atF
    split
    · exact .inr (Int.le_refl _)
    · rcases atF_lo p cs (j + 1) with h | h
      · exact .inl h
      · exact .inr (by omega)
theorem atF_at (p : PlaceD) : ∀ (cs : List CoinD) (j i : Nat) (hi : i < cs.length), atF p cs j = ((j + i : Nat) : Int) → cs[i].place = p
  | c :: cs, j, 0, hi, h => by
    unfold atF at h
    split at h
    · rename_i hp; exact plE_eq hp
    · rcases atF_lo p cs (j + 1) with h1 | h1 <;> omega
  | c :: cs, j, i + 1, hi, h => by
    unfold atF at h
    split at h
    · omega
    · simp only [List.getElem_cons_succ]
      exact atF_at p cs (j + 1) i (by simpa using hi) (by rw [h]; congr 1; omega)
theorem atF_has (p : PlaceD) : ∀ (cs : List CoinD) (j : Nat), hasP cs p → atF p cs j ≠ -1
  | [], j, ⟨c, hc, _⟩ => by cases hc
  | c :: cs, j, ⟨d, hd, he⟩ => by
    unfold atF
    split
    · omega
    · rename_i hp
      rcases List.mem_cons.1 hd with rfl | hd
      · exact absurd ((plE_iff _ _).2 he) hp
      · exact atF_has p cs (j + 1) ⟨d, hd, he⟩
/-- What a payment makes is there, just that. -/
theorem made_at {cs : List CoinD} {t : TxD} {h : Int} (k : ApplyOk cs t h) (h32 : all32' cs) (j : Nat) (hj : j < t.outs.length) (i : Nat) (hi : i < (applyS cs t h).length) (ha : atF ⟨idD t, j⟩ (applyS cs t h) 0 = i) :
    (applyS cs t h)[i].amount = t.outs[j].amount ∧ (applyS cs t h)[i].lock = t.outs[j].lock ∧ (applyS cs t h)[i].height = h := by
  have hp := atF_at _ _ 0 i hi (by rw [ha, Nat.zero_add])
  have hg := newsC_get (idD t) h t.outs 0 j hj
  rw [Nat.zero_add] at hg
  have hm : (⟨idD t, (j : Int), t.outs[j].amount, t.outs[j].lock, h⟩ : CoinD) ∈ applyS cs t h := mem_withC.2 (.inl (List.mem_of_getElem? hg))
  rw [sorted_one (k.sorted h32) (List.getElem_mem hi) hm hp]
  exact ⟨rfl, rfl, rfl⟩
theorem made_has {cs : List CoinD} {t : TxD} {h : Int} (j : Nat) (hj : j < t.outs.length) : hasP (applyS cs t h) ⟨idD t, j⟩ := hasP_with.2 (.inl (news_has j hj))
theorem Kept.tail {w w1 : World} {b : BoxD} {bs : List BoxD} (h : Kept w (b :: bs) w1) : Kept w bs w1 := ⟨h.below, fun x hx => h.at_ x (List.mem_cons_of_mem _ hx)⟩
theorem told_five (w : World) (hE : errAt w) : Calls Tryd.prog 18 #[.iface 46 (.int .i64 5), .int .i64 5] w fun e w' => e = .returned (.bool true) ∧ Below w.heap.size w w' := by
  have := same_errno 5 5 w hE
  rwa [decide_eq_true (rfl : (5 : Int) = 5)] at this
def cZ : CoinD := ⟨List.replicate 32 0, 0, 0, [], 0⟩
theorem zCoin_eq : zCoin = coinV cZ (.slice none 0 0) := by rfl
set_option maxHeartbeats 8000000 in
set_option maxRecDepth 100000 in
theorem coinOnce_any (cs : List CoinD) (ca : Option Addr) (cc : Nat) (t : TxD) (ai : Option Addr) (ci : Nat) (ao : Option Addr) (co : Nat) (u : TxD) (bi : Option Addr) (di : Nat) (bo : Option Addr) (eo : Nat) (h : Int) (w : World) (hc : rdSl coinR 36 w (.slice ca cs.length cc) cs)
    (hi : rdSl inR 34 w (.slice ai t.ins.length ci) t.ins) (ho : rdSl outR 2 w (.slice ao t.outs.length co) t.outs) (ki : rdSl inR 34 w (.slice bi u.ins.length di) u.ins) (ko : rdSl outR 2 w (.slice bo u.outs.length eo) u.outs) (hT : tabAt w) (hE : errAt w) :
    Calls Tryd.prog 8 #[.slice ca cs.length cc, .agg #[.slice ai t.ins.length ci, .slice ao t.outs.length co, .int .i64 t.time], .agg #[.slice bi u.ins.length di, .slice bo u.outs.length eo, .int .i64 u.time], .int .i64 h] w fun e w' => e = .returned (.bool true) ∧ Below w.heap.size w w' := by
  obtain ⟨n1, n2, n3⟩ := new_tx w ai ao t.ins.length t.outs.length ci co t.time
  obtain ⟨m1, m2, m3⟩ := new_tx (w.alloc (.cells (txV t ai ao ci co) 25)) bi bo u.ins.length u.outs.length di eo u.time
  have k0 := ((Kept.refl w).alloc (txV t ai ao ci co) 25).alloc (txV u bi bo di eo) 25
  rw [show (w.alloc (.cells (txV t ai ao ci co) 25)).heap.size = w.heap.size + 1 from by simp] at k0
  unfold zTx at n1 n2 m1 m2
  unfold txV at m1 m2
  have hgT := rowAt_lt hT
  have HC := Lib.hid hc; have HI := Lib.hid hi; have HO := Lib.hid ho; have HT := Lib.hid hT; have KI := Lib.hid ki; have KO := Lib.hid ko; have HE := Lib.hid hE
  have K0 := Lib.hid k0
  obtain ⟨_, _, e, i1, i2⟩ := sl_bounds ki
  cases e
  obtain ⟨_, _, e, i3, i4⟩ := sl_bounds hi
  cases e
  unfold maxLen at i2 i4
  clear hc hi ho hT ki ko k0 hE
  go_enter Tryd.func8, Tryd.ntmps8
  go_upto_region 1 with fail
  clear n1 n2 n3 m1 m2 m3
  change Code.wp _ _ _ _ ((w.alloc (.cells (txV t ai ao ci co) 25)).alloc (.cells (txV u bi bo di eo) 25))
  obtain ⟨G2, hG2⟩ : ∃ G, w.heap.size + 1 = G := ⟨_, rfl⟩
  rw [hG2] at K0 ⊢
  clear hG2
  obtain ⟨G1, hG1⟩ : ∃ G, w.heap.size = G := ⟨_, rfl⟩
  have K0' : Hid (∃ w0, (w.alloc (.cells (txV t ai ao ci co) 25)).alloc (.cells (txV u bi bo di eo) 25) = w0 ∧ Kept w [(G2, txV u bi bo di eo, 25), (G1, txV t ai ao ci co, 25)] w0) := Lib.hid ⟨_, rfl, by rw [← hG1]; exact K0.out⟩
  rw [hG1] at ⊢
  clear hG1 K0
  obtain ⟨w0, hw0, k0⟩ := K0'.out
  rw [hw0]
  have K0 := Lib.hid k0
  clear hw0 k0 K0'
  go_wp2_with fail
  refine (made_law w0 ((rowAt_below K0.out.below hgT 0 64).trans HT.out)).mono ?_
  rintro e w1 ⟨rfl, hb⟩
  have K1 := Lib.hid (K0.out.on hb)
  clear hb
  have r1 : rowAt w1 G1 0 3 = some #[.slice ai t.ins.length ci, .slice ao t.outs.length co, .int .i64 t.time] := K1.out.row 1 _ 3 rfl rfl
  go_wp2_with fail
  refine (apply_any cs t h ca ai ao cc ci co w1 (coinR_stays.slB HC.out K1.out.below (Nat.le_refl _)) (inR_stays.slB HI.out K1.out.below (Nat.le_refl _)) (outR_stays.slB HO.out K1.out.below (Nat.le_refl _)) ((rowAt_below K1.out.below hgT 0 64).trans HT.out)).mono ?_
  rintro e w2 hap
  obtain ⟨hb, hap⟩ := applyPost_cases hap
  have K2 := Lib.hid (K1.out.on hb)
  clear hb r1
  rcases hap with ⟨hz, rfl⟩ | ⟨k1, va, vcap, ua, ucap, rfl, hs, -⟩
  · rw [errV_ne hz]
    clear hz
    go_wp2
    go_ret
    exact ⟨rfl, K2.out.below⟩
  have KA1 := Lib.hid k1
  have H32 := Lib.hid ((all32_iff cs).1 (all32_of HC.out))
  have HS2 := Lib.hid hs
  have HSF := Lib.hid (k1.setS H32.out)
  have J2 := Lib.hid K2.out.self
  have z1 := (txOk_of KA1.out.tx).outs
  have z2 := (txOk_of KA1.out.tx).ins
  clear k1 hs
  have r3 : rowAt w2 G1 0 3 = some #[.slice ai t.ins.length ci, .slice ao t.outs.length co, .int .i64 t.time] := K2.out.row 1 _ 3 rfl rfl
  go_wp2_with fail
  refine (txID_any t ai ao ci co w2 (inR_stays.slB HI.out K2.out.below (Nat.le_refl _)) (outR_stays.slB HO.out K2.out.below (Nat.le_refl _)) ((rowAt_below K2.out.below hgT 0 64).trans HT.out)).mono ?_
  rintro e w4 ⟨rfl, hb⟩
  have J4 := Lib.hid (J2.out.on hb)
  clear hb r3
  unfold idV
  rw [if_pos KA1.out.tx, KA1.out.tx, errV_0]
  obtain ⟨id, hid⟩ : ∃ id, idD t = id := ⟨_, rfl⟩
  have hid32 : id.length = 32 := by rw [← hid]; exact idD_length t
  have HID := Lib.hid hid
  rw [hid]
  clear hid
  obtain ⟨p1, p2, p3, p4⟩ := new_dg w4 id hid32
  unfold zD at p1 p2
  go_upto_region 8 with fail
  clear p1 p2
  have K5' : Hid (∃ D w5, w4.heap.size = D ∧ w4.alloc (.cells (dgV id) 29) = w5 ∧ Kept w2 [(D, dgV id, 29), (G2, txV u bi bo di eo, 25), (G1, txV t ai ao ci co, 25)] w5) := Lib.hid ⟨_, _, rfl, rfl, J4.out.alloc _ _⟩
  change Code.wp _ _ _ _ (w4.alloc (.cells (dgV id) 29))
  obtain ⟨D1, w5, hd, hw, k5⟩ := K5'.out
  rw [hd, hw]
  have J5 := Lib.hid k5
  clear hd hw k5 K5' J4
  go_wp2_with fail
  go_loopw [16] (fun c wr => ∃ j : Nat, j ≤ t.outs.length ∧ c = .int .i64 j ∧ Hid (Kept w2 [(D1, dgV id, 29), (G2, txV u bi bo di eo, 25), (G1, txV t ai ao ci co, 25)] wr)) (fun c _ => t.outs.length - (intOf c).toNat)
  case atStart => exact ⟨0, by omega, rfl, J5⟩
  case round =>
    obtain ⟨j, hj, rfl, HJ⟩ := hrel
    have HK := Lib.hid (K2.out.from_ HJ.out)
    have c1 : wr.cell? ⟨G1, 1, none⟩ = some (.slice ao t.outs.length co) := HK.out.cell 2 1 _ _ rfl rfl
    by_cases hlt : j < t.outs.length
    · have hp32 : (⟨id, (j : Int)⟩ : PlaceD).tx.length = 32 := hid32
      have r2 : rowAt wr D1 0 32 = some (dgV id) := HK.out.row 0 _ 32 rfl (by rw [dgV_size, hid32])
      go_wp2_with fail
      refine (cFind_any (applyS cs t h) va vcap ⟨id, (j : Int)⟩ hp32 wr (coinR_stays.slB HS2.out HJ.out.below (Nat.le_refl _))).mono ?_
      rintro e w6 ⟨hb, hf⟩
      have J6 := Lib.hid (HJ.out.on hb)
      clear hb r2 c1
      rcases hf with ⟨hz, -⟩ | ⟨-, hz, -⟩ | ⟨i, hi, so, scap, -, hat, rfl, hlk⟩
      · exact absurd HSF.out hz
      · exact absurd hz (by rw [← HID.out]; exact atF_has _ _ 0 (made_has j hlt))
      obtain ⟨q1, q2, q3⟩ := made_at KA1.out H32.out j hlt i hi (by rw [HID.out]; exact hat)
      have q4 := (KA1.out.all32 H32.out) _ (List.getElem_mem hi)
      obtain ⟨c, hcc⟩ : ∃ c, (applyS cs t h)[i] = c := ⟨_, rfl⟩
      rw [hcc] at q1 q2 q3 q4 hlk ⊢
      rw [errV_0]
      have HLK := Lib.hid hlk
      have Q1 := Lib.hid q1; have Q2 := Lib.hid q2; have Q3 := Lib.hid q3
      clear hcc hat hi hlk q1 q2 q3
      obtain ⟨n1, n2, n3, n4⟩ := new_coin w6 c so c.lock.length scap q4
      unfold zCoin at n1 n2
      go_upto_region 14 with fail
      clear n1 n2 n3 n4
      have K7' : Hid (∃ D w7, w6.heap.size = D ∧ w6.alloc (.cells (coinV c (.slice so c.lock.length scap)) 59) = w7 ∧ rdSl opR 3 w7 (.slice so c.lock.length scap) c.lock ∧ Kept w2 [(D, coinV c (.slice so c.lock.length scap), 59), (D1, dgV id, 29), (G2, txV u bi bo di eo, 25), (G1, txV t ai ao ci co, 25)] w7) :=
        Lib.hid ⟨_, _, rfl, rfl, opR_stays.slB HLK.out ((Below.refl w6.heap.size w6).alloc (Nat.le_refl _) _) (Nat.le_refl _), J6.out.alloc _ _⟩
      change Code.wp _ _ _ _ (w6.alloc (.cells (coinV c (.slice so c.lock.length scap)) 59))
      obtain ⟨C7, w7, hd, hw, hlk, k7⟩ := K7'.out
      rw [hd, hw]
      have J7 := Lib.hid k7
      have HLK7 := Lib.hid hlk
      clear hd hw k7 K7' hlk J6 HLK
      have HK7 := Lib.hid (K2.out.from_ J7.out)
      obtain ⟨g, off, so2, scap2, rfl, -, hlk2, hrow⟩ := out_at (outR_stays.slB HO.out HK7.out.below (Nat.le_refl _)) j hlt
      rw [← Q1.out, ← Q2.out] at hrow
      rw [← Q2.out] at hlk2
      have HLK8 := Lib.hid hlk2
      have HC0 : Hid (w7.cell? ⟨g, off + j * 2, none⟩ = some (.int .i64 c.amount)) := Lib.hid (cell_of_rowAt hrow 0 (by omega))
      have HC1 : Hid (w7.cell? ⟨g, off + j * 2 + 1, none⟩ = some (.slice so2 c.lock.length scap2)) := Lib.hid (cell_of_rowAt hrow 1 (by omega))
      have HGL : Hid (g < w7.heap.size) := Lib.hid (rowAt_lt hrow)
      have HV34 : Hid ((coinV c (.slice so c.lock.length scap))[34]? = some (.slice so c.lock.length scap)) := Lib.hid (coinV_tail _ _ q4).2.2.1
      have HV33 : Hid ((coinV c (.slice so c.lock.length scap))[33]? = some (.int .i64 c.amount)) := Lib.hid (coinV_tail _ _ q4).2.1
      have HV35 : Hid ((coinV c (.slice so c.lock.length scap))[35]? = some (.int .i64 h)) := Lib.hid (by rw [← Q3.out]; exact (coinV_tail _ _ q4).2.2.2)
      have JD := Lib.hid J7.out.self.drew
      clear hrow hlk2
      go_region_held3 (fun w' => w'.cell? ⟨C7, 34, none⟩ = some (.slice so c.lock.length scap) ∧ w'.cell? ⟨G1, 1, none⟩ = some (.slice (some ⟨g, off, none⟩) t.outs.length co) ∧ w'.cell? ⟨g, off + j * 2 + 1, none⟩ = some (.slice so2 c.lock.length scap2))
        (exact ⟨JD.out.cell 0 34 _ _ rfl HV34.out, JD.out.cell 3 1 _ _ rfl rfl, (JD.out.below.cell (p := ⟨g, off + j * 2 + 1, none⟩) HGL.out).trans HC1.out⟩)
        (first
          | (go_at_call 28
             refine (lock_same c.lock so so2 c.lock.length scap scap2 _ (opR_stays.slB HLK7.out JD.out.below (Nat.le_refl _)) (opR_stays.slB HLK8.out JD.out.below (Nat.le_refl _)) rfl).mono ?_
             rintro e w' ⟨rfl, hd⟩
             replace JD := Lib.hid (JD.out.on hd.below)
             clear hd))
      have c33 : w'.cell? ⟨C7, 33, none⟩ = some (.int .i64 c.amount) := JD.out.cell 0 33 _ _ rfl HV33.out
      have c35 : w'.cell? ⟨C7, 35, none⟩ = some (.int .i64 h) := JD.out.cell 0 35 _ _ rfl HV35.out
      have c1 : w'.cell? ⟨G1, 1, none⟩ = some (.slice (some ⟨g, off, none⟩) t.outs.length co) := JD.out.cell 3 1 _ _ rfl rfl
      have c0 : w'.cell? ⟨g, off + j * 2, none⟩ = some (.int .i64 c.amount) := (JD.out.below.cell (p := ⟨g, off + j * 2, none⟩) HGL.out).trans HC0.out
      have JN := Lib.hid (J7.out.from_ JD.out).tail
      clear JD J7 HK7 HLK7 HLK8 HC0 HC1 HV33 HV34 HV35 q4
      go_wp2_with fail
      go_region
      all_goals
        go_wp2
        go_roundw
        case rel => exact ⟨j + 1, by omega, by go_num, Lib.hid JN.out.drew⟩
        case measure => simp [intOf]; omega
    · have c0 : wr.cell? ⟨G1, 0, none⟩ = some (.slice ai t.ins.length ci) := HK.out.cell 2 0 _ _ rfl rfl
      go_upto_region 17 with fail
      clear c1
      have HJ0 := HJ
      obtain ⟨w8, hw8⟩ : ∃ w8, wr = w8 := ⟨_, rfl⟩
      rw [hw8] at HJ0 c0 ⊢
      clear HJ HK hlt hj hw8
      by_cases hn : t.ins.length = 0
      · go_wp2_with fail
        clear c0
        go_loopw [24] (fun c wr => c = .int .i64 0 ∧ Hid (Kept w2 [(D1, dgV id, 29), (G2, txV u bi bo di eo, 25), (G1, txV t ai ao ci co, 25)] wr)) (fun _ _ => 0)
        case atStart => exact ⟨rfl, HJ0⟩
        case round =>
          obtain ⟨rfl, HJ⟩ := hrel
          have HK := Lib.hid (K2.out.from_ HJ.out)
          have c0 : wr.cell? ⟨G1, 0, none⟩ = some (.slice ai t.ins.length ci) := HK.out.cell 2 0 _ _ rfl rfl
          go_wp2
          go_ret
          exact ⟨rfl, HK.out.below⟩
      · have hn0 : 0 < t.ins.length := by omega
        have HM := Lib.hid (List.getElem_mem hn0)
        have HAG := Lib.hid (apply_gone (u := t) KA1.out HM.out HM.out rfl h)
        have r3 : rowAt w8 G1 0 3 = some #[.slice ai t.ins.length ci, .slice ao t.outs.length co, .int .i64 t.time] := HJ0.out.row 2 _ 3 rfl rfl
        have K8 := Lib.hid (K2.out.from_ HJ0.out)
        clear hn
        go_upto_region 18 with fail
        clear c0
        go_wp2_with fail
        refine (apply_any (applyS cs t h) t h va ai ao vcap ci co w8 (coinR_stays.slB HS2.out HJ0.out.below (Nat.le_refl _)) (inR_stays.slB HI.out K8.out.below (Nat.le_refl _)) (outR_stays.slB HO.out K8.out.below (Nat.le_refl _)) ((rowAt_below K8.out.below hgT 0 64).trans HT.out)).mono ?_
        rintro e w9 hap
        obtain ⟨hb, hap⟩ := applyPost_cases hap
        have J9 := Lib.hid (HJ0.out.on hb)
        clear hb r3 HM K8
        rcases hap with ⟨hz, rfl⟩ | ⟨k2, -⟩
        rotate_left
        · exact absurd (applyOk_to k2) HAG.out
        rw [errV_ne hz]
        clear hz
        go_wp2_with fail
        go_loopw [24] (fun c wr => ∃ j : Nat, j ≤ t.ins.length ∧ c = .int .i64 j ∧ Hid (Kept w2 [(D1, dgV id, 29), (G2, txV u bi bo di eo, 25), (G1, txV t ai ao ci co, 25)] wr)) (fun c _ => t.ins.length - (intOf c).toNat)
        case atStart => exact ⟨0, by omega, rfl, J9⟩
        case round =>
          obtain ⟨j, hj, rfl, HJ⟩ := hrel
          have HK := Lib.hid (K2.out.from_ HJ.out)
          have c0 : wr.cell? ⟨G1, 0, none⟩ = some (.slice ai t.ins.length ci) := HK.out.cell 2 0 _ _ rfl rfl
          by_cases hlt : j < t.ins.length
          · obtain ⟨g, off, so, scap, rfl, -, h32, hkeys, hrow00⟩ := in_at HI.out j hlt
            have hgw := rowAt_lt hrow00
            have hrow0 := (rowAt_below HK.out.below hgw (off + j * 34) 34).trans hrow00
            have hplw := in_place hrow00 h32
            have r1 := in_dig hrow0 h32
            have r2 : rowAt wr D1 0 32 = some (dgV id) := HK.out.row 0 _ 32 rfl (by rw [dgV_size, hid32])
            have hpl := in_place hrow0 h32
            have HMX := Lib.hid (List.getElem_mem hlt)
            obtain ⟨x, hx⟩ : ∃ x, t.ins[j] = x := ⟨_, rfl⟩
            rw [hx] at h32 r1 hpl hplw HMX
            have HPW := Lib.hid hplw
            have he := run_eql_dig x.tx id h32 hid32
            have HPL := Lib.hid hpl
            have hgl := rowAt_lt hpl
            clear hx hkeys hrow0 hrow00 hpl hplw
            by_cases hxe : x.tx = id
            · rw [decide_eq_true hxe] at he
              clear hxe
              go_wp2_with fail
              go_region
              all_goals
                go_wp2
                go_ret
                exact ⟨rfl, HK.out.drew.below⟩
            · rw [decide_eq_false hxe] at he
              clear hxe
              have hp32 : x.place.tx.length = 32 := h32
              go_wp2_with fail
              go_region
              have r4 : rowAt wr g (off + j * 34) 33 = some (plV x.place) := HPL.out
              go_wp2_with fail
              have JD := Lib.hid HJ.out.drew
              obtain ⟨wd, hwd⟩ : ∃ wd, wr.drew = wd := ⟨_, rfl⟩
              rw [hwd] at JD ⊢
              clear hwd r1 r2 r4 c0 he HPL
              refine (cFind_any (applyS cs t h) va vcap x.place hp32 wd (coinR_stays.slB HS2.out JD.out.below (Nat.le_refl _))).mono ?_
              rintro e w6 ⟨hb, hf⟩
              have J6 := Lib.hid (JD.out.on hb)
              clear hb
              have hfe : e = .returned (.tuple #[.agg zCoin, errV 5]) := by
                rcases hf with ⟨hz, -⟩ | ⟨-, -, he⟩ | ⟨i, hi, so, scap, -, hat, -, -⟩
                · exact absurd HSF.out hz
                · exact he
                · exact absurd ⟨_, List.getElem_mem hi, atF_at _ _ 0 i hi (by rw [hat, Nat.zero_add])⟩ (KA1.out.gone HMX.out)
              subst hfe
              clear hf
              rw [errV_ne (by decide), zCoin_eq]
              obtain ⟨n1, n2, n3, n4⟩ := new_coin w6 cZ none 0 0 rfl
              unfold zCoin at n1 n2
              obtain ⟨CV, hCV⟩ : ∃ CV, coinV cZ (.slice none 0 0) = CV := ⟨_, rfl⟩
              rw [hCV] at n3 n4 ⊢
              clear hCV
              go_upto_region 27 with fail
              clear n1 n2 n3 n4
              have K7' : Hid (∃ D w7, w6.heap.size = D ∧ w6.alloc (.cells CV 59) = w7 ∧ Kept w2 [(D, CV, 59), (D1, dgV id, 29), (G2, txV u bi bo di eo, 25), (G1, txV t (some ⟨g, off, none⟩) ao ci co, 25)] w7) := Lib.hid ⟨_, _, rfl, rfl, J6.out.alloc _ _⟩
              change Code.wp _ _ _ _ (w6.alloc (.cells CV 59))
              obtain ⟨C7, w7, hd, hw, k7⟩ := K7'.out
              rw [hd, hw]
              have J7 := Lib.hid k7.tail
              clear hd hw k7 K7' J6
              go_wp2_with fail
              refine (told_five w7 (errAt_below HE.out (K2.out.from_ J7.out).below (Nat.le_refl _))).mono ?_
              rintro e w8' ⟨rfl, hb⟩
              have J8 := Lib.hid (J7.out.on hb)
              clear hb J7
              go_wp2_with fail
              go_loopw [28] (fun c wq => ∃ k : Nat, k ≤ u.ins.length ∧ c = .int .i64 k ∧ Hid (Kept w2 [(D1, dgV id, 29), (G2, txV u bi bo di eo, 25), (G1, txV t (some ⟨g, off, none⟩) ao ci co, 25)] wq)) (fun c _ => u.ins.length - (intOf c).toNat)
              case atStart => exact ⟨0, by omega, rfl, J8⟩
              case round =>
                obtain ⟨k, hk, rfl, HQ⟩ := hrel
                have HL := Lib.hid (K2.out.from_ HQ.out)
                have c0 : wr.cell? ⟨G2, 0, none⟩ = some (.slice bi u.ins.length di) := HL.out.cell 1 0 _ _ rfl rfl
                have c1 : wr.cell? ⟨G1, 0, none⟩ = some (.slice (some ⟨g, off, none⟩) t.ins.length ci) := HL.out.cell 2 0 _ _ rfl rfl
                by_cases hkt : k < u.ins.length
                · obtain ⟨g2, off2, so2, scap2, rfl, -, h322, -, hrow2⟩ := in_at KI.out k hkt
                  have hplw2 := in_place hrow2 h322
                  have r1 : rowAt wr g2 (off2 + k * 34) 33 = some (plV u.ins[k].place) := (rowAt_below HL.out.below (rowAt_lt hrow2) _ _).trans hplw2
                  have r2 : rowAt wr g (off + j * 34) 33 = some (plV x.place) := (rowAt_below HL.out.below hgw _ _).trans HPW.out
                  have HMY := Lib.hid (List.getElem_mem hkt)
                  obtain ⟨y, hy⟩ : ∃ y, u.ins[k] = y := ⟨_, rfl⟩
                  rw [hy] at h322 r1 HMY
                  have he := run_eql_place y.place x.place h322 hp32
                  clear hy hrow2 hplw2
                  by_cases hxy : y.place = x.place
                  · rw [(plE_iff _ _).2 hxy] at he
                    have HAG := Lib.hid (apply_gone (u := u) KA1.out HMX.out HMY.out hxy h)
                    clear hxy
                    go_wp2_with fail
                    go_region
                    have r5 : rowAt wr G2 0 3 = some #[.slice (some ⟨g2, off2, none⟩) u.ins.length di, .slice bo u.outs.length eo, .int .i64 u.time] := HL.out.row 1 _ 3 rfl rfl
                    go_wp2_with fail
                    have JD := Lib.hid HQ.out.drew
                    obtain ⟨wd, hwd⟩ : ∃ wd, wr.drew = wd := ⟨_, rfl⟩
                    rw [hwd] at JD ⊢
                    have KD := Lib.hid (K2.out.from_ JD.out)
                    clear hwd r1 r2 r5 c0 c1 he
                    refine (apply_any (applyS cs t h) u h va (some ⟨g2, off2, none⟩) bo vcap di eo wd (coinR_stays.slB HS2.out JD.out.below (Nat.le_refl _)) (inR_stays.slB KI.out KD.out.below (Nat.le_refl _)) (outR_stays.slB KO.out KD.out.below (Nat.le_refl _)) ((rowAt_below KD.out.below hgT 0 64).trans HT.out)).mono ?_
                    rintro e wz hap
                    obtain ⟨hb, hap⟩ := applyPost_cases hap
                    have KZ := Lib.hid (KD.out.on hb)
                    clear hb
                    rcases hap with ⟨hz, rfl⟩ | ⟨k2, -⟩
                    rotate_left
                    · exact absurd (applyOk_to k2) HAG.out
                    rw [errV_ne hz]
                    clear hz
                    go_wp2
                    go_ret
                    exact ⟨rfl, KZ.out.below⟩
                  · have hne : plE y.place x.place = false := by
                      cases hb : plE y.place x.place with
                      | false => rfl
                      | true => exact absurd ((plE_iff _ _).1 hb) hxy
                    rw [hne] at he
                    clear hxy hne
                    go_wp2_with fail
                    go_region
                    all_goals
                      go_wp2
                      go_roundw
                      case rel => exact ⟨k + 1, by omega, by go_num, Lib.hid HQ.out.drew⟩
                      case measure => simp [intOf]; omega
                · clear c1
                  go_wp2_with fail
                  go_roundw
                  case rel => exact ⟨j + 1, by omega, by go_num, HQ⟩
                  case measure => simp [intOf]; omega
          · go_wp2
            go_ret
            exact ⟨rfl, HK.out.below⟩
end Go.Proofs.YtljcdkfafknnpaaDoor
namespace Go.Proofs.YtljcdkfafknnpaaDoor.coinOnce
set_option linter.unusedVariables false
set_option linter.unusedSimpArgs false
open Go.ChangeShapes Go.WideShapes Go.ChangeAt Go.RowKit
open Go.Proofs.YtljcdkfafknnpaaDoor

theorem okWide_arr {P : Program} {w : World} {r : Reach} {base : Nat} {n : Nat} {t e : TypeId} {v : Value} (ht : P.underlying t = some (.array n e)) (h : Value.okWide P w r base t v) : ∃ cs, v = .agg cs ∧ cs.size = P.cellsOf t := by
  simp only [Value.okWide, ht] at h
  obtain ⟨cs, h1, h2, -⟩ := h
  exact ⟨cs, h1, h2⟩
def witP : Value := .agg ((Array.replicate 32 (Value.int .u8 0)).push (Value.int .i64 0))
theorem okWide_st {P : Program} {w : World} {r : Reach} {base : Nat} {t : TypeId} {fs : Array Field} {v : Value} (ht : P.underlying t = some (.struct fs)) (h : Value.okWide P w r base t v) : ∃ cs, v = .agg cs ∧ cs.size = P.cellsOf t := by
  simp only [Value.okWide, ht] at h
  obtain ⟨cs, h1, h2, -⟩ := h
  exact ⟨cs, h1, h2⟩
theorem trodAll_cons_mk2 {H : Type} {enc : TypeId × Value → H} {P : Program} {w : World} {sp : Nat → Bool} {t : TypeId} {ts : List TypeId} {v : Value} {vs : List Value} {d : DataW H} {ds : List (DataW H)} {p q : List MemPlace}
    (h : DataW.Trod enc P w 0 sp true t v d p) (r : DataW.TrodAll enc P w 0 sp true ts vs ds q) : DataW.TrodAll enc P w 0 sp true (t :: ts) (v :: vs) (d :: ds) (p ++ q) := ⟨p, q, h, r, rfl⟩
set_option maxRecDepth 100000 in
theorem contract (walk : ∀ (zs0 : List CoinD) (ao0 : Option Addr) (c0 : Nat) (t1 : TxD) (ai1 : Option Addr) (ci1 : Nat) (ao1 : Option Addr) (co1 : Nat) (t2 : TxD) (ai2 : Option Addr) (ci2 : Nat) (ao2 : Option Addr) (co2 : Nat) (a3 : Int) (w : World) (_ : rdSl coinR 36 w (.slice ao0 zs0.length c0) zs0) (_ : rdSl inR 34 w (.slice ai1 t1.ins.length ci1) t1.ins) (_ : rdSl outR 2 w (.slice ao1 t1.outs.length co1) t1.outs) (_ : rdSl inR 34 w (.slice ai2 t2.ins.length ci2) t2.ins) (_ : rdSl outR 2 w (.slice ao2 t2.outs.length co2) t2.outs) (_ : (Lit.int .i64 a3).wf = true) (_ : tabAt w) (_ : errAt w),
      Calls Tryd.prog 8 #[.slice ao0 zs0.length c0, .agg #[.slice ai1 t1.ins.length ci1, .slice ao1 t1.outs.length co1, .int .i64 t1.time], .agg #[.slice ai2 t2.ins.length ci2, .slice ao2 t2.outs.length co2, .int .i64 t2.time], .int .i64 a3] w fun e w' => e = .returned (.bool true) ∧ Below w.heap.size w w')
    (H : Type) (enc : TypeId × Value → H) (W : World) (base : Nat) (args : Array Value) (ds gs : List (DataW H)) (before : List MemPlace)
    (hval : ∀ (j : Nat) t v, Tryd.f8.params[j]? = some t → args[j]? = some v → Value.okWide Tryd.prog W .any base t v)
    (hW : DataW.Whole enc Tryd.prog Tryd.f8.params.toList Rows.coinOnceSpec.vars false W args.toList ds gs before) (hL : laidMetH Tryd.prog Rows.coinOnceRow.laid W) :
    Calls Tryd.prog 8 args W fun e W' => ∃ v, e = .returned v ∧ Rows.coinOnceSpec.post enc Tryd.prog Tryd.f8 false true false false W args v W' := by
  have hW' := hW
  obtain ⟨p, q, hA0, hV, rfl, hfz, hnd⟩ := hW
  have hA : DataW.TrodAll enc Tryd.prog W 0 (fun _ => true) true Tryd.f8.params.toList args.toList ds p := hA0
  rw [Tryd.params8] at hA hval
  obtain ⟨x0, vs0, d0, ds0, p0, q0, hargs, rfl, rfl, h0, r0⟩ := trodAll_cons hA
  obtain ⟨x1, vs1, d1, ds1, p1, q1, rfl, rfl, rfl, h1, r1⟩ := trodAll_cons r0
  obtain ⟨x2, vs2, d2, ds2, p2, q2, rfl, rfl, rfl, h2, r2⟩ := trodAll_cons r1
  obtain ⟨x3, vs3, d3, ds3, p3, q3, rfl, rfl, rfl, h3, r3⟩ := trodAll_cons r2
  obtain ⟨rfl, rfl, rfl⟩ := trodAll_nil r3
  obtain rfl : args = #[x0, x1, x2, x3] := by cases args; simp_all
  obtain ⟨rfl, rfl⟩ := trodVars_none hV
  obtain ⟨sa0, sl0, sc0, rfl⟩ := okWide_slice Tryd.underlying44 (hval 0 44 x0 rfl rfl)
  have g0 := h0
  obtain ⟨fu0, hf0⟩ := g0
  obtain ⟨zs0, hr0⟩ := open_coins hf0
  obtain ⟨ao0, c0, hx0, -, -⟩ := sl_bounds hr0
  cases hx0
  obtain ⟨cs1, rfl, hz1⟩ := okWide_st Tryd.underlying25 (hval 1 25 x1 rfl rfl)
  have g1 := h1
  obtain ⟨fu1, hf1⟩ := g1
  obtain ⟨t1, sa1, sb1, e1, hi1, ho1⟩ := open_tx hf1
  obtain ⟨ai1, ci1, rfl, -, -⟩ := sl_bounds hi1
  obtain ⟨ao1, co1, rfl, -, -⟩ := sl_bounds ho1
  obtain rfl : cs1 = #[.slice ai1 t1.ins.length ci1, .slice ao1 t1.outs.length co1, .int .i64 t1.time] := by apply Array.ext'; simpa [Value.cells] using e1
  obtain ⟨cs2, rfl, hz2⟩ := okWide_st Tryd.underlying25 (hval 2 25 x2 rfl rfl)
  have g2 := h2
  obtain ⟨fu2, hf2⟩ := g2
  obtain ⟨t2, sa2, sb2, e2, hi2, ho2⟩ := open_tx hf2
  obtain ⟨ai2, ci2, rfl, -, -⟩ := sl_bounds hi2
  obtain ⟨ao2, co2, rfl, -, -⟩ := sl_bounds ho2
  obtain rfl : cs2 = #[.slice ai2 t2.ins.length ci2, .slice ao2 t2.outs.length co2, .int .i64 t2.time] := by apply Array.ext'; simpa [Value.cells] using e2
  have g3 := h3
  obtain ⟨a3, rfl, rfl, rfl, w3⟩ := open_int Tryd.underlying3 (hval 3 3 x3 rfl rfl) g3
  clear hA0
  simp only [List.append_nil] at hW'
  refine (walk zs0 _ _ t1 _ _ _ _ t2 _ _ _ _ a3 W hr0 hi1 ho1 hi2 ho2 w3 (both_of_laid hL).1 (both_of_laid hL).2).mono fun e W' ⟨he, hg⟩ => ?_
  subst he
  have hlt := fun x hx => hW'.lt x hx
  refine ⟨_, rfl, post_of_below (pa := (p0 ++ (p1 ++ (p2 ++ ([] ++ []))))) (pv := []) hW' (fun _ _ _ => trodAll_cons_mk (shut_bool Tryd.underlying4 _) trodAll_mk0)
    (fun sp hsp => (trodAll_cons_mk2 (WideElems.Trod_stays (sp' := sp) (by kernel_rfl) (by kernel_rfl) (of_decide_eq_true (by kernel_rfl)) h0 (fun x hx => hg.same (hlt x (by first | (cases hx; done) | simp [hx]))) (fun x hx => hsp x (by first | (cases hx; done) | simp [hx]))) (trodAll_cons_mk2 (WideElems.Trod_stays (sp' := sp) (by kernel_rfl) (by kernel_rfl) (of_decide_eq_true (by kernel_rfl)) h1 (fun x hx => hg.same (hlt x (by first | (cases hx; done) | simp [hx]))) (fun x hx => hsp x (by first | (cases hx; done) | simp [hx]))) (trodAll_cons_mk2 (WideElems.Trod_stays (sp' := sp) (by kernel_rfl) (by kernel_rfl) (of_decide_eq_true (by kernel_rfl)) h2 (fun x hx => hg.same (hlt x (by first | (cases hx; done) | simp [hx]))) (fun x hx => hsp x (by first | (cases hx; done) | simp [hx]))) (trodAll_cons_mk2 (WideElems.Trod_stays (sp' := sp) (by kernel_rfl) (by kernel_rfl) (of_decide_eq_true (by kernel_rfl)) h3 (fun x hx => hg.same (hlt x (by first | (cases hx; done) | simp [hx]))) (fun x hx => hsp x (by first | (cases hx; done) | simp [hx]))) trodAll_mk0)))))
    (fun _ _ => rfl) (by simp) hg (ok_one (by kernel_rfl) rfl (okWide_bool_mk Tryd.underlying4 _))⟩

set_option maxRecDepth 100000 in
theorem laid_met (os : Os) : laidMetH Tryd.prog Rows.coinOnceRow.laid ((bothWorld os).forCall (fun _ _ => 0) ⟨#[], #[.slice none 0 0, .agg #[.slice none 0 0, .slice none 0 0, .int .i64 0], .agg #[.slice none 0 0, .slice none 0 0, .int .i64 0], .int .i64 0], []⟩).memory :=
  laidMetH_of_parts (laidMet_of_run' 8 (by kernel_rfl) (by kernel_rfl)) (by kernel_rfl)
set_option maxRecDepth 100000 in
theorem reads (os : Os) {H : Type} (enc : TypeId × Value → H) : ∃ places, DataW.whole enc Tryd.prog ((bothWorld os).forCall (fun _ _ => 0) ⟨#[], #[.slice none 0 0, .agg #[.slice none 0 0, .slice none 0 0, .int .i64 0], .agg #[.slice none 0 0, .slice none 0 0, .int .i64 0], .int .i64 0], []⟩).memory Tryd.f8.params.toList Rows.coinOnceSpec.vars false (#[.slice none 0 0, .agg #[.slice none 0 0, .slice none 0 0, .int .i64 0], .agg #[.slice none 0 0, .slice none 0 0, .int .i64 0], .int .i64 0] : Array Value).toList 8 = some ([.nil, .agg [.nil, .nil, .lit (.int .i64 0)], .agg [.nil, .nil, .lit (.int .i64 0)], .lit (.int .i64 0)], [], places) :=
  ⟨[], by kernel_rfl⟩

set_option maxRecDepth 100000 in
theorem lifted (walk : ∀ (zs0 : List CoinD) (ao0 : Option Addr) (c0 : Nat) (t1 : TxD) (ai1 : Option Addr) (ci1 : Nat) (ao1 : Option Addr) (co1 : Nat) (t2 : TxD) (ai2 : Option Addr) (ci2 : Nat) (ao2 : Option Addr) (co2 : Nat) (a3 : Int) (w : World) (_ : rdSl coinR 36 w (.slice ao0 zs0.length c0) zs0) (_ : rdSl inR 34 w (.slice ai1 t1.ins.length ci1) t1.ins) (_ : rdSl outR 2 w (.slice ao1 t1.outs.length co1) t1.outs) (_ : rdSl inR 34 w (.slice ai2 t2.ins.length ci2) t2.ins) (_ : rdSl outR 2 w (.slice ao2 t2.outs.length co2) t2.outs) (_ : (Lit.int .i64 a3).wf = true) (_ : tabAt w) (_ : errAt w),
      Calls Tryd.prog 8 #[.slice ao0 zs0.length c0, .agg #[.slice ai1 t1.ins.length ci1, .slice ao1 t1.outs.length co1, .int .i64 t1.time], .agg #[.slice ai2 t2.ins.length ci2, .slice ao2 t2.outs.length co2, .int .i64 t2.time], .int .i64 a3] w fun e w' => e = .returned (.bool true) ∧ Below w.heap.size w w') (os : Os) (started : os.Started) (H : Type) (enc : TypeId × Value → H) (F : Stop.Interp) :
    ReturnsInHanded {} Tryd.checked os 8 .any ((OpenSpec.ofChange Rows.coinOnceSpec).preRow enc Tryd.prog Tryd.f8 Rows.coinOnceRow.domain false Rows.coinOnceRow.laid) (((OpenSpec.ofChange Rows.coinOnceSpec).at F).post enc Tryd.prog Tryd.f8 false true false false) := by
  obtain ⟨places, hx⟩ := reads os enc
  refine returnsInHanded_of_row (C := Tryd.checked) (s := OpenSpec.ofChange Rows.coinOnceSpec) own_knob started (by kernel_rfl) Tryd.func8
    (witness_row_at (enc := enc) (C := Tryd.checked) false (bothWorld os) #[.slice none 0 0, .agg #[.slice none 0 0, .slice none 0 0, .int .i64 0], .agg #[.slice none 0 0, .slice none 0 0, .int .i64 0], .int .i64 0] rfl (by kernel_rfl) (by kernel_rfl) (by kernel_rfl)
      (OpenSpec.preRow_of_cond 8 hx (by kernel_rfl) (fun k hk => by cases hk) (by kernel_rfl) (laid_met os))) ?_
  intro W base args ds gs before hval hW _ _ _ hL _ _
  exact contract walk H enc W base args ds gs before hval hW hL
theorem said_of (walk : ∀ (zs0 : List CoinD) (ao0 : Option Addr) (c0 : Nat) (t1 : TxD) (ai1 : Option Addr) (ci1 : Nat) (ao1 : Option Addr) (co1 : Nat) (t2 : TxD) (ai2 : Option Addr) (ci2 : Nat) (ao2 : Option Addr) (co2 : Nat) (a3 : Int) (w : World) (_ : rdSl coinR 36 w (.slice ao0 zs0.length c0) zs0) (_ : rdSl inR 34 w (.slice ai1 t1.ins.length ci1) t1.ins) (_ : rdSl outR 2 w (.slice ao1 t1.outs.length co1) t1.outs) (_ : rdSl inR 34 w (.slice ai2 t2.ins.length ci2) t2.ins) (_ : rdSl outR 2 w (.slice ao2 t2.outs.length co2) t2.outs) (_ : (Lit.int .i64 a3).wf = true) (_ : tabAt w) (_ : errAt w),
      Calls Tryd.prog 8 #[.slice ao0 zs0.length c0, .agg #[.slice ai1 t1.ins.length ci1, .slice ao1 t1.outs.length co1, .int .i64 t1.time], .agg #[.slice ai2 t2.ins.length ci2, .slice ao2 t2.outs.length co2, .int .i64 t2.time], .int .i64 a3] w fun e w' => e = .returned (.bool true) ∧ Below w.heap.size w w') : Rows.CoinOnceSaid :=
  OpenClaim.holds_of_cond 8 Tryd.f8 rfl rfl rfl rfl rfl rfl rfl ⟨rfl, rfl, rfl, rfl, rfl⟩ rfl rfl rfl rfl rfl (by kernel_rfl) Tryd.func8 (by kernel_rfl)
    (of_decide_eq_true (by kernel_rfl)) (by unfold Func.isWrapper; first | (rw [if_pos (by decide +kernel)]; kernel_rfl) | (rw [if_neg (by decide +kernel)]; exact ⟨rfl, rfl⟩))
    (fun os started H enc _ F => by rw [OpenClaim.pre_eq_preRow]; exact lifted walk os started H enc F)
theorem plain (f : FuncId) (fn : Func) (hf : Tryd.pinned.checked.prog.funcNamed "moneyer/moneyerlaw2.CoinOnce" = some f) (hfn : Tryd.pinned.checked.prog.funcs[f]? = some fn) :
    true = Tryd.pinned.checked.prog.looks [] ∧ ∀ (j : Nat) t, fn.params[j]? = some t → Tryd.pinned.checked.prog.wantsStandIn t = false := by
  obtain rfl : f = 8 := Option.some.inj ((show Tryd.prog.funcNamed "moneyer/moneyerlaw2.CoinOnce" = some 8 by kernel_rfl).symm.trans hf) |>.symm
  obtain rfl : fn = Tryd.f8 := (Option.some.inj (Tryd.func8.symm.trans hfn)).symm
  refine ⟨by kernel_rfl, fun j t ht => ?_⟩
  rw [Tryd.params8] at ht
  have hm := Array.mem_of_getElem? ht
  simp only [List.mem_toArray, List.mem_cons, List.not_mem_nil, or_false] at hm
  rcases hm with rfl | rfl | rfl | rfl
  · exact (show Tryd.prog.wantsStandIn 44 = false by kernel_rfl)
  · exact (show Tryd.prog.wantsStandIn 25 = false by kernel_rfl)
  · exact (show Tryd.prog.wantsStandIn 25 = false by kernel_rfl)
  · exact (show Tryd.prog.wantsStandIn 3 = false by kernel_rfl)
theorem card_of (walk : ∀ (zs0 : List CoinD) (ao0 : Option Addr) (c0 : Nat) (t1 : TxD) (ai1 : Option Addr) (ci1 : Nat) (ao1 : Option Addr) (co1 : Nat) (t2 : TxD) (ai2 : Option Addr) (ci2 : Nat) (ao2 : Option Addr) (co2 : Nat) (a3 : Int) (w : World) (_ : rdSl coinR 36 w (.slice ao0 zs0.length c0) zs0) (_ : rdSl inR 34 w (.slice ai1 t1.ins.length ci1) t1.ins) (_ : rdSl outR 2 w (.slice ao1 t1.outs.length co1) t1.outs) (_ : rdSl inR 34 w (.slice ai2 t2.ins.length ci2) t2.ins) (_ : rdSl outR 2 w (.slice ao2 t2.outs.length co2) t2.outs) (_ : (Lit.int .i64 a3).wf = true) (_ : tabAt w) (_ : errAt w),
      Calls Tryd.prog 8 #[.slice ao0 zs0.length c0, .agg #[.slice ai1 t1.ins.length ci1, .slice ao1 t1.outs.length co1, .int .i64 t1.time], .agg #[.slice ai2 t2.ins.length ci2, .slice ao2 t2.outs.length co2, .int .i64 t2.time], .int .i64 a3] w fun e w' => e = .returned (.bool true) ∧ Below w.heap.size w w') : Rows.CoinOnceCardSaid :=
  Claim7.holds_tied_plain_at .later [] _ _ _ _ (said_of walk) (fun _ h => by cases h) (by kernel_rfl) (fun _ h => by cases h) coinOnce_row_tie rfl ⟨rfl, rfl⟩ (by kernel_rfl) rfl plain (by kernel_rfl)
end Go.Proofs.YtljcdkfafknnpaaDoor.coinOnce
namespace Go.Proofs.YtljcdkfafknnpaaDoor.coinOnce
set_option linter.unusedVariables false
set_option linter.unusedSimpArgs false
open Go.Proofs.YtljcdkfafknnpaaDoor
theorem proved : Rows.CoinOnceCardSaid := card_of fun cs ca cc t ai ci ao co u bi di bo eo h w hc hi ho ki ko _ hT hE => coinOnce_any cs ca cc t ai ci ao co u bi di bo eo h w hc hi ho ki ko hT hE
#print axioms proved
end Go.Proofs.YtljcdkfafknnpaaDoor.coinOnce
