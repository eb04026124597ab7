/- Merged: Heq. Conditions: none beyond each theorem's own. -/
import Derived.Test.YtljcdkfafknnpaaGreatDoorBrd
import Derived.Laws.StructEq
namespace Go.Proofs.YtljcdkfafknnpaaGreatDoor
set_option linter.unusedVariables false
set_option linter.unusedSimpArgs false
open Go.RowKit
theorem eqFields_self {P : Program} (D : Nat) (xs : Array Value) (w : World) : ∀ fs : List Field, (∀ f ∈ fs, ∃ a, (part f.type xs f.offset).run P w = .ok a w ∧ (Op.equalIn D f.type a a).run P w = .ok true w) → (Op.eqFields D xs xs fs).run P w = .ok true w
  | [], _ => by simp [Op.eqFields]
  | f :: fs, h => by
    obtain ⟨a, h1, h2⟩ := h f (List.mem_cons_self ..)
    have ih := eqFields_self D xs w fs (fun g hg => h g (List.mem_cons_of_mem _ hg))
    unfold Op.eqFields
    split
    · simp [Sem.run_bind, h1, h2, ih]
    · exact ih
theorem fields_head : (Tryz.prog.fieldsOf 25).toList.map (fun f => (f.type, f.offset)) = [(23, 0), (23, 32), (3, 64), (3, 65), (3, 66), (3, 67)] := by kernel_rfl
theorem held_head : Tryz.prog.stoodInHeld 25 = false := by kernel_rfl
theorem und_head : Tryz.prog.underlying 25 = some (.struct (Tryz.prog.fieldsOf 25)) := by kernel_rfl
theorem part_hdp (h : HeadD) (k : HdOk h) (w : World) : (part 23 (hdV h) 0).run Tryz.prog w = .ok (.agg (dgV h.prev)) w := by
  obtain ⟨h1, h2⟩ := run_isAgg (P := Tryz.prog) agg_digest w
  simp [part, Sem.run_bind, h1, h2, cells_digest, hdV_prev h k]
theorem part_hdr (h : HeadD) (k : HdOk h) (w : World) : (part 23 (hdV h) 32).run Tryz.prog w = .ok (.agg (dgV h.root)) w := by
  obtain ⟨h1, h2⟩ := run_isAgg (P := Tryz.prog) agg_digest w
  have := hdV_root h k
  simp [part, Sem.run_bind, h1, h2, cells_digest]
  rw [← this]
theorem part_hdi (h : HeadD) (i : Nat) (x : Int) (hx : (hdV h)[i]? = some (.int .i64 x)) (w : World) : (part 3 (hdV h) i).run Tryz.prog w = .ok (.int .i64 x) w := by
  simp [part, isAgg, run_underlying Tryz.underlying3, hx]
theorem eql_hd (h : HeadD) (k : HdOk h) : ∀ w, (Op.equalIn 10000 25 (.agg (hdV h)) (.agg (hdV h))).run Tryz.prog w = .ok true w := fun w => by
  have hd : ∀ (d : List UInt8), d.length = 32 → (Op.equalIn 9999 23 (.agg (dgV d)) (.agg (dgV d))).run Tryz.prog w = .ok true w := fun d hd => by
    have := run_eqItems_digD 9997 d d hd hd w
    simpa using this
  have hi : ∀ (x : Int), (Op.equalIn 9999 3 (.int .i64 x) (.int .i64 x)).run Tryz.prog w = .ok true w := fun x => by
    have := run_equalIn_int (P := Tryz.prog) w 9998 3 .i64 .i64 x x Tryz.underlying3
    simpa using this
  obtain ⟨t0, t1, t2, t3⟩ := hdV_tail h k
  refine (run_equalIn_struct (P := Tryz.prog) w 9999 25 (hdV h) (hdV h) und_head held_head).trans (eqFields_self 9999 (hdV h) w _ fun f hf => ?_)
  have hm : (f.type, f.offset) ∈ (Tryz.prog.fieldsOf 25).toList.map (fun f => (f.type, f.offset)) := List.mem_map.2 ⟨f, hf, rfl⟩
  rw [fields_head] at hm
  simp only [List.mem_cons, Prod.mk.injEq, List.not_mem_nil, or_false] at hm
  rcases hm with ⟨a, b⟩ | ⟨a, b⟩ | ⟨a, b⟩ | ⟨a, b⟩ | ⟨a, b⟩ | ⟨a, b⟩ <;> rw [a, b]
  · exact ⟨_, part_hdp h k w, hd _ k.p⟩
  · exact ⟨_, part_hdr h k w, hd _ k.r⟩
  · exact ⟨_, part_hdi h 64 _ t0 w, hi _⟩
  · exact ⟨_, part_hdi h 65 _ t1 w, hi _⟩
  · exact ⟨_, part_hdi h 66 _ t2 w, hi _⟩
  · exact ⟨_, part_hdi h 67 _ t3 w, hi _⟩
theorem headAt_ok {b : List UInt8} (hb : 64 ≤ b.length) {j i : Nat} {ns : List Nat} {h : HeadD} (hh : headAt b j i ns = some h) : HdOk h := by
  unfold headAt at hh
  split at hh
  · cases hh
  · split at hh
    · cases hh; exact mkHd_ok hb _
    · cases hh
theorem headM_ok (b : List UInt8) : HdOk ((headM b).getD hZero) := by
  cases hq : headM b with
  | none => exact hZero_ok
  | some h =>
    unfold headM at hq
    split at hq
    · cases hq
    · exact headAt_ok (by omega) hq
end Go.Proofs.YtljcdkfafknnpaaGreatDoor
