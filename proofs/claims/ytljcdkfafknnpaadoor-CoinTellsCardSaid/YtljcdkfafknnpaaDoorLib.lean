/- Laws on memory that the proofs of this seat share: rows of cells loaded and stored whole. Conditions: none. -/
import Derived.WalkKit
import Derived.ProofKit
import Derived.OpenShut
import Derived.WalkLawsBesides
import Derived.WalkSpells
import Derived.Laws.IdiomCopy
import Derived.Lib.Hide
import Derived.KernelRfl
import Derived.Deep.QuietTactic
import Derived.BigQuiet
import Derived.BigRegion
import Derived.RegionTactic
import Derived.WalkSmall
namespace Go.Proofs.YtljcdkfafknnpaaDoor
set_option linter.unusedVariables false
set_option linter.unusedSimpArgs false
open Go.RowKit

/-- An equation, its proof not seen through by simp. -/
theorem nr {α : Type} {a b : α} (h : a = b) : a = b := h

theorem same_flip {P : Program} {f : FuncId} {args : Array Value} {w : World} {v : Value} (h : Calls P f args w fun e w' => e = .returned v ∧ w = w') : Calls P f args w fun e w' => e = .returned v ∧ w' = w :=
  h.mono fun _ _ ⟨he, hw⟩ => ⟨he, hw.symm⟩

/-- A callee that only computes, in a quiet region behind another one, or in the first one. -/
theorem quiet_add {P : Program} {f : FuncId} {args : Array Value} {w : World} {a n : Nat} {v : Value}
    (h : Calls P f args (w.drewN (a + n)) fun e w' => e = .returned v ∧ w.drewN (a + n) = w') :
    Calls P f args (w.drewN (a + n)) fun e w'' => e = .returned v ∧ ∃ m, w'' = w.drewN (a + m) :=
  h.mono fun _ _ ⟨he, hm⟩ => ⟨he, n, hm.symm⟩
theorem quiet_left {P : Program} {f : FuncId} {args : Array Value} {w : World} {n : Nat} {v : Value}
    (h : Calls P f args (w.drewN n) fun e w' => e = .returned v ∧ w.drewN n = w') : Calls P f args (w.drewN n) fun e w'' => e = .returned v ∧ ∃ m, w'' = w.drewN m :=
  h.mono fun _ _ ⟨he, hm⟩ => ⟨he, n, hm.symm⟩

/-- The n cells from place ⟨g, off⟩ on, if they are there. -/
def rowAt (w : World) (g off n : Nat) : Option (Array Value) :=
  match w.heap[g]? with
  | some (.cells c _ _) => if off + n ≤ c.size then some (c.extract off (off + n)) else none
  | _ => none
/-- May the cells of a block be written? -/
def wrAt (w : World) (g : Nat) : Bool :=
  match w.heap[g]? with
  | some (.cells _ _ fr) => fr == (0, 0)
  | _ => false
/-- Cells laid over those of a block, from one on. -/
def spliceAt (c : Array Value) (off : Nat) (cs : Array Value) : Array Value := (c.toList.take off ++ cs.toList ++ c.toList.drop (off + cs.size)).toArray
def putAt (w : World) (g off : Nat) (cs : Array Value) : World :=
  match w.heap[g]? with
  | some (.cells c _ _) => w.setRow g (spliceAt c off cs)
  | _ => w

/-- Of a value that is a place of cells. -/
def rowOf (w : World) (v : Value) (n : Nat) : Option (Array Value) :=
  match v with
  | .pointer (some ⟨g, off, none⟩) => rowAt w g off n
  | _ => none
def wrOf (w : World) (v : Value) : Bool :=
  match v with
  | .pointer (some ⟨g, _, none⟩) => wrAt w g
  | _ => false
def putOf (w : World) (v : Value) (cs : Array Value) : World :=
  match v with
  | .pointer (some ⟨g, off, none⟩) => putAt w g off cs
  | _ => w
@[go_sem] theorem rowOf_ptr (w : World) (g off n : Nat) : rowOf w (.pointer (some ⟨g, off, none⟩)) n = rowAt w g off n := nr rfl
@[go_sem] theorem wrOf_ptr (w : World) (g off : Nat) : wrOf w (.pointer (some ⟨g, off, none⟩)) = wrAt w g := nr rfl
@[go_sem] theorem putOf_ptr (w : World) (g off : Nat) (cs : Array Value) : putOf w (.pointer (some ⟨g, off, none⟩)) cs = putAt w g off cs := nr rfl

/-! ### How they read behind new blocks, draws, stores -/
@[go_sem] theorem rowAt_drew (w : World) (g off n : Nat) : rowAt w.drew g off n = rowAt w g off n := nr rfl
@[go_sem] theorem wrAt_drew (w : World) (g : Nat) : wrAt w.drew g = wrAt w g := nr rfl
@[go_sem] theorem rowAt_drewN (w : World) (k g off n : Nat) : rowAt (w.drewN k) g off n = rowAt w g off n := nr rfl
@[go_sem] theorem wrAt_drewN (w : World) (k g : Nat) : wrAt (w.drewN k) g = wrAt w g := nr rfl
@[go_sem] theorem rowAt_alloc_past (w : World) (o : Obj) (g off n : Nat) (h : g < w.heap.size) : rowAt (w.alloc o) g off n = rowAt w g off n := by
  unfold rowAt; rw [Below.heap_alloc w o g h]
@[go_sem] theorem wrAt_alloc_past (w : World) (o : Obj) (g : Nat) (h : g < w.heap.size) : wrAt (w.alloc o) g = wrAt w g := by
  unfold wrAt; rw [Below.heap_alloc w o g h]
@[go_sem] theorem rowAt_alloc_at (w : World) (c : Array Value) (t : TypeId) (g off n : Nat) (h : g = w.heap.size) :
    rowAt (w.alloc (.cells c t)) g off n = if off + n ≤ c.size then some (c.extract off (off + n)) else none := by
  subst h; unfold rowAt; rw [heap_alloc_new w _]
@[go_sem] theorem wrAt_alloc_at (w : World) (c : Array Value) (t : TypeId) (g : Nat) (h : g = w.heap.size) : wrAt (w.alloc (.cells c t)) g = true := by
  subst h; unfold wrAt; rw [heap_alloc_new w _]; rfl

theorem rowAt_below {B : Nat} {w w' : World} (h : Below B w w') {g : Nat} (hg : g < B) (off n : Nat) : rowAt w' g off n = rowAt w g off n := by
  unfold rowAt; rw [h.block g hg]
theorem wrAt_below {B : Nat} {w w' : World} (h : Below B w w') {g : Nat} (hg : g < B) : wrAt w' g = wrAt w g := by
  unfold wrAt; rw [h.block g hg]
theorem rowAt_lt {w : World} {g off n : Nat} {cs : Array Value} (h : rowAt w g off n = some cs) : g < w.heap.size := by
  unfold rowAt at h
  cases hh : w.heap[g]? with
  | none => simp [hh] at h
  | some o => exact (Array.getElem?_eq_some_iff.1 hh).1
theorem rowAt_size {w : World} {g off n : Nat} {cs : Array Value} (h : rowAt w g off n = some cs) : cs.size = n := by
  unfold rowAt at h
  split at h
  · split at h
    · cases h; simp; omega
    · cases h
  · cases h
theorem rowAt_of_heap {w : World} {g : Nat} {c : Array Value} {t : TypeId} {fr : Nat × Nat} (h : w.heap[g]? = some (.cells c t fr)) (off n : Nat) (hn : off + n ≤ c.size) :
    rowAt w g off n = some (c.extract off (off + n)) := by unfold rowAt; rw [h]; simp [hn]
theorem rowAt_whole {w : World} {g : Nat} {c : Array Value} {t : TypeId} {fr : Nat × Nat} (h : w.heap[g]? = some (.cells c t fr)) (n : Nat) (hn : n = c.size) :
    rowAt w g 0 n = some c := by subst hn; rw [rowAt_of_heap h 0 c.size (by omega)]; simp
theorem wrAt_of_heap {w : World} {g : Nat} {c : Array Value} {t : TypeId} (h : w.heap[g]? = some (.cells c t (0, 0))) : wrAt w g = true := by unfold wrAt; rw [h]; rfl
/-- A row out of single cells. -/
theorem rowAt_of_cells {w : World} {g off : Nat} {cs : Array Value} (hs : 0 < cs.size) (h : ∀ j v, cs[j]? = some v → w.cell? ⟨g, off + j, none⟩ = some v) : rowAt w g off cs.size = some cs := by
  obtain ⟨n, hn⟩ : ∃ n, cs.size = n + 1 := ⟨cs.size - 1, by omega⟩
  have h0 := h n cs[n] (by simp [hn])
  unfold World.cell? at h0
  unfold rowAt
  cases hh : w.heap[g]? with
  | none => simp [hh] at h0
  | some o =>
    cases o with
    | cells c t fr =>
      have hc : ∀ j v, cs[j]? = some v → c[off + j]? = some v := fun j v hv => by
        have := h j v hv
        simpa [World.cell?, hh] using this
      have hsz : off + cs.size ≤ c.size := by
        have := hc n cs[n] (by simp [hn])
        have := (Array.getElem?_eq_some_iff.1 this).1
        omega
      simp only [hsz, if_true]
      congr 1
      apply Array.ext
      · simp; omega
      · intro i h1 h2
        have := hc i cs[i] (by simp [h2])
        have := Array.getElem?_eq_some_iff.1 this
        simp only [Array.getElem_extract]
        exact this.2
    | _ => simp [hh] at h0
theorem cell_of_rowAt {w : World} {g off n : Nat} {cs : Array Value} (h : rowAt w g off n = some cs) (j : Nat) (hj : j < n) : w.cell? ⟨g, off + j, none⟩ = cs[j]? := by
  unfold rowAt at h
  unfold World.cell?
  cases hh : w.heap[g]? with
  | none => simp [hh] at h
  | some o =>
    cases o with
    | cells c t fr =>
      simp only [hh] at h
      split at h
      · cases h
        simp only [Option.isSome_none, Bool.false_eq_true, if_false]
        rw [Array.getElem?_extract]
        simp; omega
      · cases h
    | _ => simp [hh] at h

/-! ### Loads and stores of whole rows, as one operation -/
/-- Is the type a struct or an array, of so many cells? -/
def aggOf (P : Program) (t : TypeId) : Bool := match P.underlying t with | some (.struct _) | some (.array _ _) => (P.info? t).isSome | _ => false
section
variable {P : Program}
theorem run_isAgg {t : TypeId} (h : aggOf P t = true) (w : World) : (isAgg t).run P w = .ok true w ∧ (sizeOf t).run P w = .ok (P.cellsOf t) w := by
  unfold aggOf at h
  split at h
  · rename_i fs hu
    obtain ⟨i, hi⟩ := Option.isSome_iff_exists.1 h
    refine ⟨?_, ?_⟩
    · unfold isAgg; rw [Sem.run_bind, run_underlying hu w]; simp
    · simp [sizeOf, typeInfo, hi, Program.cellsOf]
  · rename_i n e hu
    obtain ⟨i, hi⟩ := Option.isSome_iff_exists.1 h
    refine ⟨?_, ?_⟩
    · unfold isAgg; rw [Sem.run_bind, run_underlying hu w]; simp
    · simp [sizeOf, typeInfo, hi, Program.cellsOf]
  · cases h
theorem run_loadVar_at {t : TypeId} (h : aggOf P t = true) (w : World) (g off : Nat) {cs : Array Value} (hr : rowAt w g off (P.cellsOf t) = some cs) :
    (loadVar t ⟨g, off, none⟩).run P w = .ok (.agg cs) w := by
  obtain ⟨h1, h2⟩ := run_isAgg h w
  have hs := rowAt_size hr
  have hl : (loadCells ⟨g, off, none⟩ cs.toList.length).run P w = .ok cs.toList.toArray w :=
    run_loadCells_list (P := P) w ⟨g, off, none⟩ cs.toList (fun j v hv => by
      have hadd : (⟨g, off, none⟩ : Addr).add j = ⟨g, off + j, none⟩ := by unfold Addr.add; split <;> simp_all
      have hj : j < cs.size := by
        have := (List.getElem?_eq_some_iff.1 hv).1
        simpa using this
      rw [hadd, cell_of_rowAt hr j (by omega)]
      simpa using hv)
  simp only [Array.length_toList, Array.toArray_toList] at hl
  simp [loadVar, Sem.run_bind, h1, h2, ← hs, hl]
theorem run_load_agg (ev : Operand → Value) (w : World) (dst : Option Tmp) (ty : TypeId) (x : Operand) (type : TypeId) (pos : String) (after : Array Edge) (guard : Option (Nat × Bool))
    (h : aggOf P ty = true) (hr : (rowOf w (ev x) (P.cellsOf ty)).isSome = true) :
    (execOp ev ⟨dst, .load ty x, type, pos, after, guard⟩).run P w = .ok (.value (.agg ((rowOf w (ev x) (P.cellsOf ty)).getD #[]))) w := by
  obtain ⟨cs, hcs⟩ := Option.isSome_iff_exists.1 hr
  unfold rowOf at hcs
  split at hcs
  · rename_i g off hv
    have := run_loadVar_at h w g off hcs
    simp [execOp, hv, Instr.loadAt, Instr.sureAddr, this, rowOf_ptr, hcs]
  · cases hcs
theorem wrAt_heap {w : World} {g off n : Nat} {cs : Array Value} (hr : rowAt w g off n = some cs) (hw : wrAt w g = true) : ∃ c t, w.heap[g]? = some (.cells c t (0, 0)) ∧ off + n ≤ c.size := by
  unfold rowAt at hr
  unfold wrAt at hw
  cases hh : w.heap[g]? with
  | none => simp [hh] at hr
  | some o =>
    cases o with
    | cells c t fr =>
      simp only [hh] at hr hw
      have : fr = (0, 0) := by simpa using hw
      subst this
      refine ⟨c, t, rfl, ?_⟩
      split at hr
      · assumption
      · cases hr
    | _ => simp [hh] at hr
/-- Each cell a plain one. -/
def plainCells (cs : Array Value) : Bool := cs.toList.all Value.oneCell'
theorem run_storeVar_at {t : TypeId} (h : aggOf P t = true) (w : World) (g off : Nat) (cs : Array Value) (hs : cs.size = P.cellsOf t) (h1 : plainCells cs = true)
    (hr : (rowAt w g off (P.cellsOf t)).isSome = true) (hw : wrAt w g = true) : (storeVar t ⟨g, off, none⟩ (.agg cs)).run P w = .ok () (putAt w g off cs) := by
  obtain ⟨_, h2⟩ := run_isAgg h w
  obtain ⟨os, hos⟩ := Option.isSome_iff_exists.1 hr
  obtain ⟨c, e, hh, hsz⟩ := wrAt_heap hos hw
  have hst := run_storeCells_at P g off e cs.toList 0 c w hh (by simp; omega) (List.all_eq_true.1 h1)
  simp only [Nat.add_zero, Array.length_toList] at hst
  simp [storeVar, Sem.run_bind, h2, hs, Value.cells, hst, putAt, hh, spliceAt]
def isAggV (v : Value) : Bool := match v with | .agg _ => true | _ => false
def aggCells (v : Value) : Array Value := match v with | .agg cs => cs | _ => #[]
@[go_sem] theorem isAggV_agg (cs : Array Value) : isAggV (.agg cs) = true := nr rfl
@[go_sem] theorem aggCells_agg (cs : Array Value) : aggCells (.agg cs) = cs := nr rfl
theorem run_store_agg (ev : Operand → Value) (w : World) (dst : Option Tmp) (ty : TypeId) (x y : Operand) (type : TypeId) (pos : String) (after : Array Edge) (guard : Option (Nat × Bool))
    (h : aggOf P ty = true) (hy : isAggV (ev y) = true) (hs : (aggCells (ev y)).size = P.cellsOf ty) (h1 : plainCells (aggCells (ev y)) = true) (hr : (rowOf w (ev x) (P.cellsOf ty)).isSome = true) (hw : wrOf w (ev x) = true) :
    (execOp ev ⟨dst, .store ty x y, type, pos, after, guard⟩).run P w = .ok .skip (putOf w (ev x) (aggCells (ev y))) := by
  unfold isAggV at hy
  split at hy
  · rename_i cs hv
    rw [hv] at hs h1 ⊢
    simp only [aggCells] at hs h1 ⊢
    unfold rowOf at hr
    split at hr
    · rename_i g off hx
      have := run_storeVar_at h w g off cs hs h1 hr (by simpa [hx, wrOf] using hw)
      simp [execOp, hv, hx, Instr.storeAt, Instr.sureAddr, putOf_ptr, this]
    · cases hr
  · cases hy
end

/-! ### A row laid over a row -/
theorem spliceAt_whole (c cs : Array Value) (h : c.size = cs.size) : spliceAt c 0 cs = cs := by
  unfold spliceAt
  rw [List.take_zero, List.nil_append, List.drop_of_length_le (by simp [h]), List.append_nil]
@[go_sem] theorem putAt_alloc_at (w : World) (c : Array Value) (t : TypeId) (g : Nat) (cs : Array Value) (h : g = w.heap.size) (hs : c.size = cs.size) : putAt (w.alloc (.cells c t)) g 0 cs = w.alloc (.cells cs t) := by
  subst h
  unfold putAt
  rw [heap_alloc_new w _]
  simp only [spliceAt_whole c cs hs]
  have e : (w.alloc (.cells c t)).setRow w.heap.size cs = w.alloc (.cells cs t) := by
    unfold World.setRow World.alloc
    congr 1
    apply Array.ext
    · simp
    · intro i h1 h2
      simp only [Array.getElem_modify, Array.getElem_push]
      split
      · rename_i hi; subst hi; simp
      · rename_i hi
        have hlt : i < w.heap.size := by simp at h1; omega
        simp [hlt]
  exact e
@[go_sem] theorem putAt_alloc_past (w : World) (o : Obj) (g off : Nat) (cs : Array Value) (h : g < w.heap.size) : putAt (w.alloc o) g off cs = (putAt w g off cs).alloc o := by
  unfold putAt
  rw [Below.heap_alloc w o g h]
  have e : ∀ c, (w.alloc o).setRow g c = (w.setRow g c).alloc o := fun c => by
    unfold World.setRow World.alloc
    congr 1
    apply Array.ext
    · simp
    · intro i h1 h2
      simp only [Array.getElem_modify, Array.getElem_push, Array.size_modify]
      by_cases hi : i < w.heap.size
      · simp [hi]
      · have : i = w.heap.size := by simp at h1; omega
        subst this
        simp [show ¬ (g = w.heap.size) by omega]
  split
  · rename_i c t fr hh
    simp only [e]
  · rename_i hh
    cases hq : w.heap[g]? with
    | none => rfl
    | some o' => cases o' <;> first | rfl | (exact absurd hq (by intro hq'; exact hh _ _ _ hq'))
@[go_sem] theorem putAt_drew (w : World) (g off : Nat) (cs : Array Value) : putAt w.drew g off cs = (putAt w g off cs).drew := by
  unfold putAt
  show (match w.heap[g]? with | some (.cells c _ _) => w.drew.setRow g (spliceAt c off cs) | _ => w.drew) = _
  split <;> rfl
@[go_sem] theorem putAt_drewN (w : World) (k g off : Nat) (cs : Array Value) : putAt (w.drewN k) g off cs = (putAt w g off cs).drewN k := by
  unfold putAt
  show (match w.heap[g]? with | some (.cells c _ _) => (w.drewN k).setRow g (spliceAt c off cs) | _ => w.drewN k) = _
  split <;> rfl
theorem putAt_of_heap {w : World} {g : Nat} {c : Array Value} {t : TypeId} {fr : Nat × Nat} (h : w.heap[g]? = some (.cells c t fr)) (off : Nat) (cs : Array Value) : putAt w g off cs = w.setRow g (spliceAt c off cs) := by
  unfold putAt; rw [h]
theorem putAt_heap {w : World} {g : Nat} {c : Array Value} {t : TypeId} {fr : Nat × Nat} (h : w.heap[g]? = some (.cells c t fr)) (cs : Array Value) (hs : c.size = cs.size) : (putAt w g 0 cs).heap[g]? = some (.cells cs t fr) := by
  rw [putAt_of_heap h, spliceAt_whole c cs hs]
  exact setRow_heap w g c cs t fr h
theorem rowAt_put_same {w : World} {g : Nat} {c : Array Value} {t : TypeId} {fr : Nat × Nat} (h : w.heap[g]? = some (.cells c t fr)) (cs : Array Value) (hs : c.size = cs.size) (n : Nat) (hn : n = cs.size) : rowAt (putAt w g 0 cs) g 0 n = some cs :=
  rowAt_whole (putAt_heap h cs hs) n hn
theorem putAt_other (w : World) (g off : Nat) (cs : Array Value) (k : Nat) (h : k ≠ g) : (putAt w g off cs).heap[k]? = w.heap[k]? := by
  unfold putAt
  split
  · exact setRow_other w g k _ h
  · rfl
theorem putAt_size (w : World) (g off : Nat) (cs : Array Value) : (putAt w g off cs).heap.size = w.heap.size := by
  unfold putAt; split <;> simp
theorem putAt_below {B : Nat} {a w : World} (h : Below B a w) {g : Nat} (hg : B ≤ g) (off : Nat) (cs : Array Value) : Below B a (putAt w g off cs) := by
  refine h.trans ⟨?_, ?_, ?_, by rw [putAt_size]; exact Nat.le_refl _, fun k hk => putAt_other w g off cs k (by omega)⟩
  · unfold putAt; split <;> rfl
  · unfold putAt; split <;> rfl
  · unfold putAt; split <;> rfl
@[go_sem] theorem plainCells_lit (l : List Value) : plainCells l.toArray = l.all Value.oneCell' := nr rfl
@[go_sem] theorem oneCell_int (k : IntKind) (n : Int) : (Value.int k n).oneCell' = true := nr rfl
@[go_sem] theorem oneCell_bool (b : Bool) : (Value.bool b).oneCell' = true := nr rfl
@[go_sem] theorem oneCell_ptr (a : Option Addr) : (Value.pointer a).oneCell' = true := nr rfl
@[go_sem] theorem oneCell_slice (a : Option Addr) (n m : Nat) : (Value.slice a n m).oneCell' = true := nr rfl
@[go_sem] theorem oneCell_iface (t : TypeId) (v : Value) : (Value.iface t v).oneCell' = true := nr rfl
@[go_sem] theorem oneCell_nil : Value.nilIface.oneCell' = true := nr rfl
theorem plainCells_append (a b : Array Value) : plainCells (a ++ b) = (plainCells a && plainCells b) := by simp [plainCells]
/-- A result that lies in a row. -/
theorem results_cell_at {P : Program} {fn : Func} {p : Tmp} {ty : TypeId} (h : fn.results = #[.cell p ty]) (tmps : Array Value) (w : World) (g off : Nat) (cs : Array Value)
    (hp : tmps.getD p undef = .pointer (some ⟨g, off, none⟩)) (ha : aggOf P ty = true) (hr : rowAt w g off (P.cellsOf ty) = some cs) : (results fn tmps).run P w = .ok (.agg cs) w := by
  have hp' : tmps[p]?.getD undef = .pointer (some ⟨g, off, none⟩) := by simpa using hp
  simp [results, h, hp', asAddr, run_loadVar_at ha w g off hr]
end Go.Proofs.YtljcdkfafknnpaaDoor
