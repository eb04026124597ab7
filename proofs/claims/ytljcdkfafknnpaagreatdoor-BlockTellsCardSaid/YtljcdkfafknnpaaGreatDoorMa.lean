/- Merged: Lib Own Sha Ty Dv Putm Opn Openb Str Dig0 Plc Brk Ops Cdt Opc Txd Endp Endw Lckf Setp Lckc Cpy Eqp Ord Cpc Srch Setw Setc Fnd Same Keyw Txf. Conditions: none beyond each theorem's own. -/
import Derived.WalkKit
import Derived.ProofKit
import Derived.OpenShut
import Derived.WalkLawsBesides
import Derived.WalkSpells
import Derived.Laws.IdiomCopy
import Derived.Lib.Hide
import Derived.KernelRfl
import Derived.Deep.QuietTactic
import Derived.BigQuiet
import Derived.BigRegion
import Derived.RegionTactic
import Derived.WalkSmall
import Derived.Laws.BitsAllLaws
import Derived.Test.YtljcdkfafknnpaaGreatDoorRows
import Derived.Deep.Slices
import Derived.ChangeSlices
import Derived.SizedLaws
import Derived.ChangeKeysEq
import Derived.Lib.Bytealg
import Derived.Lib.BytesEntry
import Derived.Stop.Asserts
import Derived.Deep.RegionWith
import Derived.Deep.Strs
import Derived.ChangeSame
import Derived.Deep.DeepCutAuto
import Derived.Laws.StructEq
namespace Go.Proofs.YtljcdkfafknnpaaGreatDoor
set_option linter.unusedVariables false
set_option linter.unusedSimpArgs false
open Go.RowKit

/-- An equation, its proof not seen through by simp. -/
theorem nr {α : Type} {a b : α} (h : a = b) : a = b := h

theorem same_flip {P : Program} {f : FuncId} {args : Array Value} {w : World} {v : Value} (h : Calls P f args w fun e w' => e = .returned v ∧ w = w') : Calls P f args w fun e w' => e = .returned v ∧ w' = w :=
  h.mono fun _ _ ⟨he, hw⟩ => ⟨he, hw.symm⟩

/-- A callee that only computes, in a quiet region behind another one, or in the first one. -/
theorem quiet_add {P : Program} {f : FuncId} {args : Array Value} {w : World} {a n : Nat} {v : Value}
    (h : Calls P f args (w.drewN (a + n)) fun e w' => e = .returned v ∧ w.drewN (a + n) = w') :
    Calls P f args (w.drewN (a + n)) fun e w'' => e = .returned v ∧ ∃ m, w'' = w.drewN (a + m) :=
  h.mono fun _ _ ⟨he, hm⟩ => ⟨he, n, hm.symm⟩
theorem quiet_left {P : Program} {f : FuncId} {args : Array Value} {w : World} {n : Nat} {v : Value}
    (h : Calls P f args (w.drewN n) fun e w' => e = .returned v ∧ w.drewN n = w') : Calls P f args (w.drewN n) fun e w'' => e = .returned v ∧ ∃ m, w'' = w.drewN m :=
  h.mono fun _ _ ⟨he, hm⟩ => ⟨he, n, hm.symm⟩

/-- The n cells from place ⟨g, off⟩ on, if they are there. -/
def rowAt (w : World) (g off n : Nat) : Option (Array Value) :=
  match w.heap[g]? with
  | some (.cells c _ _) => if off + n ≤ c.size then some (c.extract off (off + n)) else none
  | _ => none
/-- May the cells of a block be written? -/
def wrAt (w : World) (g : Nat) : Bool :=
  match w.heap[g]? with
  | some (.cells _ _ fr) => fr == (0, 0)
  | _ => false
/-- Cells laid over those of a block, from one on. -/
def spliceAt (c : Array Value) (off : Nat) (cs : Array Value) : Array Value := (c.toList.take off ++ cs.toList ++ c.toList.drop (off + cs.size)).toArray
def putAt (w : World) (g off : Nat) (cs : Array Value) : World :=
  match w.heap[g]? with
  | some (.cells c _ _) => w.setRow g (spliceAt c off cs)
  | _ => w

/-- Of a value that is a place of cells. -/
def rowOf (w : World) (v : Value) (n : Nat) : Option (Array Value) :=
  match v with
  | .pointer (some ⟨g, off, none⟩) => rowAt w g off n
  | _ => none
def wrOf (w : World) (v : Value) : Bool :=
  match v with
  | .pointer (some ⟨g, _, none⟩) => wrAt w g
  | _ => false
def putOf (w : World) (v : Value) (cs : Array Value) : World :=
  match v with
  | .pointer (some ⟨g, off, none⟩) => putAt w g off cs
  | _ => w
@[go_sem] theorem rowOf_ptr (w : World) (g off n : Nat) : rowOf w (.pointer (some ⟨g, off, none⟩)) n = rowAt w g off n := nr rfl
@[go_sem] theorem wrOf_ptr (w : World) (g off : Nat) : wrOf w (.pointer (some ⟨g, off, none⟩)) = wrAt w g := nr rfl
@[go_sem] theorem putOf_ptr (w : World) (g off : Nat) (cs : Array Value) : putOf w (.pointer (some ⟨g, off, none⟩)) cs = putAt w g off cs := nr rfl

/-! ### How they read behind new blocks, draws, stores -/
@[go_sem] theorem rowAt_drew (w : World) (g off n : Nat) : rowAt w.drew g off n = rowAt w g off n := nr rfl
@[go_sem] theorem wrAt_drew (w : World) (g : Nat) : wrAt w.drew g = wrAt w g := nr rfl
@[go_sem] theorem rowAt_drewN (w : World) (k g off n : Nat) : rowAt (w.drewN k) g off n = rowAt w g off n := nr rfl
@[go_sem] theorem wrAt_drewN (w : World) (k g : Nat) : wrAt (w.drewN k) g = wrAt w g := nr rfl
@[go_sem] theorem rowAt_alloc_past (w : World) (o : Obj) (g off n : Nat) (h : g < w.heap.size) : rowAt (w.alloc o) g off n = rowAt w g off n := by
  unfold rowAt; rw [Below.heap_alloc w o g h]
@[go_sem] theorem wrAt_alloc_past (w : World) (o : Obj) (g : Nat) (h : g < w.heap.size) : wrAt (w.alloc o) g = wrAt w g := by
  unfold wrAt; rw [Below.heap_alloc w o g h]
@[go_sem] theorem rowAt_alloc_at (w : World) (c : Array Value) (t : TypeId) (g off n : Nat) (h : g = w.heap.size) :
    rowAt (w.alloc (.cells c t)) g off n = if off + n ≤ c.size then some (c.extract off (off + n)) else none := by
  subst h; unfold rowAt; rw [heap_alloc_new w _]
@[go_sem] theorem wrAt_alloc_at (w : World) (c : Array Value) (t : TypeId) (g : Nat) (h : g = w.heap.size) : wrAt (w.alloc (.cells c t)) g = true := by
  subst h; unfold wrAt; rw [heap_alloc_new w _]; rfl

theorem rowAt_below {B : Nat} {w w' : World} (h : Below B w w') {g : Nat} (hg : g < B) (off n : Nat) : rowAt w' g off n = rowAt w g off n := by
  unfold rowAt; rw [h.block g hg]
theorem wrAt_below {B : Nat} {w w' : World} (h : Below B w w') {g : Nat} (hg : g < B) : wrAt w' g = wrAt w g := by
  unfold wrAt; rw [h.block g hg]
theorem rowAt_lt {w : World} {g off n : Nat} {cs : Array Value} (h : rowAt w g off n = some cs) : g < w.heap.size := by
  unfold rowAt at h
  cases hh : w.heap[g]? with
  | none => simp [hh] at h
  | some o => exact (Array.getElem?_eq_some_iff.1 hh).1
theorem rowAt_size {w : World} {g off n : Nat} {cs : Array Value} (h : rowAt w g off n = some cs) : cs.size = n := by
  unfold rowAt at h
  split at h
  · split at h
    · cases h; simp; omega
    · cases h
  · cases h
theorem rowAt_of_heap {w : World} {g : Nat} {c : Array Value} {t : TypeId} {fr : Nat × Nat} (h : w.heap[g]? = some (.cells c t fr)) (off n : Nat) (hn : off + n ≤ c.size) :
    rowAt w g off n = some (c.extract off (off + n)) := by unfold rowAt; rw [h]; simp [hn]
theorem rowAt_whole {w : World} {g : Nat} {c : Array Value} {t : TypeId} {fr : Nat × Nat} (h : w.heap[g]? = some (.cells c t fr)) (n : Nat) (hn : n = c.size) :
    rowAt w g 0 n = some c := by subst hn; rw [rowAt_of_heap h 0 c.size (by omega)]; simp
theorem wrAt_of_heap {w : World} {g : Nat} {c : Array Value} {t : TypeId} (h : w.heap[g]? = some (.cells c t (0, 0))) : wrAt w g = true := by unfold wrAt; rw [h]; rfl
/-- A row out of single cells. -/
theorem rowAt_of_cells {w : World} {g off : Nat} {cs : Array Value} (hs : 0 < cs.size) (h : ∀ j v, cs[j]? = some v → w.cell? ⟨g, off + j, none⟩ = some v) : rowAt w g off cs.size = some cs := by
  obtain ⟨n, hn⟩ : ∃ n, cs.size = n + 1 := ⟨cs.size - 1, by omega⟩
  have h0 := h n cs[n] (by simp [hn])
  unfold World.cell? at h0
  unfold rowAt
  cases hh : w.heap[g]? with
  | none => simp [hh] at h0
  | some o =>
    cases o with
    | cells c t fr =>
      have hc : ∀ j v, cs[j]? = some v → c[off + j]? = some v := fun j v hv => by
        have := h j v hv
        simpa [World.cell?, hh] using this
      have hsz : off + cs.size ≤ c.size := by
        have := hc n cs[n] (by simp [hn])
        have := (Array.getElem?_eq_some_iff.1 this).1
        omega
      simp only [hsz, if_true]
      congr 1
      apply Array.ext
      · simp; omega
      · intro i h1 h2
        have := hc i cs[i] (by simp [h2])
        have := Array.getElem?_eq_some_iff.1 this
        simp only [Array.getElem_extract]
        exact this.2
    | _ => simp [hh] at h0
theorem cell_of_rowAt {w : World} {g off n : Nat} {cs : Array Value} (h : rowAt w g off n = some cs) (j : Nat) (hj : j < n) : w.cell? ⟨g, off + j, none⟩ = cs[j]? := by
  unfold rowAt at h
  unfold World.cell?
  cases hh : w.heap[g]? with
  | none => simp [hh] at h
  | some o =>
    cases o with
    | cells c t fr =>
      simp only [hh] at h
      split at h
      · cases h
        simp only [Option.isSome_none, Bool.false_eq_true, if_false]
        rw [Array.getElem?_extract]
        simp; omega
      · cases h
    | _ => simp [hh] at h

/-! ### Loads and stores of whole rows, as one operation -/
/-- Is the type a struct or an array, of so many cells? -/
def aggOf (P : Program) (t : TypeId) : Bool := match P.underlying t with | some (.struct _) | some (.array _ _) => (P.info? t).isSome | _ => false
section
variable {P : Program}
theorem run_isAgg {t : TypeId} (h : aggOf P t = true) (w : World) : (isAgg t).run P w = .ok true w ∧ (sizeOf t).run P w = .ok (P.cellsOf t) w := by
  unfold aggOf at h
  split at h
  · rename_i fs hu
    obtain ⟨i, hi⟩ := Option.isSome_iff_exists.1 h
    refine ⟨?_, ?_⟩
    · unfold isAgg; rw [Sem.run_bind, run_underlying hu w]; simp
    · simp [sizeOf, typeInfo, hi, Program.cellsOf]
  · rename_i n e hu
    obtain ⟨i, hi⟩ := Option.isSome_iff_exists.1 h
    refine ⟨?_, ?_⟩
    · unfold isAgg; rw [Sem.run_bind, run_underlying hu w]; simp
    · simp [sizeOf, typeInfo, hi, Program.cellsOf]
  · cases h
theorem run_loadVar_at {t : TypeId} (h : aggOf P t = true) (w : World) (g off : Nat) {cs : Array Value} (hr : rowAt w g off (P.cellsOf t) = some cs) :
    (loadVar t ⟨g, off, none⟩).run P w = .ok (.agg cs) w := by
  obtain ⟨h1, h2⟩ := run_isAgg h w
  have hs := rowAt_size hr
  have hl : (loadCells ⟨g, off, none⟩ cs.toList.length).run P w = .ok cs.toList.toArray w :=
    run_loadCells_list (P := P) w ⟨g, off, none⟩ cs.toList (fun j v hv => by
      have hadd : (⟨g, off, none⟩ : Addr).add j = ⟨g, off + j, none⟩ := by unfold Addr.add; split <;> simp_all
      have hj : j < cs.size := by
        have := (List.getElem?_eq_some_iff.1 hv).1
        simpa using this
      rw [hadd, cell_of_rowAt hr j (by omega)]
      simpa using hv)
  simp only [Array.length_toList, Array.toArray_toList] at hl
  simp [loadVar, Sem.run_bind, h1, h2, ← hs, hl]
theorem run_load_agg (ev : Operand → Value) (w : World) (dst : Option Tmp) (ty : TypeId) (x : Operand) (type : TypeId) (pos : String) (after : Array Edge) (guard : Option (Nat × Bool))
    (h : aggOf P ty = true) (hr : (rowOf w (ev x) (P.cellsOf ty)).isSome = true) :
    (execOp ev ⟨dst, .load ty x, type, pos, after, guard⟩).run P w = .ok (.value (.agg ((rowOf w (ev x) (P.cellsOf ty)).getD #[]))) w := by
  obtain ⟨cs, hcs⟩ := Option.isSome_iff_exists.1 hr
  unfold rowOf at hcs
  split at hcs
  · rename_i g off hv
    have := run_loadVar_at h w g off hcs
    simp [execOp, hv, Instr.loadAt, Instr.sureAddr, this, rowOf_ptr, hcs]
  · cases hcs
theorem wrAt_heap {w : World} {g off n : Nat} {cs : Array Value} (hr : rowAt w g off n = some cs) (hw : wrAt w g = true) : ∃ c t, w.heap[g]? = some (.cells c t (0, 0)) ∧ off + n ≤ c.size := by
  unfold rowAt at hr
  unfold wrAt at hw
  cases hh : w.heap[g]? with
  | none => simp [hh] at hr
  | some o =>
    cases o with
    | cells c t fr =>
      simp only [hh] at hr hw
      have : fr = (0, 0) := by simpa using hw
      subst this
      refine ⟨c, t, rfl, ?_⟩
      split at hr
      · assumption
      · cases hr
    | _ => simp [hh] at hr
/-- Each cell a plain one. -/
def plainCells (cs : Array Value) : Bool := cs.toList.all Value.oneCell'
theorem run_storeVar_at {t : TypeId} (h : aggOf P t = true) (w : World) (g off : Nat) (cs : Array Value) (hs : cs.size = P.cellsOf t) (h1 : plainCells cs = true)
    (hr : (rowAt w g off (P.cellsOf t)).isSome = true) (hw : wrAt w g = true) : (storeVar t ⟨g, off, none⟩ (.agg cs)).run P w = .ok () (putAt w g off cs) := by
  obtain ⟨_, h2⟩ := run_isAgg h w
  obtain ⟨os, hos⟩ := Option.isSome_iff_exists.1 hr
  obtain ⟨c, e, hh, hsz⟩ := wrAt_heap hos hw
  have hst := run_storeCells_at P g off e cs.toList 0 c w hh (by simp; omega) (List.all_eq_true.1 h1)
  simp only [Nat.add_zero, Array.length_toList] at hst
  simp [storeVar, Sem.run_bind, h2, hs, Value.cells, hst, putAt, hh, spliceAt]
def isAggV (v : Value) : Bool := match v with | .agg _ => true | _ => false
def aggCells (v : Value) : Array Value := match v with | .agg cs => cs | _ => #[]
@[go_sem] theorem isAggV_agg (cs : Array Value) : isAggV (.agg cs) = true := nr rfl
@[go_sem] theorem aggCells_agg (cs : Array Value) : aggCells (.agg cs) = cs := nr rfl
theorem run_store_agg (ev : Operand → Value) (w : World) (dst : Option Tmp) (ty : TypeId) (x y : Operand) (type : TypeId) (pos : String) (after : Array Edge) (guard : Option (Nat × Bool))
    (h : aggOf P ty = true) (hy : isAggV (ev y) = true) (hs : (aggCells (ev y)).size = P.cellsOf ty) (h1 : plainCells (aggCells (ev y)) = true) (hr : (rowOf w (ev x) (P.cellsOf ty)).isSome = true) (hw : wrOf w (ev x) = true) :
    (execOp ev ⟨dst, .store ty x y, type, pos, after, guard⟩).run P w = .ok .skip (putOf w (ev x) (aggCells (ev y))) := by
  unfold isAggV at hy
  split at hy
  · rename_i cs hv
    rw [hv] at hs h1 ⊢
    simp only [aggCells] at hs h1 ⊢
    unfold rowOf at hr
    split at hr
    · rename_i g off hx
      have := run_storeVar_at h w g off cs hs h1 hr (by simpa [hx, wrOf] using hw)
      simp [execOp, hv, hx, Instr.storeAt, Instr.sureAddr, putOf_ptr, this]
    · cases hr
  · cases hy
end

/-! ### A row laid over a row -/
theorem spliceAt_whole (c cs : Array Value) (h : c.size = cs.size) : spliceAt c 0 cs = cs := by
  unfold spliceAt
  rw [List.take_zero, List.nil_append, List.drop_of_length_le (by simp [h]), List.append_nil]
@[go_sem] theorem putAt_alloc_at (w : World) (c : Array Value) (t : TypeId) (g : Nat) (cs : Array Value) (h : g = w.heap.size) (hs : c.size = cs.size) : putAt (w.alloc (.cells c t)) g 0 cs = w.alloc (.cells cs t) := by
  subst h
  unfold putAt
  rw [heap_alloc_new w _]
  simp only [spliceAt_whole c cs hs]
  have e : (w.alloc (.cells c t)).setRow w.heap.size cs = w.alloc (.cells cs t) := by
    unfold World.setRow World.alloc
    congr 1
    apply Array.ext
    · simp
    · intro i h1 h2
      simp only [Array.getElem_modify, Array.getElem_push]
      split
      · rename_i hi; subst hi; simp
      · rename_i hi
        have hlt : i < w.heap.size := by simp at h1; omega
        simp [hlt]
  exact e
@[go_sem] theorem putAt_alloc_past (w : World) (o : Obj) (g off : Nat) (cs : Array Value) (h : g < w.heap.size) : putAt (w.alloc o) g off cs = (putAt w g off cs).alloc o := by
  unfold putAt
  rw [Below.heap_alloc w o g h]
  have e : ∀ c, (w.alloc o).setRow g c = (w.setRow g c).alloc o := fun c => by
    unfold World.setRow World.alloc
    congr 1
    apply Array.ext
    · simp
    · intro i h1 h2
      simp only [Array.getElem_modify, Array.getElem_push, Array.size_modify]
      by_cases hi : i < w.heap.size
      · simp [hi]
      · have : i = w.heap.size := by simp at h1; omega
        subst this
        simp [show ¬ (g = w.heap.size) by omega]
  split
  · rename_i c t fr hh
    simp only [e]
  · rename_i hh
    cases hq : w.heap[g]? with
    | none => rfl
    | some o' => cases o' <;> first | rfl | (exact absurd hq (by intro hq'; exact hh _ _ _ hq'))
@[go_sem] theorem putAt_drew (w : World) (g off : Nat) (cs : Array Value) : putAt w.drew g off cs = (putAt w g off cs).drew := by
  unfold putAt
  show (match w.heap[g]? with | some (.cells c _ _) => w.drew.setRow g (spliceAt c off cs) | _ => w.drew) = _
  split <;> rfl
@[go_sem] theorem putAt_drewN (w : World) (k g off : Nat) (cs : Array Value) : putAt (w.drewN k) g off cs = (putAt w g off cs).drewN k := by
  unfold putAt
  show (match w.heap[g]? with | some (.cells c _ _) => (w.drewN k).setRow g (spliceAt c off cs) | _ => w.drewN k) = _
  split <;> rfl
theorem putAt_of_heap {w : World} {g : Nat} {c : Array Value} {t : TypeId} {fr : Nat × Nat} (h : w.heap[g]? = some (.cells c t fr)) (off : Nat) (cs : Array Value) : putAt w g off cs = w.setRow g (spliceAt c off cs) := by
  unfold putAt; rw [h]
theorem putAt_heap {w : World} {g : Nat} {c : Array Value} {t : TypeId} {fr : Nat × Nat} (h : w.heap[g]? = some (.cells c t fr)) (cs : Array Value) (hs : c.size = cs.size) : (putAt w g 0 cs).heap[g]? = some (.cells cs t fr) := by
  rw [putAt_of_heap h, spliceAt_whole c cs hs]
  exact setRow_heap w g c cs t fr h
theorem rowAt_put_same {w : World} {g : Nat} {c : Array Value} {t : TypeId} {fr : Nat × Nat} (h : w.heap[g]? = some (.cells c t fr)) (cs : Array Value) (hs : c.size = cs.size) (n : Nat) (hn : n = cs.size) : rowAt (putAt w g 0 cs) g 0 n = some cs :=
  rowAt_whole (putAt_heap h cs hs) n hn
theorem putAt_other (w : World) (g off : Nat) (cs : Array Value) (k : Nat) (h : k ≠ g) : (putAt w g off cs).heap[k]? = w.heap[k]? := by
  unfold putAt
  split
  · exact setRow_other w g k _ h
  · rfl
theorem putAt_size (w : World) (g off : Nat) (cs : Array Value) : (putAt w g off cs).heap.size = w.heap.size := by
  unfold putAt; split <;> simp
theorem putAt_below {B : Nat} {a w : World} (h : Below B a w) {g : Nat} (hg : B ≤ g) (off : Nat) (cs : Array Value) : Below B a (putAt w g off cs) := by
  refine h.trans ⟨?_, ?_, ?_, by rw [putAt_size]; exact Nat.le_refl _, fun k hk => putAt_other w g off cs k (by omega)⟩
  · unfold putAt; split <;> rfl
  · unfold putAt; split <;> rfl
  · unfold putAt; split <;> rfl
@[go_sem] theorem plainCells_lit (l : List Value) : plainCells l.toArray = l.all Value.oneCell' := nr rfl
@[go_sem] theorem oneCell_int (k : IntKind) (n : Int) : (Value.int k n).oneCell' = true := nr rfl
@[go_sem] theorem oneCell_bool (b : Bool) : (Value.bool b).oneCell' = true := nr rfl
@[go_sem] theorem oneCell_ptr (a : Option Addr) : (Value.pointer a).oneCell' = true := nr rfl
@[go_sem] theorem oneCell_slice (a : Option Addr) (n m : Nat) : (Value.slice a n m).oneCell' = true := nr rfl
@[go_sem] theorem oneCell_iface (t : TypeId) (v : Value) : (Value.iface t v).oneCell' = true := nr rfl
@[go_sem] theorem oneCell_nil : Value.nilIface.oneCell' = true := nr rfl
theorem plainCells_append (a b : Array Value) : plainCells (a ++ b) = (plainCells a && plainCells b) := by simp [plainCells]
/-- A result that lies in a row. -/
theorem results_cell_at {P : Program} {fn : Func} {p : Tmp} {ty : TypeId} (h : fn.results = #[.cell p ty]) (tmps : Array Value) (w : World) (g off : Nat) (cs : Array Value)
    (hp : tmps.getD p undef = .pointer (some ⟨g, off, none⟩)) (ha : aggOf P ty = true) (hr : rowAt w g off (P.cellsOf ty) = some cs) : (results fn tmps).run P w = .ok (.agg cs) w := by
  have hp' : tmps[p]?.getD undef = .pointer (some ⟨g, off, none⟩) := by simpa using hp
  simp [results, h, hp', asAddr, run_loadVar_at ha w g off hr]
end Go.Proofs.YtljcdkfafknnpaaGreatDoor
namespace Go.Proofs.YtljcdkfafknnpaaGreatDoor
set_option linter.unusedVariables false
set_option linter.unusedSimpArgs false
open Go.RowKit

/-- v reads as a slice of n elements, with these cells. -/
def rd (w : World) (v : Value) (n : Nat) (xs : List Value) : Prop :=
  ∃ ao cap, v = .slice ao n cap ∧ n ≤ cap ∧ cap ≤ maxLen ∧ (xs = [] ∨ ∃ g off, ao = some ⟨g, off, none⟩ ∧ ∀ j u, xs[j]? = some u → w.cell? ⟨g, off + j, none⟩ = some u)
/-- v is a slice of the call's own (its row from block base on): n elements of sz cells, with these cells. -/
def own (w : World) (base : Nat) (e : TypeId) (sz : Nat) (v : Value) (n : Nat) (xs : List Value) : Prop :=
  xs.length = n * sz ∧ ∃ ao cap, v = .slice ao n cap ∧ n ≤ cap ∧ cap ≤ maxLen ∧
    (cap = 0 ∨ ∃ g off cur, ao = some ⟨g, off, none⟩ ∧ base ≤ g ∧ w.heap[g]? = some (.cells cur e (0, 0)) ∧ off + cap * sz ≤ cur.size ∧ (cur.toList.drop off).take (n * sz) = xs)

/-- The row that an append to it may write. -/
def wrow : Value → Option Nat
  | .slice (some a) _ cap => if cap = 0 then none else some a.block
  | _ => none
theorem own_nil (w : World) (base : Nat) (e : TypeId) (sz : Nat) : own w base e sz (.slice none 0 0) 0 [] :=
  ⟨by simp, none, 0, rfl, Nat.le_refl _, Nat.zero_le _, .inl rfl⟩
theorem own_rd {w : World} {base : Nat} {e : TypeId} {sz : Nat} {v : Value} {n : Nat} {xs : List Value} (h : own w base e sz v n xs) : rd w v n xs := by
  obtain ⟨hl, ao, cap, rfl, h1, h2, h3⟩ := h
  refine ⟨ao, cap, rfl, h1, h2, ?_⟩
  rcases h3 with h3 | ⟨g, off, cur, rfl, _, hg, hsz, hx⟩
  · left; subst h3; obtain rfl : n = 0 := by omega
    exact List.eq_nil_of_length_eq_zero (by simpa using hl)
  · right
    refine ⟨g, off, rfl, fun j u hj => ?_⟩
    rw [← hx, List.getElem?_take] at hj
    split at hj
    · rw [List.getElem?_drop] at hj
      simpa [World.cell?, hg] using hj
    · cases hj
theorem own_lt {w : World} {base : Nat} {e : TypeId} {sz : Nat} {v : Value} {n : Nat} {xs : List Value} (h : own w base e sz v n xs) {k : Nat} (hk : wrow v = some k) : base ≤ k ∧ k < w.heap.size ∧ ∃ c, w.heap[k]? = some (.cells c e (0, 0)) := by
  obtain ⟨_, ao, cap, rfl, _, _, h3⟩ := h
  rcases h3 with h3 | ⟨g, off, cur, rfl, hb, hg, _⟩
  · subst h3; cases ao <;> simp [wrow] at hk
  · by_cases hc : cap = 0
    · subst hc; simp [wrow] at hk
    · simp [wrow, hc] at hk; subst hk
      exact ⟨hb, (Array.getElem?_eq_some_iff.1 hg).1, cur, hg⟩
/-- A block of another element type is not its row. -/
theorem own_ne {w : World} {base : Nat} {e : TypeId} {sz : Nat} {v : Value} {n : Nat} {xs : List Value} (h : own w base e sz v n xs) {g : Nat} {t : TypeId} {c : Array Value} {fr : Nat × Nat} (hg : w.heap[g]? = some (.cells c t fr)) (hne : e ≠ t) : wrow v ≠ some g := by
  intro hk
  obtain ⟨_, _, c', hc⟩ := own_lt h hk
  rw [hc] at hg
  injection hg with hg
  injection hg with _ ht
  exact hne ht
/-- It stays where no row but others is written. -/
theorem own_kept {w w' : World} {base : Nat} {e : TypeId} {sz : Nat} {v : Value} {n : Nat} {xs : List Value} (h : own w base e sz v n xs)
    (hk : ∀ k, wrow v = some k → base ≤ k → k < w.heap.size → w'.heap[k]? = w.heap[k]?) : own w' base e sz v n xs := by
  obtain ⟨hl, ao, cap, rfl, h1, h2, h3⟩ := h
  refine ⟨hl, ao, cap, rfl, h1, h2, ?_⟩
  rcases h3 with h3 | ⟨g, off, cur, rfl, hb, hg, r⟩
  · exact .inl h3
  · by_cases hc : cap = 0
    · exact .inl hc
    · exact .inr ⟨g, off, cur, rfl, hb, by rw [hk g (by simp [wrow, hc]) hb (Array.getElem?_eq_some_iff.1 hg).1]; exact hg, r⟩
theorem own_alloc {w : World} {base : Nat} {e : TypeId} {sz : Nat} {v : Value} {n : Nat} {xs : List Value} (h : own w base e sz v n xs) (o : Obj) : own (w.alloc o) base e sz v n xs :=
  own_kept h fun k _ _ hk => Below.heap_alloc w o k hk
theorem own_drew {w : World} {base : Nat} {e : TypeId} {sz : Nat} {v : Value} {n : Nat} {xs : List Value} (h : own w base e sz v n xs) : own w.drew base e sz v n xs := h
theorem own_below {B : Nat} {w w' : World} (hb : Below B w w') {base : Nat} {e : TypeId} {sz : Nat} {v : Value} {n : Nat} {xs : List Value} (h : own w base e sz v n xs) (hB : w.heap.size ≤ B) : own w' base e sz v n xs :=
  own_kept h fun k _ _ hk => hb.block k (by omega)
theorem own_base {w : World} {base base' : Nat} {e : TypeId} {sz : Nat} {v : Value} {n : Nat} {xs : List Value} (h : own w base e sz v n xs) (hb : base' ≤ base) : own w base' e sz v n xs := by
  obtain ⟨hl, ao, cap, rfl, h1, h2, h3⟩ := h
  refine ⟨hl, ao, cap, rfl, h1, h2, ?_⟩
  rcases h3 with h3 | ⟨g, off, cur, rfl, hb', r⟩
  · exact .inl h3
  · exact .inr ⟨g, off, cur, rfl, by omega, r⟩
/-- A store into another block. -/
theorem own_setCell {w : World} {base : Nat} {e : TypeId} {sz : Nat} {v : Value} {n : Nat} {xs : List Value} (h : own w base e sz v n xs) (a : Addr) (u : Value) (ha : wrow v ≠ some a.block) : own (w.setCell a u) base e sz v n xs :=
  own_kept h fun k hk _ _ => Below.heap_setCell _ _ _ _ (fun e => ha (by rw [hk, e]))
theorem own_lit {w : World} {base : Nat} {e : TypeId} {sz : Nat} (cs : Array Value) (n : Nat) (hb : base ≤ w.heap.size) (hm : n ≤ maxLen) (hs : cs.size = n * sz) :
    own (w.alloc (.cells cs e)) base e sz (.slice (some ⟨w.heap.size, 0, none⟩) n n) n cs.toList :=
  ⟨by simp [hs], _, _, rfl, Nat.le_refl _, hm, .inr ⟨w.heap.size, 0, cs, rfl, hb, heap_alloc_new w _, by omega, by rw [← hs]; exact List.take_of_length_le (by simp)⟩⟩

/-- A part of it, from an element on. -/
theorem own_cut {w : World} {base : Nat} {e : TypeId} {sz : Nat} {ao : Option Addr} {cap n : Nat} {xs : List Value} (h : own w base e sz (.slice ao n cap) n xs) (k : Nat) (hk : k ≤ n) :
    own w base e sz (.slice (if cap = k then ao else ao.map (·.add (k * sz))) (n - k) (cap - k)) (n - k) (xs.drop (k * sz)) := by
  obtain ⟨hl, ao', cap', hv, h1, h2, h3⟩ := h
  injection hv with hv1 _ hv3
  subst hv1; subst hv3
  have hmul : n * sz - k * sz = (n - k) * sz := (Nat.sub_mul _ _ _).symm
  refine ⟨by rw [List.length_drop, hl, hmul], _, _, rfl, by omega, by omega, ?_⟩
  by_cases hc : cap = k
  · left; omega
  · rcases h3 with h3 | ⟨g, off, cur, rfl, hb, hg, hs, hx⟩
    · left; omega
    · right
      have hle : k * sz ≤ cap * sz := Nat.mul_le_mul_right _ (by omega)
      refine ⟨g, off + k * sz, cur, ?_, hb, hg, ?_, ?_⟩
      · simp [hc, Addr.add_lit]
      · rw [Nat.sub_mul]; omega
      · rw [← hx, List.drop_take, List.drop_drop, hmul]
theorem rd_kept {w w' : World} {v : Value} {n : Nat} {xs : List Value} (h : rd w v n xs) (hk : ∀ k, k < w.heap.size → w'.heap[k]? = w.heap[k]?) : rd w' v n xs := by
  obtain ⟨ao, cap, rfl, h1, h2, h3⟩ := h
  refine ⟨ao, cap, rfl, h1, h2, ?_⟩
  rcases h3 with h3 | ⟨g, off, rfl, h3⟩
  · exact .inl h3
  · refine .inr ⟨g, off, rfl, fun j u hj => ?_⟩
    have := h3 j u hj
    rw [← this]
    exact World.cell?_of_block (hk g (World.block_lt_of_cell? w _ this))
theorem rd_below {w w' : World} {v : Value} {n : Nat} {xs : List Value} (h : rd w v n xs) (hb : Below w.heap.size w w') : rd w' v n xs := rd_kept h hb.block
theorem rd_alloc {w : World} {v : Value} {n : Nat} {xs : List Value} (h : rd w v n xs) (o : Obj) : rd (w.alloc o) v n xs := rd_kept h fun k hk => Below.heap_alloc w o k hk
theorem rd_belowB {B : Nat} {w0 w : World} {v : Value} {n : Nat} {xs : List Value} (h : rd w0 v n xs) (h0 : Below B w0 w) (hB : w0.heap.size ≤ B) : rd w v n xs := rd_kept h fun k hk => h0.block k (by omega)

theorem rd_new1 (w : World) (v : Value) (t : TypeId) (g : Nat) (h : g = w.heap.size) : rd (w.alloc (.cells #[v] t)) (.slice (some ⟨g, 0, none⟩) 1 1) 1 [v] := by
  subst h
  refine ⟨_, 1, rfl, Nat.le_refl _, by unfold maxLen; omega, .inr ⟨w.heap.size, 0, rfl, fun j u hj => ?_⟩⟩
  match j, hj with
  | 0, hj => simp at hj; subst hj; simp [World.cell?_alloc_new]
/-- A store over a cell whose value is none of what is read. -/
theorem rd_setCell_ne {w : World} {v : Value} {n : Nat} {xs : List Value} (h : rd w v n xs) {a : Addr} {old : Value} (u : Value) (hc : w.cell? a = some old) (hne : ∀ x ∈ xs, x ≠ old) : rd (w.setCell a u) v n xs := by
  obtain ⟨ao, cap, rfl, h1, h2, h3⟩ := h
  refine ⟨ao, cap, rfl, h1, h2, ?_⟩
  rcases h3 with h3 | ⟨g, off, rfl, h3⟩
  · exact .inl h3
  · refine .inr ⟨g, off, rfl, fun j x hj => ?_⟩
    have hx := h3 j x hj
    rw [World.cell?_setCell_other w a _ u ?_]
    · exact hx
    · intro e
      rw [← e, hc] at hx
      exact hne x (List.mem_of_getElem? hj) (Option.some.inj hx).symm
theorem vs_oneCell {α : Type} (k : IntKind) (f : α → Int) (l : List α) : ∀ u ∈ l.map (fun x => Value.int k (f x)), u.oneCell' = true := by
  intro u hu
  obtain ⟨x, _, rfl⟩ := List.mem_map.1 hu
  rfl
section
variable {P : Program}
/-- APPEND to a slice of the call's own, of what reads as a slice. -/
theorem run_append_rd (w : World) (base : Nat) (t ty e : TypeId) (i : TypeInfo) (z : Value) (sz bytes : Nat) (ht : P.underlying t = some (.slice e)) (hi : P.info? e = some i) (hz : i.zero = some z)
    (hsz : i.size = sz) (hby : i.bytes = bytes) (hzs : z.cells.size = sz) (h0 : 0 < sz)
    (v : Value) (n : Nat) (xs : List Value) (hown : own w base e sz v n xs)
    (x : Value) (m : Nat) (news : List Value) (hl : news.length = m * sz) (hx : rd w x m news) (h1 : ∀ u ∈ news, u.oneCell' = true)
    (h63 : n + m ≤ maxLen) (hbytes : (n + m) * bytes ≤ 140737488355328) (hbase : base ≤ w.heap.size) :
    ∃ v' w', (Builtin.append_ #[t, t] ty #[v, x]).run P w = .ok v' w' ∧ own w' base e sz v' (n + m) (xs ++ news) ∧ own w' base e sz v n xs ∧ w.grownBy w' (wrow v) := by
  subst hsz
  subst hby
  have hlen : (xs ++ news).length = (n + m) * i.size := by rw [List.length_append, hown.1, hl, Nat.add_mul]
  have hcells : (Builtin.firstCells i.size m x).run P w = .ok news.toArray w ∧ (Builtin.firstCells i.size m x).run P w.drew = .ok news.toArray w.drew := by
    obtain ⟨ao, cap, rfl, c1, c2, c3⟩ := hx
    rcases c3 with c3 | ⟨g, off, rfl, c3⟩
    · subst c3
      obtain rfl : m = 0 := by simp only [List.length_nil] at hl; rcases Nat.mul_eq_zero.1 hl.symm with h | h <;> omega
      cases ao <;> simp [Builtin.firstCells, loadCells, loadCellsFrom]
    · refine ⟨run_firstCells_some (P := P) w i.size m ⟨g, off, none⟩ m cap news hl (fun j u hj => ?_), run_firstCells_some (P := P) w.drew i.size m ⟨g, off, none⟩ m cap news hl (fun j u hj => ?_)⟩
      · rw [Addr.add_lit]; exact c3 j u hj
      · rw [Addr.add_lit]; exact c3 j u hj
  obtain ⟨hxl, ao, cap, rfl, g1, g2, g3⟩ := hown
  obtain ⟨xo, xc, rfl, k1, k2, k3⟩ := hx
  by_cases hroom : n + m ≤ cap
  · rcases g3 with g3 | ⟨g, off, cur, rfl, hbg, hg, hsz, htake⟩
    · subst g3
      obtain rfl : n = 0 := by omega
      obtain rfl : m = 0 := by omega
      obtain rfl : xs = [] := List.eq_nil_of_length_eq_zero (by simpa using hxl)
      obtain rfl : news = [] := List.eq_nil_of_length_eq_zero (by simpa using hl)
      refine ⟨.slice ao 0 0, w, ?_, ⟨by simp, ao, 0, rfl, Nat.le_refl _, Nat.zero_le _, .inl rfl⟩, ⟨by simp, ao, 0, rfl, Nat.le_refl _, Nat.zero_le _, .inl rfl⟩, World.grownBy.refl _ _⟩
      cases ao <;> simp [Builtin.append_, run_underlying ht, sizeOf, typeInfo, hi, Builtin.lenOf, hcells.1, storeCells]
    · by_cases hcap : cap = 0
      · subst hcap
        obtain rfl : n = 0 := by omega
        obtain rfl : m = 0 := by omega
        obtain rfl : xs = [] := List.eq_nil_of_length_eq_zero (by simpa using hxl)
        obtain rfl : news = [] := List.eq_nil_of_length_eq_zero (by simpa using hl)
        refine ⟨.slice (some ⟨g, off, none⟩) 0 0, w, ?_, ⟨by simp, _, 0, rfl, Nat.le_refl _, Nat.zero_le _, .inl rfl⟩, ⟨by simp, _, 0, rfl, Nat.le_refl _, Nat.zero_le _, .inl rfl⟩, World.grownBy.refl _ _⟩
        simp [Builtin.append_, run_underlying ht, sizeOf, typeInfo, hi, Builtin.lenOf, hcells.1, storeCells]
      have hmul : (n + m) * i.size ≤ cap * i.size := Nat.mul_le_mul_right _ hroom
      rw [Nat.add_mul] at hmul
      have hst := run_storeCells_at P g (off + n * i.size) e news 0 cur w hg (by omega) h1
      simp only [Nat.add_zero] at hst
      have hnew : (cur.toList.take (off + n * i.size) ++ news ++ cur.toList.drop (off + n * i.size + news.length)).length = cur.size := by
        simp only [List.length_append, List.length_take, List.length_drop, Array.length_toList]; omega
      have hdrop : ∀ c, c ≤ n * i.size + news.length → ((cur.toList.take (off + n * i.size) ++ news ++ cur.toList.drop (off + n * i.size + news.length)).drop off).take c = (xs ++ news).take c := by
        intro c hc
        have e1 : (cur.toList.take (off + n * i.size) ++ news ++ cur.toList.drop (off + n * i.size + news.length)).drop off = xs ++ news ++ cur.toList.drop (off + n * i.size + news.length) := by
          rw [List.append_assoc, List.drop_append_of_le_length (by simp; omega), List.drop_take, show off + n * i.size - off = n * i.size by omega, htake, List.append_assoc]
        rw [e1, List.take_append_of_le_length (by simp [hxl]; omega)]
      generalize (cur.toList.take (off + n * i.size) ++ news ++ cur.toList.drop (off + n * i.size + news.length)) = C at hst hnew hdrop
      refine ⟨.slice (some ⟨g, off, none⟩) (n + m) cap, w.setRow g C.toArray, ?_, ⟨hlen, _, _, rfl, hroom, g2, .inr ⟨g, off, C.toArray, rfl, hbg, setRow_heap w g cur _ e _ hg, ?_, ?_⟩⟩, ⟨hxl, _, _, rfl, g1, g2, .inr ⟨g, off, C.toArray, rfl, hbg, setRow_heap w g cur _ e _ hg, ?_, ?_⟩⟩,
        ⟨rfl, rfl, rfl, by simp, fun k _ hk => setRow_other w g k _ (fun e => hk (by simp [wrow, e, hcap]))⟩⟩
      · simp [Builtin.append_, run_underlying ht, sizeOf, typeInfo, hi, Builtin.lenOf, hroom, hcells.1, Addr.add_lit, hst]
      · simp only [List.size_toArray]; omega
      · show (C.drop off).take ((n + m) * i.size) = xs ++ news
        rw [hdrop _ (by rw [Nat.add_mul, hl]; exact Nat.le_refl _), ← hlen, List.take_length]
      · simp only [List.size_toArray]; omega
      · show (C.drop off).take (n * i.size) = xs
        rw [hdrop _ (by omega), ← hxl, List.take_left]
  · have hsmall : ¬ (9223372036854775807 < ((n : Int) + (m : Int))) := by simp only [maxLen] at h63; omega
    have hfit : ¬ (281474976710656 < Builtin.nextslicecap (n + m) cap * i.bytes) := by have := growslice_fits (need := n + m) (old := cap) (by omega) hbytes; omega
    have hge := grownCap_ge w (n + m) cap e
    have hcm := grownCap_le_maxLen w (n + m) cap e h63
    have holds : (Builtin.firstCells i.size n (.slice ao n cap)).run P w.drew = .ok xs.toArray w.drew := by
      rcases g3 with g3 | ⟨g, off, cur, rfl, hbg, hg, hsz, htake⟩
      · subst g3
        obtain rfl : n = 0 := by omega
        obtain rfl : xs = [] := List.eq_nil_of_length_eq_zero (by simpa using hxl)
        cases ao <;> simp [Builtin.firstCells, loadCells, loadCellsFrom]
      · refine run_firstCells_some (P := P) w.drew i.size n ⟨g, off, none⟩ n cap xs hxl (fun j u hj => ?_)
        rw [Addr.add_lit]
        rw [← htake, List.getElem?_take] at hj
        split at hj
        · rw [List.getElem?_drop] at hj
          show w.cell? _ = _
          simpa [World.cell?, hg] using hj
        · cases hj
    have hrest : ∀ k, k < w.heap.size → (w.drew.alloc (.cells (xs.toArray ++ news.toArray ++ Builtin.zeroCells z.cells (grownCap w (n + m) cap e - (n + m))) e)).heap[k]? = w.heap[k]? :=
      fun k hk => Below.heap_alloc w.drew _ k hk
    refine ⟨.slice (some ⟨w.heap.size, 0, none⟩) (n + m) (grownCap w (n + m) cap e), w.drew.alloc (.cells (xs.toArray ++ news.toArray ++ Builtin.zeroCells z.cells (grownCap w (n + m) cap e - (n + m))) e), ?_,
      ⟨hlen, _, _, rfl, hge, hcm, .inr ⟨w.heap.size, 0, _, rfl, hbase, heap_alloc_new w.drew _, ?_, ?_⟩⟩, own_kept ⟨hxl, ao, cap, rfl, g1, g2, g3⟩ (fun k _ _ hk => hrest k hk), ⟨rfl, rfl, rfl, by simp, fun k hk _ => hrest k hk⟩⟩
    · simp [Builtin.append_, run_underlying ht, sizeOf, typeInfo, zeroValue, hi, hz, Builtin.lenOf, hroom, hsmall, hfit, Question.forced, holds, hcells.2, newRow, grownCap]
      congr 2
      apply Array.ext'
      simp
    · simp only [Array.size_append, List.size_toArray, size_zeroCells, hzs, hxl, hl, ← Nat.add_mul]
      rw [Nat.zero_add]
      exact Nat.mul_le_mul_right _ (by omega)
    · simp only [Array.toList_append, List.append_assoc, List.drop_zero]
      rw [← List.append_assoc, ← hlen]
      exact List.take_left
/-- 's[k:]'. -/
theorem run_slice_from (t e : TypeId) (sz : Nat) (ht : P.underlying t = some (.slice e)) (hs : (P.info? e).map (·.size) = some sz) (a : Option Addr) (n cap k : Nat) (hk : k ≤ n) (w : World) :
    (Instr.sliceAt t (.slice a n cap) (some (.int .i64 (k : Int))) none none).run P w = .ok (.slice (if cap = k then a else a.map (·.add (k * sz))) (n - k) (cap - k)) w := by
  obtain ⟨i, hi, hsz⟩ : ∃ i, P.info? e = some i ∧ i.size = sz := by
    cases h : P.info? e with
    | none => simp [h] at hs
    | some i => exact ⟨i, rfl, by simpa [h] using hs⟩
  simp [Instr.sliceAt, Instr.slice, run_underlying ht, Instr.sliceBounds, Instr.sliceBound, asIntOf, sizeOf, typeInfo, hi, hsz]
  intro h; omega
/-- For the walk. -/
theorem wpList_append_rd {ops : Array Oper} {rest : List Oper} {o : Oper} {a : Act} {w : World} {Q : Exit → Act → World → Prop} (hgd : o.guard = none) (s x : Operand) (t : TypeId)
    (ho : o.op = .call { callee := .builtin .append, args := #[s, x], argTypes := #[t, t] })
    (e : TypeId) (i : TypeInfo) (z : Value) (sz bytes : Nat) (ht : P.underlying t = some (.slice e)) (hi : P.info? e = some i) (hz : i.zero = some z)
    (hsz : i.size = sz) (hby : i.bytes = bytes) (hzs : z.cells.size = sz) (h0 : 0 < sz)
    (base n : Nat) (xs : List Value) (hown : own w base e sz (a.eval s) n xs)
    (m : Nat) (news : List Value) (hl : news.length = m * sz) (hx : rd w (a.eval x) m news) (h1 : ∀ u ∈ news, u.oneCell' = true)
    (h63 : n + m ≤ maxLen) (hbytes : (n + m) * bytes ≤ 140737488355328) (hbase : base ≤ w.heap.size)
    (h : ∀ v' w', own w' base e sz v' (n + m) (xs ++ news) → own w' base e sz (a.eval s) n xs → w.grownBy w' (wrow (a.eval s)) → wpList P ops Q rest (a.put o.dst v') w') : wpList P ops Q (o :: rest) a w := by
  refine wpList_plain hgd fun K hK => ?_
  obtain ⟨v', w', hrun, r1, r2, r3⟩ := run_append_rd (P := P) w base t o.type e i z sz bytes ht hi hz hsz hby hzs h0 (a.eval s) n xs hown (a.eval x) m news hl hx h1 h63 hbytes hbase
  unfold Oper.wp
  simp [execOp, ho, resolve, invoke, builtin, hrun, Result.andThen]
  exact hK _ _ (h v' w' r1 r2 r3)
end
end Go.Proofs.YtljcdkfafknnpaaGreatDoor
namespace Go.Proofs.YtljcdkfafknnpaaGreatDoor
set_option linter.unusedVariables false
set_option linter.unusedSimpArgs false
open Go.RowKit

/-- A word, a byte, as the number that a cell holds. -/
def wv (x : UInt32) : Int := (x.toNat : Int)
def bv (x : UInt8) : Int := (x.toNat : Int)
theorem wv_nonneg (x : UInt32) : 0 ≤ wv x := by unfold wv; omega
theorem wv_lt (x : UInt32) : wv x < 4294967296 := by have := x.toNat_lt; unfold wv; omega
theorem bv_nonneg (x : UInt8) : 0 ≤ bv x := by unfold bv; omega
theorem bv_lt (x : UInt8) : bv x < 256 := by have := x.toNat_lt; unfold bv; omega
theorem wv_inj {x y : UInt32} (h : wv x = wv y) : x = y := by unfold wv at h; exact UInt32.toNat_inj.1 (by omega)
theorem bv_inj {x y : UInt8} (h : bv x = bv y) : x = y := by unfold bv at h; exact UInt8.toNat_inj.1 (by omega)

theorem wv_add (a b : UInt32) : IntKind.u32.wrap (wv a + wv b) = wv (a + b) := by
  rw [IntKind.wrap_u32']; unfold wv; rw [UInt32.toNat_add]; omega
theorem wv_xor (a b : UInt32) : bits .xor .u32 (wv a) (wv b) = wv (a ^^^ b) := by
  unfold wv; rw [u32_xor_nat _ _ a.toNat_lt b.toNat_lt, UInt32.toNat_xor]
theorem wv_and (a b : UInt32) : bits .and .u32 (wv a) (wv b) = wv (a &&& b) := by
  unfold wv; rw [u32_and_nat _ _ a.toNat_lt b.toNat_lt, UInt32.toNat_and]
theorem wv_or (a b : UInt32) : bits .or .u32 (wv a) (wv b) = wv (a ||| b) := by
  unfold wv; rw [u32_or_nat _ _ a.toNat_lt b.toNat_lt, UInt32.toNat_or]
theorem wv_not (a : UInt32) : bits .xor .u32 4294967295 (wv a) = wv (~~~ a) := by
  have h : (4294967295 : Int) = wv (-1) := by decide
  rw [h, wv_xor]
  congr 1
theorem wv_shl (a : UInt32) (k : Nat) (hk : k < 32) : IntKind.u32.wrap (wv a * (2 ^ k : Nat)) = wv (a <<< UInt32.ofNat k) := by
  rw [IntKind.wrap_u32']; unfold wv
  rw [UInt32.toNat_shiftLeft, UInt32.toNat_ofNat_of_lt' (by have : (32 : Nat) < UInt32.size := by decide
                                                            omega), Nat.shiftLeft_eq, Nat.mod_eq_of_lt hk]
  omega
theorem wv_shr (a : UInt32) (k : Nat) (hk : k < 32) : wv a / (2 ^ k : Nat) = wv (a >>> UInt32.ofNat k) := by
  unfold wv
  rw [UInt32.toNat_shiftRight, UInt32.toNat_ofNat_of_lt' (by have : (32 : Nat) < UInt32.size := by decide
                                                             omega), Nat.shiftRight_eq_div_pow, Nat.mod_eq_of_lt hk]
  omega
theorem wv_byte (b : UInt8) : bv b = wv b.toUInt32 := by unfold bv wv; simp
theorem bv_low (x : UInt32) : IntKind.u8.wrap (wv x) = bv x.toUInt8 := by
  rw [IntKind.wrap_u8']; unfold bv wv; rw [UInt32.toNat_toUInt8]; omega

def rotr (k : Nat) (x : UInt32) : UInt32 := (x <<< UInt32.ofNat (32 - k)) ||| (x >>> UInt32.ofNat k)
def sg0 (x : UInt32) : UInt32 := (rotr 7 x ^^^ rotr 18 x) ^^^ (x >>> 3)
def sg1 (x : UInt32) : UInt32 := (rotr 17 x ^^^ rotr 19 x) ^^^ (x >>> 10)
def bs0 (x : UInt32) : UInt32 := (rotr 2 x ^^^ rotr 13 x) ^^^ rotr 22 x
def bs1 (x : UInt32) : UInt32 := (rotr 6 x ^^^ rotr 11 x) ^^^ rotr 25 x
def kTab : List UInt32 := [1116352408, 1899447441, 3049323471, 3921009573, 961987163, 1508970993, 2453635748, 2870763221, 3624381080, 310598401, 607225278, 1426881987, 1925078388, 2162078206, 2614888103, 3248222580, 3835390401, 4022224774, 264347078, 604807628, 770255983, 1249150122, 1555081692, 1996064986, 2554220882, 2821834349, 2952996808, 3210313671, 3336571891, 3584528711, 113926993, 338241895, 666307205, 773529912, 1294757372, 1396182291, 1695183700, 1986661051, 2177026350, 2456956037, 2730485921, 2820302411, 3259730800, 3345764771, 3516065817, 3600352804, 4094571909, 275423344, 430227734, 506948616, 659060556, 883997877, 958139571, 1322822218, 1537002063, 1747873779, 1955562222, 2024104815, 2227730452, 2361852424, 2428436474, 2756734187, 3204031479, 3329325298]
structure St where
  a : UInt32
  b : UInt32
  c : UInt32
  d : UInt32
  e : UInt32
  f : UInt32
  g : UInt32
  h : UInt32
def St0 : St := ⟨1779033703, 3144134277, 1013904242, 2773480762, 1359893119, 2600822924, 528734635, 1541459225⟩
def rndP (s : St) (k w : UInt32) : UInt32 := (((s.h + bs1 s.e) + ((s.e &&& s.f) ^^^ (~~~ s.e &&& s.g))) + k) + w
def rndQ (s : St) : UInt32 := bs0 s.a + (((s.a &&& s.b) ^^^ (s.a &&& s.c)) ^^^ (s.b &&& s.c))
def rnd (s : St) (k w : UInt32) : St := ⟨rndP s k w + rndQ s, s.a, s.b, s.c, s.d + rndP s k w, s.e, s.f, s.g⟩
/-- The word at place t of bytes. -/
def wordAt (b : List UInt8) (t : Nat) : UInt32 :=
  ((((b.getD (4 * t) 0).toUInt32 <<< 24) ||| ((b.getD (4 * t + 1) 0).toUInt32 <<< 16)) ||| ((b.getD (4 * t + 2) 0).toUInt32 <<< 8)) ||| (b.getD (4 * t + 3) 0).toUInt32
def schNext (l : List UInt32) : UInt32 := ((sg1 (l.getD (l.length - 2) 0) + l.getD (l.length - 7) 0) + sg0 (l.getD (l.length - 15) 0)) + l.getD (l.length - 16) 0
/-- The first words: of the bytes up to 16, then made. -/
def sch (b : List UInt8) : Nat → List UInt32
  | 0 => []
  | t + 1 => if t < 16 then sch b t ++ [wordAt b t] else sch b t ++ [schNext (sch b t)]
theorem sch_zero (b : List UInt8) : sch b 0 = [] := rfl
theorem sch_length (b : List UInt8) (t : Nat) : (sch b t).length = t := by
  induction t with
  | zero => rfl
  | succ t ih => unfold sch; split <;> simp [ih]
theorem sch_low (b : List UInt8) (t : Nat) (h : t < 16) : sch b (t + 1) = sch b t ++ [wordAt b t] := by rw [sch, if_pos h]
theorem sch_high (b : List UInt8) (t : Nat) (h : 16 ≤ t) : sch b (t + 1) = sch b t ++ [schNext (sch b t)] := by rw [sch, if_neg (by omega)]
theorem sch_getD (b : List UInt8) (t n : Nat) (h : t < n) : (sch b n).getD t 0 = (sch b (t + 1)).getD t 0 := by
  induction n with
  | zero => omega
  | succ n ih =>
    by_cases hn : t = n
    · subst hn; rfl
    · have h1 : (sch b (n + 1)).getD t 0 = (sch b n).getD t 0 := by
        have hl := sch_length b n
        have h2 : t < (sch b n).length := by omega
        by_cases h16 : n < 16
        · rw [sch_low b n h16, List.getD_eq_getElem?_getD, List.getElem?_append_left h2, ← List.getD_eq_getElem?_getD]
        · rw [sch_high b n (by omega), List.getD_eq_getElem?_getD, List.getElem?_append_left h2, ← List.getD_eq_getElem?_getD]
      rw [h1]; exact ih (by omega)
/-- The word at a place of the schedule. -/
def wAt (b : List UInt8) (t : Nat) : UInt32 := (sch b 64).getD t 0
theorem sch_getD_wAt (b : List UInt8) (n t : Nat) (h : t < n) (hn : n ≤ 64) : (sch b n).getD t 0 = wAt b t := by
  unfold wAt; rw [sch_getD b t n h, sch_getD b t 64 (by omega)]
theorem wAt_low (b : List UInt8) (t : Nat) (h : t < 16) : wAt b t = wordAt b t := by
  rw [← sch_getD_wAt b (t + 1) t (by omega) (by omega), sch_low b t h]
  have := sch_length b t
  rw [List.getD_eq_getElem?_getD, List.getElem?_append_right (by omega)]; simp [this]
theorem wAt_high (b : List UInt8) (t : Nat) (h : 16 ≤ t) (h2 : t < 64) : wAt b t = ((sg1 (wAt b (t - 2)) + wAt b (t - 7)) + sg0 (wAt b (t - 15))) + wAt b (t - 16) := by
  rw [← sch_getD_wAt b (t + 1) t (by omega) (by omega), sch_high b t h]
  have hl := sch_length b t
  rw [List.getD_eq_getElem?_getD, List.getElem?_append_right (by omega)]
  simp only [hl, Nat.sub_self, List.getElem?_cons_zero, Option.getD_some]
  unfold schNext
  rw [hl, sch_getD_wAt b t _ (by omega) (by omega), sch_getD_wAt b t _ (by omega) (by omega), sch_getD_wAt b t _ (by omega) (by omega), sch_getD_wAt b t _ (by omega) (by omega)]
theorem sch_wAt (b : List UInt8) (t : Nat) (h : t < 64) : sch b (t + 1) = sch b t ++ [wAt b t] := by
  have e := sch_getD_wAt b (t + 1) t (by omega) (by omega)
  have hl := sch_length b t
  by_cases h16 : t < 16
  · rw [sch_low b t h16] at e ⊢
    rw [← e, List.getD_eq_getElem?_getD, List.getElem?_append_right (by omega)]; simp [hl]
  · rw [sch_high b t (by omega)] at e ⊢
    rw [← e, List.getD_eq_getElem?_getD, List.getElem?_append_right (by omega)]; simp [hl]
/-- So many rounds. -/
def rnds (s : St) (b : List UInt8) : Nat → St
  | 0 => s
  | t + 1 => rnd (rnds s b t) (kTab.getD t 0) (wAt b t)
theorem rnds_zero (s : St) (b : List UInt8) : rnds s b 0 = s := rfl
theorem rnds_succ (s : St) (b : List UInt8) (t : Nat) : rnds s b (t + 1) = rnd (rnds s b t) (kTab.getD t 0) (wAt b t) := rfl
def stAdd (v s : St) : St := ⟨v.a + s.a, v.b + s.b, v.c + s.c, v.d + s.d, v.e + s.e, v.f + s.f, v.g + s.g, v.h + s.h⟩
/-- The state behind the first 64 of some bytes. -/
def blockM (s : St) (b : List UInt8) : St := stAdd (rnds s b 64) s
def blocksM (s : St) (m : List UInt8) : Nat → St
  | 0 => s
  | k + 1 => blockM (blocksM s m k) (m.drop (64 * k))
def stWord (s : St) (i : Nat) : UInt32 := [s.a, s.b, s.c, s.d, s.e, s.f, s.g, s.h].getD i 0
def stByte (s : St) (j : Nat) : UInt8 := (stWord s (j / 4) >>> UInt32.ofNat (24 - 8 * (j % 4))).toUInt8
def digestM (s : St) : List UInt8 := (List.range 32).map (stByte s)
/-- How many zeros. -/
def padZ (n : Nat) : Nat := (119 - n % 64) % 64
def lenByte (n i : Nat) : UInt8 := UInt8.ofNat (n * 8 / 2 ^ (8 * (7 - i)))
def padTail (n : Nat) : List UInt8 := 128 :: (List.replicate (padZ n) 0 ++ (List.range 8).map (lenByte n))
def padM (l : List UInt8) : List UInt8 := l ++ padTail l.length
def shaM (l : List UInt8) : List UInt8 := digestM (blocksM St0 (padM l) ((padM l).length / 64))
theorem shaM_length (l : List UInt8) : (shaM l).length = 32 := by simp [shaM, digestM]
theorem padM_mod (l : List UInt8) : (padM l).length % 64 = 0 := by
  simp only [padM, padTail, padZ, List.length_append, List.length_cons, List.length_replicate, List.length_map, List.length_range]; omega

theorem wordAt_congr {b c : List UInt8} (h : ∀ j, j < 64 → b.getD j 0 = c.getD j 0) (t : Nat) (ht : t < 16) : wordAt b t = wordAt c t := by
  unfold wordAt; rw [h _ (by omega), h _ (by omega), h _ (by omega), h _ (by omega)]
theorem sch_congr {b c : List UInt8} (h : ∀ j, j < 64 → b.getD j 0 = c.getD j 0) (t : Nat) : sch b t = sch c t := by
  induction t with
  | zero => rfl
  | succ t ih =>
    unfold sch; rw [ih]
    split
    · rw [wordAt_congr h t (by assumption)]
    · rfl
theorem blockM_congr {b c : List UInt8} (h : ∀ j, j < 64 → b.getD j 0 = c.getD j 0) (s : St) : blockM s b = blockM s c := by
  unfold blockM
  have hw : ∀ t, wAt b t = wAt c t := fun t => by unfold wAt; rw [sch_congr h]
  have : ∀ t, rnds s b t = rnds s c t := fun t => by
    induction t with
    | zero => rfl
    | succ t ih => unfold rnds; rw [ih, hw]
  rw [this]
theorem blocksM_congr {m m' : List UInt8} (k : Nat) (h : ∀ j, j < 64 * k → m.getD j 0 = m'.getD j 0) (s : St) : blocksM s m k = blocksM s m' k := by
  induction k with
  | zero => rfl
  | succ k ih =>
    unfold blocksM
    rw [ih (fun j hj => h j (by omega))]
    apply blockM_congr
    intro j hj
    have := h (64 * k + j) (by omega)
    simpa [List.getD_eq_getElem?_getD, List.getElem?_drop] using this
theorem blocksM_add (s : St) (m : List UInt8) (i k : Nat) : blocksM s m (i + k) = blocksM (blocksM s m i) (m.drop (64 * i)) k := by
  induction k with
  | zero => rfl
  | succ k ih =>
    show blockM (blocksM s m (i + k)) (m.drop (64 * (i + k))) = blockM _ _
    rw [ih, List.drop_drop, Nat.mul_add]
theorem blocksM_zero (s : St) (m : List UInt8) : blocksM s m 0 = s := rfl
theorem blocksM_succ (s : St) (m : List UInt8) (k : Nat) : blocksM s m (k + 1) = blockM (blocksM s m k) (m.drop (64 * k)) := rfl
theorem blockM_eq (s : St) (b : List UInt8) : blockM s b = stAdd (rnds s b 64) s := rfl
theorem shaM_eq (l : List UInt8) : shaM l = digestM (blocksM St0 (padM l) ((padM l).length / 64)) := rfl
attribute [irreducible] wAt sch rnds blockM blocksM shaM
end Go.Proofs.YtljcdkfafknnpaaGreatDoor
namespace Go.Proofs.YtljcdkfafknnpaaGreatDoor
set_option linter.unusedVariables false
set_option linter.unusedSimpArgs false
@[go_sem] theorem agg_state : aggOf Tryz.prog 173 = true := by kernel_rfl
@[go_sem] theorem cells_state : Tryz.prog.cellsOf 173 = 8 := by kernel_rfl
@[go_sem] theorem agg_a64 : aggOf Tryz.prog 205 = true := by kernel_rfl
@[go_sem] theorem cells_a64 : Tryz.prog.cellsOf 205 = 64 := by kernel_rfl
@[go_sem] theorem agg_digest : aggOf Tryz.prog 23 = true := by kernel_rfl
@[go_sem] theorem cells_digest : Tryz.prog.cellsOf 23 = 32 := by kernel_rfl
@[go_sem] theorem agg_hasher : aggOf Tryz.prog 176 = true := by kernel_rfl
@[go_sem] theorem cells_hasher : Tryz.prog.cellsOf 176 = 10 := by kernel_rfl
theorem info_u8 : (Tryz.prog.info? 5).map (fun i => (i.zero, i.size, i.bytes)) = some (some (.int .u8 0), 1, 1) := by kernel_rfl
end Go.Proofs.YtljcdkfafknnpaaGreatDoor
namespace Go.Proofs.YtljcdkfafknnpaaGreatDoor
set_option linter.unusedVariables false
set_option linter.unusedSimpArgs false
open Go.RowKit

def vB (x : UInt8) : Value := .int .u8 (bv x)
def vW (x : UInt32) : Value := .int .u32 (wv x)
theorem vB_plain (b : List UInt8) : ∀ u ∈ b.map vB, u.oneCell' = true := vs_oneCell .u8 bv b
theorem vB_ne (b : List UInt8) {old : Value} (h : ∀ n, old ≠ .int .u8 n) : ∀ x ∈ b.map vB, x ≠ old := by
  intro x hx e
  obtain ⟨y, _, rfl⟩ := List.mem_map.1 hx
  exact h _ e.symm
/-- A digest's cells. -/
def dgV (d : List UInt8) : Array Value := (d.map vB).toArray
theorem dgV_size (d : List UInt8) : (dgV d).size = d.length := by simp [dgV]
def zD : Array Value := #[.int .u8 0, .int .u8 0, .int .u8 0, .int .u8 0, .int .u8 0, .int .u8 0, .int .u8 0, .int .u8 0, .int .u8 0, .int .u8 0, .int .u8 0, .int .u8 0, .int .u8 0, .int .u8 0, .int .u8 0, .int .u8 0, .int .u8 0, .int .u8 0, .int .u8 0, .int .u8 0, .int .u8 0, .int .u8 0, .int .u8 0, .int .u8 0, .int .u8 0, .int .u8 0, .int .u8 0, .int .u8 0, .int .u8 0, .int .u8 0, .int .u8 0, .int .u8 0]
theorem zD_eq : zD = dgV (List.replicate 32 0) := by rfl
theorem own_rows {w : World} {base : Nat} {e : TypeId} {sz : Nat} {v : Value} {n : Nat} {xs : List Value} (h : own w base e sz v n xs) : ∀ k, wrow v = some k → base ≤ k := fun _ hk => (own_lt h hk).1
theorem dgV_plain (d : List UInt8) : plainCells (dgV d) = true := by
  simp only [plainCells, dgV, List.all_eq_true]
  exact vB_plain d
theorem dgV_get (d : List UInt8) (j : Nat) (h : j < d.length) : (dgV d)[j]? = some (.int .u8 (bv (d.getD j 0))) := by
  simp [dgV, List.getD_eq_getElem?_getD, List.getElem?_eq_getElem h, vB]
/-- The cells of digest i among many. -/
theorem flat_get (ds : List (List UInt8)) (h32 : ∀ d ∈ ds, d.length = 32) (i : Nat) (hi : i < ds.length) (j : Nat) (hj : j < 32) : ds.flatten[32 * i + j]? = (ds.getD i [])[j]? := by
  induction ds generalizing i with
  | nil => simp at hi
  | cons d ds ih =>
    have hd := h32 d (by simp)
    cases i with
    | zero => simp only [List.flatten_cons, Nat.mul_zero, Nat.zero_add, List.getD_cons_zero]; rw [List.getElem?_append_left (by omega)]
    | succ i =>
      simp only [List.flatten_cons, List.getD_cons_succ]
      rw [List.getElem?_append_right (by omega), ← ih (fun d hd => h32 d (by simp [hd])) i (by simpa using hi)]
      congr 1; omega
theorem flat_length (ds : List (List UInt8)) (h32 : ∀ d ∈ ds, d.length = 32) : ds.flatten.length = 32 * ds.length := by
  induction ds with
  | nil => rfl
  | cons d ds ih => simp only [List.flatten_cons, List.length_append, List.length_cons, h32 d (by simp), ih (fun d hd => h32 d (by simp [hd]))]; omega
/-- Digests that lie in a row: where, and each one. -/
theorem rd_digest {w : World} {ao : Option Addr} {n cap : Nat} {ds : List (List UInt8)} (h32 : ∀ d ∈ ds, d.length = 32) (hl : ds.length = n) (h : rd w (.slice ao n cap) n (ds.flatten.map vB)) (hn : 0 < n) :
    ∃ g off, ao = some ⟨g, off, none⟩ ∧ ∀ i, i < n → rowAt w g (off + 32 * i) 32 = some (dgV (ds.getD i [])) := by
  obtain ⟨a, c, e, -, -, h⟩ := h
  cases e
  have hfl := flat_length ds h32
  rcases h with h | ⟨g, off, rfl, h⟩
  · have := congrArg List.length h
    simp only [List.length_map, List.length_nil] at this
    omega
  · refine ⟨g, off, rfl, fun i hi => ?_⟩
    have hd : (ds.getD i []).length = 32 := by
      rw [List.getD_eq_getElem?_getD, List.getElem?_eq_getElem (by omega), Option.getD_some]
      exact h32 _ (List.getElem_mem _)
    have hs : (dgV (ds.getD i [])).size = 32 := by rw [dgV_size, hd]
    have := rowAt_of_cells (w := w) (g := g) (off := off + 32 * i) (cs := dgV (ds.getD i [])) (by rw [hs]; omega) (fun j u hj => by
      have hj32 : j < 32 := by have := (Array.getElem?_eq_some_iff.1 hj).1; rw [hs] at this; exact this
      rw [Nat.add_assoc]
      apply h
      rw [List.getElem?_map, flat_get ds h32 i (by omega) j hj32]
      simpa [dgV] using hj)
    rw [hs] at this
    exact this
/-- A digest of the call's own, read as a slice. -/
theorem rd_block {w : World} {C : Nat} {cs : Array Value} {t : TypeId} {fr : Nat × Nat} (h : w.heap[C]? = some (.cells cs t fr)) (n : Nat) (hn : cs.size = n) (hm : n ≤ maxLen) : rd w (.slice (some ⟨C, 0, none⟩) n n) n cs.toList := by
  refine ⟨_, _, rfl, Nat.le_refl _, hm, .inr ⟨C, 0, rfl, fun j u hj => ?_⟩⟩
  rw [cell_of_row _ _ _ _ _ _ h]
  simpa using hj
theorem zD_size : zD.size = 32 := by rfl

theorem own_empty (w : World) (base : Nat) (e : TypeId) (sz : Nat) (ao : Option Addr) : own w base e sz (.slice ao 0 0) 0 [] :=
  ⟨by simp, ao, 0, rfl, Nat.le_refl _, Nat.zero_le _, .inl rfl⟩
/-- The first k of what reads so. -/
theorem rd_take {w : World} {a : Option Addr} {n cap : Nat} {xs : List Value} (h : rd w (.slice a n cap) n xs) (k m : Nat) (hk : k ≤ n) : rd w (.slice a k cap) k (xs.take m) := by
  obtain ⟨_, _, e, h1, h2, h3⟩ := h
  cases e
  refine ⟨_, _, rfl, by omega, h2, ?_⟩
  rcases h3 with rfl | ⟨g, off, rfl, h3⟩
  · exact .inl (by simp)
  · refine .inr ⟨g, off, rfl, fun j u hj => h3 j u ?_⟩
    rw [List.getElem?_take] at hj
    split at hj
    · exact hj
    · cases hj
/-- .. and the others. -/
theorem rd_drop {w : World} {a : Option Addr} {n cap sz : Nat} {xs : List Value} (h : rd w (.slice a n cap) n xs) (hx : xs.length = n * sz) (k : Nat) (hk : k ≤ n) :
    rd w (.slice (if cap = k then a else a.map (·.add (k * sz))) (n - k) (cap - k)) (n - k) (xs.drop (k * sz)) := by
  obtain ⟨_, _, e, h1, h2, h3⟩ := h
  cases e
  refine ⟨_, _, rfl, by omega, by omega, ?_⟩
  rcases h3 with rfl | ⟨g, off, rfl, h3⟩
  · exact .inl (by simp)
  · by_cases hc : cap = k
    · refine .inl (List.drop_eq_nil_of_le ?_)
      rw [hx]; exact Nat.mul_le_mul_right _ (by omega)
    · rw [if_neg hc]
      refine .inr ⟨g, off + k * sz, by simp [Addr.add], fun j u hj => ?_⟩
      rw [List.getElem?_drop] at hj
      rw [Nat.add_assoc]
      exact h3 _ _ hj
/-- Two results, the first in a row. -/
theorem results_cell_tmp_at {P : Program} {fn : Func} {p u : Tmp} {ty : TypeId} (h : fn.results = #[.cell p ty, .tmp u]) (tmps : Array Value) (w : World) (g off : Nat) (cs : Array Value) (v : Value)
    (hp : tmps.getD p undef = .pointer (some ⟨g, off, none⟩)) (hu : tmps.getD u undef = v) (ha : aggOf P ty = true) (hr : rowAt w g off (P.cellsOf ty) = some cs) : (results fn tmps).run P w = .ok (.tuple #[.agg cs, v]) w := by
  have hp' : tmps[p]?.getD undef = .pointer (some ⟨g, off, none⟩) := by simpa using hp
  have hu' : tmps[u]?.getD undef = v := by simpa using hu
  simp [results, h, hp', hu', asAddr, run_loadVar_at ha w g off hr]
theorem rd_nil (w : World) : rd w (.slice none 0 0) 0 [] := ⟨none, 0, rfl, Nat.le_refl _, Nat.zero_le _, .inl rfl⟩
/-- .. reads so. -/
theorem rd_mid {w : World} {a : Option Addr} {n cap : Nat} {xs : List Value} (h : rd w (.slice a n cap) n xs) (hx : xs.length = n) (i j : Nat) (hij : i ≤ j) (hj : j ≤ n) :
    rd w (.slice (if cap = i then a else a.map (·.add (i * 1))) (j - i) (cap - i)) (j - i) ((xs.drop i).take (j - i)) := by
  have h1 := rd_drop h (sz := 1) (by omega) i (by omega)
  have h2 := rd_take h1 (j - i) (j - i) (by omega)
  simpa only [Nat.mul_one] using h2

end Go.Proofs.YtljcdkfafknnpaaGreatDoor
namespace Go.Proofs.YtljcdkfafknnpaaGreatDoor
set_option linter.unusedVariables false
set_option linter.unusedSimpArgs false
def putM (n s : Nat) : List UInt8 := (List.range s).map fun j => UInt8.ofNat (n / 256 ^ (s - 1 - j))
theorem putM_length (n s : Nat) : (putM n s).length = s := by simp [putM]
theorem putM_get (n s j : Nat) (h : j < s) : (putM n s)[j]? = some (UInt8.ofNat (n / 256 ^ (s - 1 - j))) := by
  simp [putM, List.getElem?_range h]
theorem put_byte (n : Nat) : (n : Int) % 256 = bv (UInt8.ofNat n) := by
  unfold bv; rw [UInt8.toNat_ofNat']; omega
/-- The first k of them. -/
def putP (n s k : Nat) : List UInt8 := (List.range k).map fun j => UInt8.ofNat (n / 256 ^ (s - 1 - j))
theorem putP_succ (n s k : Nat) : putP n s (k + 1) = putP n s k ++ [UInt8.ofNat (n / 256 ^ (s - 1 - k))] := by simp [putP, List.range_succ]
theorem putP_all (n s : Nat) : putP n s s = putM n s := rfl
/-- How many bytes behind the first one. -/
def szW (n : Nat) : Nat := if n < 253 then 0 else if n < 65536 then 2 else if n < 4294967296 then 4 else 8
def szH (n : Nat) : UInt8 := if n < 65536 then 253 else if n < 4294967296 then 254 else 255
def szM (n : Nat) : List UInt8 := if n < 253 then [UInt8.ofNat n] else szH n :: putM n (szW n)
theorem szM_length (n : Nat) : (szM n).length = 1 + szW n := by
  unfold szM
  split
  · rename_i h; unfold szW; rw [if_pos h]; rfl
  · simp [putM_length]; omega
theorem szW_le (n : Nat) : szW n ≤ 8 := by unfold szW; split <;> (try split) <;> (try split) <;> omega
theorem szM_le (n : Nat) : (szM n).length ≤ 9 := by rw [szM_length]; have := szW_le n; omega
/-- Bytes with how many they are. -/
def packM (b : List UInt8) : List UInt8 := szM b.length ++ b
end Go.Proofs.YtljcdkfafknnpaaGreatDoor
namespace Go.Proofs.YtljcdkfafknnpaaGreatDoor
set_option linter.unusedVariables false
set_option linter.unusedSimpArgs false
open Go.RowKit Go.Deep

section
variable {H : Type} {enc : TypeId × Value → H} {w : World} {base : Nat} {spare : Nat → Bool} {held : Bool}
theorem cells_dig : Tryz.prog.cellsOf 23 = 32 := by kernel_rfl
theorem cells_u8 : Tryz.prog.cellsOf 5 = 1 := by kernel_rfl
theorem bytes_of (cs : List Value) (h : ∀ i, i < cs.length → ∃ n : Int, cs[i]? = some (.int .u8 n) ∧ 0 ≤ n ∧ n < 256) : ∃ D : List UInt8, D.length = cs.length ∧ cs = D.map vB := by
  induction cs with
  | nil => exact ⟨[], rfl, rfl⟩
  | cons c cs ih =>
    obtain ⟨n, hn, h0, h1⟩ := h 0 (by simp)
    obtain ⟨D, hl, hD⟩ := ih (fun i hi => by have := h (i + 1) (by simpa using hi); simpa using this)
    have hc : c = .int .u8 n := by simpa using hn
    refine ⟨UInt8.ofNat n.toNat :: D, by simp [hl], ?_⟩
    have : bv (UInt8.ofNat n.toNat) = n := by
      unfold bv; rw [UInt8.toNat_ofNat']; omega
    rw [List.map_cons, ← hD, hc, vB, this]
theorem open_dig {fuel : Nat} {cs : List Value} {x : DataW H × List MemPlace} (h : DataW.trod enc Tryz.prog w base spare held fuel 23 cs = some x) : ∃ D : List UInt8, D.length = 32 ∧ cs = D.map vB := by
  obtain ⟨xs, m, -, -, hl, hx, hi⟩ := Go.DataW.trod_array Tryz.underlying23 h
  rw [cells_dig] at hl
  obtain ⟨D, h1, h2⟩ := bytes_of cs (fun i hlt => by
    have := hi i (by omega)
    rw [List.getElem?_eq_getElem (by omega)] at this
    obtain ⟨n, hn, -, hw⟩ := DataW.trod_int Tryz.underlying5 this
    rw [cells_u8, Nat.mul_one] at hn
    refine ⟨n, ?_, ?_⟩
    · rw [List.getElem?_eq_getElem hlt]
      rw [List.drop_eq_getElem_cons hlt, List.take_succ_cons, List.take_zero] at hn
      injection hn with hn _
      rw [hn]
    · simp only [Lit.wf, Bool.and_eq_true, decide_eq_true_eq] at hw
      have e1 : IntKind.u8.min = 0 := by decide
      have e2 : IntKind.u8.max = 255 := by decide
      rw [e1, e2] at hw
      omega)
  exact ⟨D, by omega, h2⟩
end
end Go.Proofs.YtljcdkfafknnpaaGreatDoor
namespace Go.Proofs.YtljcdkfafknnpaaGreatDoor
set_option linter.unusedVariables false
set_option linter.unusedSimpArgs false
open Go.RowKit Go.Deep Go.ChangeShapes Go.WideShapes Go.ChangeAt
section
variable {H : Type} {enc : TypeId × Value → H} {w : World} {base : Nat} {spare : Nat → Bool} {held : Bool}
theorem open_byts {fuel : Nat} {v : Value} {x : DataW H × List MemPlace} (h : DataW.trod enc Tryz.prog w base spare held fuel 26 [v] = some x) :
    ∃ (n : Nat) (b : List UInt8), b.length = n ∧ rd w v n (b.map vB) ∧ (n = 0 ∨ ∃ es ss, x.1 = .slice es ss ∧ es.length = n) := by
  rcases open_ints Tryz.underlying26 Tryz.underlying5 cells_u8 h with ⟨h1, -⟩ | ⟨a, len, cap, zs, h1, hb, hl, hm, hz, hx, hc, hw⟩
  · cases h1
    exact ⟨0, [], rfl, ⟨none, 0, rfl, Nat.le_refl _, Nat.zero_le _, .inl rfl⟩, .inl rfl⟩
  · cases h1
    have hzl : len ≤ zs.length := by rw [hz]; split <;> omega
    refine ⟨len, (zs.take len).map fun z => UInt8.ofNat z.toNat, by simp; omega, ⟨some a, cap, rfl, hl, hm, ?_⟩, .inr ⟨_, _, by rw [hx], by simp [lits]; omega⟩⟩
    by_cases h0 : len = 0
    · subst h0; exact .inl (by simp)
    · right
      have hs : a.spot = none := by
        have := hc 0 (by omega)
        simpa [Addr.add] using World.cell?_spot this
      obtain ⟨g, off, sp⟩ := a
      simp only at hs
      subst hs
      refine ⟨g, off, rfl, fun j u hj => ?_⟩
      have hjl : j < len := by
        have := (List.getElem?_eq_some_iff.1 hj).1
        simp at this; omega
      have e1 := hc j (by omega)
      rw [Addr.add_lit] at e1
      rw [e1, ← hj]
      have hz0 : zs.getD j 0 = zs[j] := by rw [List.getD_eq_getElem?_getD, List.getElem?_eq_getElem (by omega), Option.getD_some]
      have hwf := hw zs[j] (List.getElem_mem _)
      simp only [Lit.wf, Bool.and_eq_true, decide_eq_true_eq] at hwf
      have m1 : IntKind.u8.min = 0 := by decide
      have m2 : IntKind.u8.max = 255 := by decide
      rw [m1, m2] at hwf
      rw [hz0, List.map_map, List.getElem?_map, List.getElem?_take, if_pos hjl, List.getElem?_eq_getElem (by omega)]
      simp only [Option.map_some, Function.comp, vB]
      have : bv (UInt8.ofNat zs[j].toNat) = zs[j] := by unfold bv; rw [UInt8.toNat_ofNat']; omega
      rw [this]
end
end Go.Proofs.YtljcdkfafknnpaaGreatDoor
namespace Go.Proofs.YtljcdkfafknnpaaGreatDoor
set_option linter.unusedVariables false
set_option linter.unusedSimpArgs false
open Go.RowKit Go.Deep Go.ChangeShapes Go.WideShapes Go.ChangeAt

/-- How one thing reads in a world, out of its cells. -/
abbrev Rd (α : Type) := World → α → List Value → Prop
/-- It reads no block but those that are there. -/
def Stays {α : Type} (R : Rd α) : Prop := ∀ (w w' : World) (a : α) (cs : List Value), (∀ k, k < w.heap.size → w'.heap[k]? = w.heap[k]?) → R w a cs → R w' a cs
/-- Cells that read zs a list, one by one. -/
def rdEach {α : Type} (R : Rd α) (sz : Nat) (w : World) (zs : List α) (xs : List Value) : Prop :=
  xs.length = zs.length * sz ∧ ∀ j a, zs[j]? = some a → R w a ((xs.drop (j * sz)).take sz)
/-- A slice that reads zs a list. -/
def rdSl {α : Type} (R : Rd α) (sz : Nat) (w : World) (v : Value) (zs : List α) : Prop := ∃ xs, rd w v zs.length xs ∧ rdEach R sz w zs xs
theorem Stays.each {α : Type} {R : Rd α} (h : Stays R) {sz : Nat} {w w' : World} {zs : List α} {xs : List Value} (hk : ∀ k, k < w.heap.size → w'.heap[k]? = w.heap[k]?) (hr : rdEach R sz w zs xs) : rdEach R sz w' zs xs :=
  ⟨hr.1, fun j a ha => h w w' a _ hk (hr.2 j a ha)⟩
theorem Stays.sl {α : Type} {R : Rd α} (h : Stays R) {sz : Nat} {w w' : World} {v : Value} {zs : List α} (hk : ∀ k, k < w.heap.size → w'.heap[k]? = w.heap[k]?) (hr : rdSl R sz w v zs) : rdSl R sz w' v zs := by
  obtain ⟨xs, h1, h2⟩ := hr
  exact ⟨xs, rd_kept h1 hk, h.each hk h2⟩
theorem Stays.slB {α : Type} {R : Rd α} (h : Stays R) {sz B : Nat} {w0 w : World} {v : Value} {zs : List α} (hr : rdSl R sz w0 v zs) (h0 : Below B w0 w) (hB : w0.heap.size ≤ B) : rdSl R sz w v zs :=
  h.sl (fun k hk => h0.block k (by omega)) hr
theorem rdEach_nil {α : Type} (R : Rd α) (sz : Nat) (w : World) : rdEach R sz w [] [] := ⟨by simp, fun j a h => by cases h⟩
theorem rdSl_nil {α : Type} (R : Rd α) (sz : Nat) (w : World) : rdSl R sz w (.slice none 0 0) [] := ⟨[], ⟨none, 0, rfl, Nat.le_refl _, Nat.zero_le _, .inl rfl⟩, rdEach_nil R sz w⟩
theorem rdEach_snoc {α : Type} {R : Rd α} {sz : Nat} {w : World} {zs : List α} {xs : List Value} {a : α} {cs : List Value} (h : rdEach R sz w zs xs) (hc : cs.length = sz) (ha : R w a cs) : rdEach R sz w (zs ++ [a]) (xs ++ cs) := by
  obtain ⟨h1, h2⟩ := h
  refine ⟨by simp [h1, hc, Nat.add_mul], fun j b hb => ?_⟩
  by_cases hj : j < zs.length
  · rw [List.getElem?_append_left hj] at hb
    have e := h2 j b hb
    have hle : j * sz + sz ≤ zs.length * sz := by
      have := Nat.mul_le_mul_right sz (show j + 1 ≤ zs.length from hj)
      rw [Nat.add_mul] at this; omega
    rwa [List.drop_append_of_le_length (by omega), List.take_append_of_le_length (by simp; omega)]
  · have hj2 : j = zs.length := by
      have := (List.getElem?_eq_some_iff.1 hb).1
      simp at this; omega
    subst hj2
    have hab : a = b := by simpa using hb
    subst hab
    rw [← h1, List.drop_left, ← hc, List.take_length]
    exact ha
/-- The cells of an element. -/
theorem rdSl_row {α : Type} {R : Rd α} {sz : Nat} {w : World} {v : Value} {zs : List α} (h : rdSl R sz w v zs) (hsz : 0 < sz) (j : Nat) (a : α) (ha : zs[j]? = some a) :
    ∃ g off cap cs, v = .slice (some ⟨g, off, none⟩) zs.length cap ∧ R w a cs ∧ cs.length = sz ∧ rowAt w g (off + j * sz) sz = some cs.toArray := by
  obtain ⟨xs, ⟨ao, cap, rfl, h1, h2, h3⟩, h4, h5⟩ := h
  have hj := (List.getElem?_eq_some_iff.1 ha).1
  have hle : j * sz + sz ≤ zs.length * sz := by
    have := Nat.mul_le_mul_right sz (show j + 1 ≤ zs.length from hj)
    rw [Nat.add_mul] at this; omega
  rcases h3 with h3 | ⟨g, off, rfl, h3⟩
  · subst h3; simp at h4; omega
  · have hl : ((xs.drop (j * sz)).take sz).length = sz := by simp; omega
    refine ⟨g, off, cap, _, rfl, h5 j a ha, hl, ?_⟩
    have := rowAt_of_cells (w := w) (g := g) (off := off + j * sz) (cs := ((xs.drop (j * sz)).take sz).toArray) (by simp; omega) (fun i u hu => by
      simp only [List.getElem?_toArray, List.getElem?_take, List.getElem?_drop] at hu
      split at hu
      · have := h3 (j * sz + i) u hu
        rw [show off + j * sz + i = off + (j * sz + i) from by omega]; exact this
      · cases hu)
    rw [List.size_toArray, hl] at this
    exact this
section
variable {H : Type} {enc : TypeId × Value → H} {w : World} {base : Nat} {spare : Nat → Bool} {held : Bool}
/-- A slice that came in, its elements read so. -/
theorem open_sl {α : Type} [Inhabited α] {R : Rd α} {t e : TypeId} {sz : Nat} (ht : Tryz.prog.underlying t = some (.slice e)) (hs : Tryz.prog.cellsOf e = sz) (h0 : 0 < sz)
    (elem : ∀ (fuel : Nat) (cs : List Value) (x : DataW H × List MemPlace), DataW.trod enc Tryz.prog w base spare held fuel e cs = some x → cs.length = sz → ∃ a, R w a cs)
    {fuel : Nat} {v : Value} {x : DataW H × List MemPlace} (h : DataW.trod enc Tryz.prog w base spare held fuel t [v] = some x) : ∃ zs, rdSl R sz w v zs := by
  rcases open_slice ht h with ⟨h1, -⟩ | ⟨a, len, cap, m, n, D, Pl, h1, hb, hl, hm, hmm, -, hx⟩
  · cases h1
    exact ⟨[], rdSl_nil R sz w⟩
  · cases h1
    have hlm : len ≤ m := by rw [hmm]; split <;> omega
    have each : ∀ i, i < len → ∃ p : α × List Value, p.2.length = sz ∧ R w p.1 p.2 ∧ ∀ j, j < sz → w.cell? ((a.add (i * sz)).add j) = p.2[j]? := fun i hi => by
      obtain ⟨cs', h2, h3⟩ := hx i (by omega)
      rw [hs] at h2
      obtain ⟨-, h5, h4⟩ := World.cells?_some h2
      obtain ⟨r, hr⟩ := elem n cs' _ h3 h5
      exact ⟨(r, cs'), h5, hr, h4⟩
    obtain ⟨y, hy⟩ := choose_lt each
    have hfl : ∀ (l : List Nat), (∀ i ∈ l, i < len) → ((l.map fun i => (y i).2).flatten).length = l.length * sz := by
      intro l
      induction l with
      | nil => intro _; simp
      | cons i l ih =>
        intro hl
        have := ih (fun k hk => hl k (by simp [hk]))
        simp only [List.map_cons, List.flatten_cons, List.length_append, List.length_cons, this, (hy i (hl i (by simp))).1, Nat.add_mul]
        omega
    have hget : ∀ (n0 k : Nat), n0 + k ≤ len → ∀ i j, i < k → j < sz → ((((List.range' n0 k).map fun i => (y i).2).flatten))[i * sz + j]? = (y (n0 + i)).2[j]? := by
      intro n0 k
      induction k generalizing n0 with
      | zero => intro _ i j hi; omega
      | succ k ih =>
        intro hk i j hi hj
        rw [List.range'_succ, List.map_cons, List.flatten_cons]
        cases i with
        | zero =>
          rw [List.getElem?_append_left (by rw [(hy n0 (by omega)).1]; omega)]
          simp
        | succ i =>
          rw [List.getElem?_append_right (by rw [(hy n0 (by omega)).1, Nat.add_mul]; omega), (hy n0 (by omega)).1, show (i + 1) * sz + j - sz = i * sz + j from by rw [Nat.add_mul]; omega,
            ih (n0 + 1) (by omega) i j (by omega) hj, show n0 + 1 + i = n0 + (i + 1) from by omega]
    have hrl : (List.range' 0 len) = List.range len := by rw [List.range_eq_range']
    have hg0 := hget 0 len (by omega)
    have hL := hfl (List.range len) (fun i hi => List.mem_range.1 hi)
    rw [hrl] at hg0
    simp only [Nat.zero_add, List.length_range] at hg0 hL
    refine ⟨(List.range len).map fun i => (y i).1, ((List.range len).map fun i => (y i).2).flatten, ?_, by simp only [List.length_map, List.length_range]; exact hL, fun j r hr => ?_⟩
    · simp only [List.length_map, List.length_range]
      refine ⟨some a, cap, rfl, hl, hm, ?_⟩
      by_cases hz : len = 0
      · subst hz; exact .inl rfl
      · right
        have hsp : a.spot = none := by
          obtain ⟨e1, -, e2⟩ := hy 0 (by omega)
          have := e2 0 (by omega)
          rw [List.getElem?_eq_getElem (by omega)] at this
          simpa [Addr.add] using World.cell?_spot this
        obtain ⟨g, off, sp⟩ := a
        simp only at hsp
        subst hsp
        refine ⟨g, off, rfl, fun j u hj => ?_⟩
        have hjl : j < len * sz := by
          have := (List.getElem?_eq_some_iff.1 hj).1
          omega
        have hi : j / sz < len := Nat.div_lt_of_lt_mul (by rw [Nat.mul_comm]; exact hjl)
        have hmod := Nat.mod_lt j h0
        have hdm : j / sz * sz + j % sz = j := by rw [Nat.mul_comm]; exact Nat.div_add_mod j sz
        have e3 := (hy (j / sz) hi).2.2 (j % sz) hmod
        rw [add_add, Addr.add_lit, hdm] at e3
        rw [e3, ← hg0 (j / sz) (j % sz) hi hmod, hdm]
        exact hj
    · have hj : j < len := by
        have := (List.getElem?_eq_some_iff.1 hr).1
        simpa using this
      have hrr : (y j).1 = r := by
        rw [List.getElem?_map, List.getElem?_range hj] at hr
        simpa using hr
      have hcs : ((((List.range len).map fun i => (y i).2).flatten).drop (j * sz)).take sz = (y j).2 := by
        apply List.ext_getElem?
        intro i
        rw [List.getElem?_take]
        split
        · rename_i hi
          rw [List.getElem?_drop, hg0 j i hj hi]
        · rename_i hi
          rw [List.getElem?_eq_none (by rw [(hy j hj).1]; omega)]
      rw [hcs, ← hrr]
      exact (hy j hj).2.1
end
end Go.Proofs.YtljcdkfafknnpaaGreatDoor
namespace Go.Proofs.YtljcdkfafknnpaaGreatDoor
set_option linter.unusedVariables false
set_option linter.unusedSimpArgs false
open Go.RowKit

theorem run_storeCells_put {P : Program} (w : World) (g off : Nat) (cs : Array Value) (h1 : plainCells cs = true) (hr : (rowAt w g off cs.size).isSome = true) (hw : wrAt w g = true) :
    (storeCells ⟨g, off, none⟩ cs.toList).run P w = .ok () (putAt w g off cs) := by
  obtain ⟨os, hos⟩ := Option.isSome_iff_exists.1 hr
  obtain ⟨c, e, hh, hsz⟩ := wrAt_heap hos hw
  have hst := run_storeCells_at P g off e cs.toList 0 c w hh (by simp; omega) (List.all_eq_true.1 h1)
  simp only [Nat.add_zero, Array.length_toList] at hst
  simp [hst, putAt, hh, spliceAt]
theorem fold_set (vs : List Value) (off k : Nat) (cs : Array Value) (h : off + k + vs.length ≤ cs.size) :
    (vs.zipIdx k).foldl (fun cs (x : Value × Nat) => cs.setIfInBounds (off + x.2) x.1) cs = (cs.toList.take (off + k) ++ vs ++ cs.toList.drop (off + k + vs.length)).toArray := by
  induction vs generalizing k cs with
  | nil => simp
  | cons v vs ih =>
    simp only [List.length_cons] at h
    rw [List.zipIdx_cons, List.foldl_cons, ih (k + 1) _ (by simp; omega)]
    apply Array.ext'
    simp only [Array.toList_setIfInBounds, List.length_cons]
    rw [← Nat.add_assoc, List.take_set, List.drop_set_of_lt (by omega), List.take_add_one, List.getElem?_eq_getElem (by simp; omega)]
    rw [List.set_append_right _ _ (by simp; omega)]
    have e : off + k - (cs.toList.take (off + k)).length = 0 := by simp; omega
    rw [e]
    simp
    congr 1
    omega
theorem info_parts' {P : Program} {e : TypeId} {z : Option Value} {s b : Nat} (h : (P.info? e).map (fun i => (i.zero, i.size, i.bytes)) = some (z, s, b)) : ∃ i, P.info? e = some i ∧ i.zero = z ∧ i.size = s ∧ i.bytes = b := by
  cases hh : P.info? e with
  | none => simp [hh] at h
  | some i => simp only [hh, Option.map_some, Option.some.injEq, Prod.mk.injEq] at h; exact ⟨i, rfl, h.1, h.2.1, h.2.2⟩
theorem run_part_dig (a : List UInt8) (j : Nat) (h : j < a.length) (w : World) : (part 5 (dgV a) (j * 1)).run Tryz.prog w = .ok (.int .u8 (bv (a.getD j 0))) w := by
  have := dgV_get a j h
  simp [part, isAgg, run_underlying Tryz.underlying5, this]
theorem drop_cons (a : List UInt8) (j : Nat) (h : j < a.length) : a.drop j = a.getD j 0 :: a.drop (j + 1) := by
  rw [List.drop_eq_getElem_cons h, List.getD_eq_getElem?_getD, List.getElem?_eq_getElem h, Option.getD_some]
theorem run_eqItems_dig (d : Nat) (a b : List UInt8) (ha : a.length = 32) (hb : b.length = 32) (w : World) : ∀ (m s : Nat), s + m = 32 →
    (Op.eqItems (d + 1) 5 1 (dgV a) (dgV b) (List.range' s m)).run Tryz.prog w = .ok (decide (a.drop s = b.drop s)) w := by
  intro m
  induction m with
  | zero =>
    intro s hs
    rw [List.drop_eq_nil_of_le (by omega), List.drop_eq_nil_of_le (by omega)]
    simp [Op.eqItems]
  | succ m ih =>
    intro s hs
    have h1 := run_equalIn_int (P := Tryz.prog) w d 5 .u8 .u8 (bv (a.getD s 0)) (bv (b.getD s 0)) Tryz.underlying5
    rw [List.range'_succ]
    simp only [Op.eqItems, Sem.run_bind, run_part_dig a s (by omega) w, run_part_dig b s (by omega) w, h1, Result.andThen_ok]
    rw [drop_cons a s (by omega), drop_cons b s (by omega)]
    by_cases e : a.getD s 0 = b.getD s 0
    · rw [e]
      simp [ih (s + 1) (by omega)]
    · have : ¬ bv (a.getD s 0) = bv (b.getD s 0) := fun h => e (bv_inj h)
      simp only [List.cons.injEq, e, false_and, decide_false, beq_false_of_ne this]
      simp
theorem run_eql_dig (a b : List UInt8) (ha : a.length = 32) (hb : b.length = 32) (w : World) : (Op.equalIn 10000 23 (.agg (dgV a)) (.agg (dgV b))).run Tryz.prog w = .ok (decide (a = b)) w := by
  obtain ⟨i, hi, -, hs, -⟩ := info_parts' info_u8
  rw [run_equalIn_array w 9999 (dgV a) (dgV b) Tryz.underlying23 hi]
  have hc : Tryz.prog.cellsOf 5 = 1 := by kernel_rfl
  rw [hc, List.range_eq_range']
  simpa using run_eqItems_dig 9998 a b ha hb w 32 0 rfl

def ldTy : Op → TypeId | .load t _ => t | _ => 0
def ldX : Op → Operand | .load _ x => x | _ => .const undef
def ldIs : Op → Bool | .load _ _ => true | _ => false
theorem run_load_any (ev : Operand → Value) (w : World) (o : Oper) (h0 : ldIs o.op = true) (h : aggOf Tryz.prog (ldTy o.op) = true) (hr : (rowOf w (ev (ldX o.op)) (Tryz.prog.cellsOf (ldTy o.op))).isSome = true) :
    (execOp ev o).run Tryz.prog w = .ok (.value (.agg ((rowOf w (ev (ldX o.op)) (Tryz.prog.cellsOf (ldTy o.op))).getD #[]))) w := by
  obtain ⟨dst, op, type, pos, after, guard⟩ := o
  cases op with
  | load t x => exact run_load_agg ev w dst _ _ type pos after guard h hr
  | _ => exact absurd h0 Bool.false_ne_true
def stTy : Op → TypeId | .store t _ _ => t | _ => 0
def stX : Op → Operand | .store _ x _ => x | _ => .const undef
def stY : Op → Operand | .store _ _ y => y | _ => .const undef
def stIs : Op → Bool | .store _ _ _ => true | _ => false
theorem run_store_any (ev : Operand → Value) (w : World) (o : Oper) (h0 : stIs o.op = true) (h : aggOf Tryz.prog (stTy o.op) = true) (hy : isAggV (ev (stY o.op)) = true) (hs : (aggCells (ev (stY o.op))).size = Tryz.prog.cellsOf (stTy o.op))
    (h1 : plainCells (aggCells (ev (stY o.op))) = true) (hr : (rowOf w (ev (stX o.op)) (Tryz.prog.cellsOf (stTy o.op))).isSome = true) (hw : wrOf w (ev (stX o.op)) = true) :
    (execOp ev o).run Tryz.prog w = .ok .skip (putOf w (ev (stX o.op)) (aggCells (ev (stY o.op)))) := by
  obtain ⟨dst, op, type, pos, after, guard⟩ := o
  cases op with
  | store t x y => exact run_store_agg ev w dst _ _ _ type pos after guard h hy hs h1 hr hw
  | _ => exact absurd h0 Bool.false_ne_true
attribute [go_sem] ldTy ldX ldIs stTy stX stY stIs
end Go.Proofs.YtljcdkfafknnpaaGreatDoor
namespace Go.Proofs.YtljcdkfafknnpaaGreatDoor
set_option linter.unusedVariables false
set_option linter.unusedSimpArgs false
open Go.RowKit
attribute [local go_sem ↓] run_load_agg run_store_agg run_load_any

structure PlaceD where
  tx : List UInt8
  ix : Int
def plV (p : PlaceD) : Array Value := dgV p.tx ++ #[.int .i64 p.ix]
theorem plV_size (p : PlaceD) (h : p.tx.length = 32) : (plV p).size = 33 := by simp [plV, dgV_size, h]
theorem plV_plain (p : PlaceD) : plainCells (plV p) = true := by
  have := dgV_plain p.tx
  simp only [plainCells, plV, Array.toList_append, List.all_append, Bool.and_eq_true] at this ⊢
  exact ⟨this, rfl⟩
theorem plV_get (p : PlaceD) (h : p.tx.length = 32) (j : Nat) (hj : j < 32) : (plV p)[j]? = some (.int .u8 (bv (p.tx.getD j 0))) := by
  unfold plV
  rw [Array.getElem?_append_left (by rw [dgV_size]; omega), dgV_get _ _ (by omega)]
theorem plV_ix (p : PlaceD) (h : p.tx.length = 32) : (plV p)[32]? = some (.int .i64 p.ix) := by
  unfold plV
  rw [Array.getElem?_append_right (by rw [dgV_size]; omega), dgV_size, h]
  rfl
/-- Which place is ahead. -/
def plC (p q : PlaceD) : Int :=
  if Lib.compareBytes p.tx q.tx = 0 then (if p.ix < q.ix then -1 else if q.ix < p.ix then 1 else 0) else Lib.compareBytes p.tx q.tx
theorem cmpB_same : ∀ (a b : List UInt8), a.length = b.length → Lib.compareBytes a b = 0 → a = b
  | [], [], _, _ => rfl
  | [], _ :: _, h, _ => by simp at h
  | _ :: _, [], h, _ => by simp at h
  | x :: a, y :: b, h, e => by
    unfold Lib.compareBytes at e
    split at e
    · cases e
    · split at e
      · cases e
      · rename_i h1 h2
        have hxy : x = y := by
          have a1 := UInt8.not_lt.1 h1; have a2 := UInt8.not_lt.1 h2
          exact UInt8.le_antisymm a2 a1
        rw [hxy, cmpB_same a b (by simpa using h) e]
theorem cmpB_refl : ∀ (a : List UInt8), Lib.compareBytes a a = 0
  | [] => rfl
  | x :: a => by unfold Lib.compareBytes; rw [if_neg (UInt8.lt_irrefl x), if_neg (UInt8.lt_irrefl x)]; exact cmpB_refl a
theorem cmpB_drop (a b : List UInt8) (j : Nat) (ha : j < a.length) (hb : j < b.length) (h : a.getD j 0 = b.getD j 0) : Lib.compareBytes (a.drop j) (b.drop j) = Lib.compareBytes (a.drop (j + 1)) (b.drop (j + 1)) := by
  rw [drop_cons a j ha, drop_cons b j hb, h, Lib.compareBytes, if_neg (UInt8.lt_irrefl _), if_neg (UInt8.lt_irrefl _)]
theorem cmpB_lt (a b : List UInt8) (j : Nat) (ha : j < a.length) (hb : j < b.length) (h : bv (a.getD j 0) < bv (b.getD j 0)) : Lib.compareBytes (a.drop j) (b.drop j) = -1 := by
  have : a.getD j 0 < b.getD j 0 := by unfold bv at h; exact UInt8.lt_iff_toNat_lt.2 (by omega)
  rw [drop_cons a j ha, drop_cons b j hb, Lib.compareBytes, if_pos this]
theorem cmpB_gt (a b : List UInt8) (j : Nat) (ha : j < a.length) (hb : j < b.length) (h : bv (b.getD j 0) < bv (a.getD j 0)) : Lib.compareBytes (a.drop j) (b.drop j) = 1 := by
  have : b.getD j 0 < a.getD j 0 := by unfold bv at h; exact UInt8.lt_iff_toNat_lt.2 (by omega)
  have h2 : ¬ a.getD j 0 < b.getD j 0 := by
    intro h3
    have a1 := UInt8.lt_iff_toNat_lt.1 this; have a2 := UInt8.lt_iff_toNat_lt.1 h3; omega
  rw [drop_cons a j ha, drop_cons b j hb, Lib.compareBytes, if_neg h2, if_pos this]
@[go_sem] theorem agg_place : aggOf Tryz.prog 97 = true := by kernel_rfl
@[go_sem] theorem cells_place : Tryz.prog.cellsOf 97 = 33 := by kernel_rfl
set_option maxHeartbeats 2000000 in
set_option maxRecDepth 100000 in
theorem places_any (p q : PlaceD) (hp : p.tx.length = 32) (hq : q.tx.length = 32) (w : World) :
    Calls Tryz.prog 86 #[.agg (plV p), .agg (plV q)] w fun e w' => e = .returned (.int .i64 (plC p q)) ∧ Below w.heap.size w w' := by
  have hsp : (plV p).size = 33 := plV_size p hp
  have hsq : (plV q).size = 33 := plV_size q hq
  have hpp := plV_plain p; have hpq := plV_plain q
  have hB : Hid (Below w.heap.size w ((w.alloc (.cells (plV p) 97)).alloc (.cells (plV q) 97))) := ((Below.refl _ _).alloc (Nat.le_refl _) _).alloc (by simp) _
  have hP : Hid (((w.alloc (.cells (plV p) 97)).alloc (.cells (plV q) 97)).heap[w.heap.size]? = some (.cells (plV p) 97 (0, 0))) := by
    show _ = _
    rw [Below.heap_alloc _ _ _ (by simp)]; exact heap_alloc_new w _
  have hQ : Hid (((w.alloc (.cells (plV p) 97)).alloc (.cells (plV q) 97)).heap[w.heap.size + 1]? = some (.cells (plV q) 97 (0, 0))) := by
    have := heap_alloc_new (w.alloc (.cells (plV p) 97)) (.cells (plV q) 97)
    rwa [show (w.alloc (.cells (plV p) 97)).heap.size = w.heap.size + 1 from by simp] at this
  go_enter Tryz.func86, Tryz.ntmps86
  go_wp2_with fail
  change Code.wp _ _ _ _ ((w.alloc (.cells (plV p) 97)).alloc (.cells (plV q) 97))
  generalize (w.alloc (.cells (plV p) 97)).alloc (.cells (plV q) 97) = wa at hB hP hQ ⊢
  go_loopw [5] (fun c wr => ∃ j : Nat, j ≤ 32 ∧ c = .int .i64 j ∧ Hid (Below w.heap.size w wr) ∧ Hid (wr.heap[w.heap.size]? = some (.cells (plV p) 97 (0, 0))) ∧ Hid (wr.heap[w.heap.size + 1]? = some (.cells (plV q) 97 (0, 0))) ∧ Hid (Lib.compareBytes p.tx q.tx = Lib.compareBytes (p.tx.drop j) (q.tx.drop j))) (fun c _ => 32 - (intOf c).toNat)
  case atStart => exact ⟨0, by omega, rfl, hB, hP, hQ, Lib.hid (by simp)⟩
  case round =>
    obtain ⟨j, hj, rfl, HB, HP, HQ, HC⟩ := hrel
    by_cases hlt : j < 32
    · have c1 : wr.cell? ⟨w.heap.size, j, none⟩ = some (.int .u8 (bv (p.tx.getD j 0))) := by rw [cell_of_row _ _ _ _ _ _ HP.out, plV_get p hp j hlt]
      have c2 : wr.cell? ⟨w.heap.size + 1, j, none⟩ = some (.int .u8 (bv (q.tx.getD j 0))) := by rw [cell_of_row _ _ _ _ _ _ HQ.out, plV_get q hq j hlt]
      have HL := Lib.hid (cmpB_lt p.tx q.tx j (by omega) (by omega))
      have HG := Lib.hid (cmpB_gt p.tx q.tx j (by omega) (by omega))
      have HE := Lib.hid (fun h => cmpB_drop p.tx q.tx j (by omega) (by omega) (bv_inj h))
      generalize bv (p.tx.getD j 0) = x at c1 HL HG HE
      generalize bv (q.tx.getD j 0) = y at c2 HL HG HE
      by_cases h1 : x < y
      · have hc := HL.out h1
        have HR := Lib.hid (show plC p q = -1 by unfold plC; rw [HC.out, hc, if_neg (by decide)])
        clear hc
        go_wp2_with fail
        go_region
        all_goals
          go_wp2
          go_ret
          exact ⟨by rw [HR.out]; rfl, HB.out.drew⟩
      · by_cases h2 : y < x
        · have hc := HG.out h2
          have HR := Lib.hid (show plC p q = 1 by unfold plC; rw [HC.out, hc, if_neg (by decide)])
          clear hc
          go_wp2_with fail
          go_region
          go_wp2_with fail
          go_region
          all_goals
            go_wp2
            go_ret
            exact ⟨by rw [HR.out]; rfl, HB.out.drew.drew⟩
        · have hc := HE.out (by omega)
          have HR := Lib.hid (HC.out.trans hc)
          clear hc
          go_wp2_with fail
          go_region
          go_wp2_with fail
          go_region
          all_goals
            go_wp2
            go_roundw
            case rel => exact ⟨j + 1, by omega, by go_num, Lib.hid HB.out.drew.drew, HP, HQ, HR⟩
            case measure => simp [intOf]; omega
    · obtain rfl : j = 32 := by omega
      have hz : Lib.compareBytes p.tx q.tx = 0 := by rw [HC.out, List.drop_eq_nil_of_le (by omega), List.drop_eq_nil_of_le (by omega)]; rfl
      have c1 : wr.cell? ⟨w.heap.size, 32, none⟩ = some (.int .i64 p.ix) := by rw [cell_of_row _ _ _ _ _ _ HP.out, plV_ix p hp]
      have c2 : wr.cell? ⟨w.heap.size + 1, 32, none⟩ = some (.int .i64 q.ix) := by rw [cell_of_row _ _ _ _ _ _ HQ.out, plV_ix q hq]
      have HR := Lib.hid (show plC p q = if p.ix < q.ix then -1 else if q.ix < p.ix then 1 else 0 by unfold plC; rw [if_pos hz])
      clear hz
      generalize p.ix = x at c1 HR
      generalize q.ix = y at c2 HR
      by_cases h1 : x < y
      · go_wp2
        go_ret
        exact ⟨by rw [HR.out, if_pos h1]; rfl, HB.out⟩
      · by_cases h2 : y < x
        · go_wp2
          go_ret
          exact ⟨by rw [HR.out, if_neg (by omega), if_pos h2]; rfl, HB.out⟩
        · go_wp2
          go_ret
          exact ⟨by rw [HR.out, if_neg (by omega), if_neg (by omega)]; rfl, HB.out⟩
theorem isnan_any (n : Int) (w : World) : Calls Tryz.prog 142 #[.int .i64 n] w fun e w' => e = .returned (.bool false) ∧ w' = w := by
  go_enter Tryz.func142, Tryz.ntmps142
  go_wp2
  go_ret
  exact ⟨by simp, rfl⟩
def intC (x y : Int) : Int := if x < y then -1 else if y < x then 1 else 0
theorem cmpInt_any (x y : Int) (w : World) : Calls Tryz.prog 125 #[.int .i64 x, .int .i64 y] w fun e w' => e = .returned (.int .i64 (intC x y)) ∧ w' = w := by
  unfold intC
  by_cases h1 : x < y <;> by_cases h2 : y < x
  all_goals first
    | (exfalso; omega)
    | (go_enter Tryz.func125, Tryz.ntmps125
       go_wp2_with fail
       refine (isnan_any x _).mono ?_
       rintro e w' ⟨rfl, hw'⟩
       rw [hw']
       clear hw' w'
       go_wp2_with fail
       refine (isnan_any y _).mono ?_
       rintro e w' ⟨rfl, hw'⟩
       rw [hw']
       clear hw' w'
       go_wp2
       go_ret
       exact ⟨rfl, rfl⟩)
theorem run_bytesOf_rd {w : World} {v : Value} {n : Nat} {b : List UInt8} (h : rd w v n (b.map vB)) (hl : b.length = n) : (Extern.Bytes.bytesOf v).run Tryz.prog w = .ok ⟨b.toArray⟩ w := by
  obtain ⟨ao, cap, rfl, h1, h2, h3⟩ := h
  rcases h3 with h3 | ⟨g, off, rfl, h3⟩
  · have hb : b = [] := by simpa using h3
    subst hb
    obtain rfl : n = 0 := by simpa using hl.symm
    cases ao <;> simp [Extern.Bytes.bytesOf, Extern.Bytes.loadBytes] <;> rfl
  · have hb : Lib.bytesOf (b.map bv) = b := by
      unfold Lib.bytesOf
      rw [List.map_map]
      conv => rhs; rw [← List.map_id b]
      apply List.map_congr_left
      intro x _
      simp [bv]
    have := Lib.run_loadBytesX (P := Tryz.prog) w (b.map bv) ⟨g, off, none⟩ .empty (fun j x hj => by
      rw [Addr.add_lit]
      apply h3
      rw [List.getElem?_map] at hj ⊢
      cases hb2 : b[j]? with
      | none => rw [hb2] at hj; cases hj
      | some y => rw [hb2] at hj; simp only [Option.map_some, Option.some.injEq] at hj ⊢; rw [← hj]; rfl)
    rw [List.length_map, hl, hb] at this
    simpa [Extern.Bytes.bytesOf] using this
theorem run_compare_rd {w : World} {v1 v2 : Value} {n1 n2 : Nat} {a b : List UInt8} (h1 : rd w v1 n1 (a.map vB)) (l1 : a.length = n1) (h2 : rd w v2 n2 (b.map vB)) (l2 : b.length = n2) :
    (Extern.BytealgCompare.compare #[v1, v2]).run Tryz.prog w = .ok (.int .i64 (Lib.compareBytes a b)) w := by
  change Sem.run Tryz.prog (do pure (goInt (Extern.BytealgCompare.cmp (← Extern.Bytes.bytesOf v1) (← Extern.Bytes.bytesOf v2)))) w = _
  simp only [Sem.run_bind, run_bytesOf_rd h1 l1, run_bytesOf_rd h2 l2, Sem.run_pure, Result.andThen]
  rw [Lib.cmp_eq]
  rfl
theorem bytesCmp_any (v1 v2 : Value) (n1 n2 : Nat) (a b : List UInt8) (w : World) (h1 : rd w v1 n1 (a.map vB)) (l1 : a.length = n1) (h2 : rd w v2 n2 (b.map vB)) (l2 : b.length = n2) :
    Calls Tryz.prog 124 #[v1, v2] w fun e w' => e = .returned (.int .i64 (Lib.compareBytes a b)) ∧ w' = w := by
  have hx := @run_callFunc_extern Tryz.prog 141 _ Extern.BytealgCompare.compare Tryz.func141 (by kernel_rfl) (by kernel_rfl) (by kernel_rfl) (by kernel_rfl)
  have hc := run_compare_rd h1 l1 h2 l2
  clear h1 h2 l1 l2
  go_enter Tryz.func124, Tryz.ntmps124
  go_wp2
  go_ret
  exact ⟨rfl, rfl⟩
def orC (x y : Int) : Int := if x = 0 then y else x
theorem or2_any (x y : Int) (g : Nat) (w : World) (hc : w.heap[g]? = some (.cells #[.int .i64 x, .int .i64 y] 3 (0, 0))) :
    Calls Tryz.prog 123 #[.slice (some ⟨g, 0, none⟩) 2 2] w fun e w' => e = .returned (.int .i64 (orC x y)) ∧ w' = w := by
  unfold orC
  have c0 : w.cell? ⟨g, 0, none⟩ = some (.int .i64 x) := by rw [cell_of_row _ _ _ _ _ _ hc]; rfl
  have c1 : w.cell? ⟨g, 1, none⟩ = some (.int .i64 y) := by rw [cell_of_row _ _ _ _ _ _ hc]; rfl
  clear hc
  by_cases h0 : x = 0
  · subst h0
    by_cases h1 : y = 0
    · subst h1
      go_enter Tryz.func123, Tryz.ntmps123
      go_wp2
      refine wp_loop_rounds 3 ?_
      rw [rounds_succ]
      go_wp2
      rw [rounds_succ]
      go_wp2
      rw [rounds_succ]
      go_wp2
      go_ret
      exact ⟨rfl, rfl⟩
    · have q : (y != 0) = true := by simpa using h1
      go_enter Tryz.func123, Tryz.ntmps123
      go_wp2
      refine wp_loop_rounds 2 ?_
      rw [rounds_succ]
      go_wp2
      rw [rounds_succ]
      go_wp2
      go_ret
      exact ⟨rfl, rfl⟩
  · have q : (x != 0) = true := by simpa using h0
    go_enter Tryz.func123, Tryz.ntmps123
    go_wp2
    refine wp_loop_rounds 1 ?_
    rw [rounds_succ]
    go_wp2
    go_ret
    exact ⟨rfl, rfl⟩
set_option maxHeartbeats 2000000 in
set_option maxRecDepth 100000 in
theorem compare_any (p q : PlaceD) (hp : p.tx.length = 32) (hq : q.tx.length = 32) (w : World) :
    Calls Tryz.prog 90 #[.agg (plV p), .agg (plV q)] w fun e w' => e = .returned (.int .i64 (plC p q)) ∧ Below w.heap.size w w' := by
  have hsp : (plV p).size = 33 := plV_size p hp
  have hsq : (plV q).size = 33 := plV_size q hq
  have hpp := plV_plain p; have hpq := plV_plain q
  have hB : Hid (Below w.heap.size w ((w.alloc (.cells (plV p) 97)).alloc (.cells (plV q) 97))) := ((Below.refl _ _).alloc (Nat.le_refl _) _).alloc (by simp) _
  have hP : Hid (((w.alloc (.cells (plV p) 97)).alloc (.cells (plV q) 97)).heap[w.heap.size]? = some (.cells (plV p) 97 (0, 0))) := by
    show _ = _
    rw [Below.heap_alloc _ _ _ (by simp)]; exact heap_alloc_new w _
  have hQ : Hid (((w.alloc (.cells (plV p) 97)).alloc (.cells (plV q) 97)).heap[w.heap.size + 1]? = some (.cells (plV q) 97 (0, 0))) := by
    have := heap_alloc_new (w.alloc (.cells (plV p) 97)) (.cells (plV q) 97)
    rwa [show (w.alloc (.cells (plV p) 97)).heap.size = w.heap.size + 1 from by simp] at this
  go_enter Tryz.func90, Tryz.ntmps90
  go_wp2_with fail
  change Code.wp _ _ _ _ ((w.alloc (.cells (plV p) 97)).alloc (.cells (plV q) 97))
  generalize (w.alloc (.cells (plV p) 97)).alloc (.cells (plV q) 97) = wa at hB hP hQ ⊢
  have c1 : wa.cell? ⟨w.heap.size, 32, none⟩ = some (.int .i64 p.ix) := by rw [cell_of_row _ _ _ _ _ _ hP.out, plV_ix p hp]
  have c2 : wa.cell? ⟨w.heap.size + 1, 32, none⟩ = some (.int .i64 q.ix) := by rw [cell_of_row _ _ _ _ _ _ hQ.out, plV_ix q hq]
  have hrP : ∀ n : Nat, Hid (rd (wa.drewN n) (.slice (some ⟨w.heap.size, 0, none⟩) 32 32) 32 (p.tx.map vB)) := fun n => ⟨_, _, rfl, Nat.le_refl _, by decide, .inr ⟨_, 0, rfl, fun j u hj => by
    have hj32 : j < 32 := by have := (List.getElem?_eq_some_iff.1 hj).1; simp at this; omega
    show wa.cell? _ = _
    rw [Nat.zero_add, cell_of_row _ _ _ _ _ _ hP.out, plV_get p hp j hj32, ← hj]
    simp [List.getD_eq_getElem?_getD, List.getElem?_eq_getElem (show j < p.tx.length by omega), vB]⟩⟩
  have hrQ : ∀ n : Nat, Hid (rd (wa.drewN n) (.slice (some ⟨w.heap.size + 1, 0, none⟩) 32 32) 32 (q.tx.map vB)) := fun n => ⟨_, _, rfl, Nat.le_refl _, by decide, .inr ⟨_, 0, rfl, fun j u hj => by
    have hj32 : j < 32 := by have := (List.getElem?_eq_some_iff.1 hj).1; simp at this; omega
    show wa.cell? _ = _
    rw [Nat.zero_add, cell_of_row _ _ _ _ _ _ hQ.out, plV_get q hq j hj32, ← hj]
    simp [List.getD_eq_getElem?_getD, List.getElem?_eq_getElem (show j < q.tx.length by omega), vB]⟩⟩
  have HRP := Lib.hid (hrP 1).out; have HRQ := Lib.hid (hrQ 1).out
  clear hrP hrQ
  have hfin : Hid (plC p q = orC (Lib.compareBytes p.tx q.tx) (intC p.ix q.ix)) := rfl
  go_region_with (first
    | (go_at_call 124
       refine (bytesCmp_any _ _ 32 32 p.tx q.tx _ HRP.out hp HRQ.out hq).mono ?_
       rintro e w1 ⟨rfl, hw1⟩
       rw [hw1]
       clear hw1 w1)
    | (go_at_call 125
       refine (cmpInt_any _ _ _).mono ?_
       rintro e w1 ⟨rfl, hw1⟩
       rw [hw1]
       clear hw1 w1)
    | (go_at_call 123
       refine (or2_any _ _ _ _ (heap_alloc_new _ _)).mono ?_
       rintro e w1 ⟨rfl, hw1⟩
       rw [hw1]
       clear hw1 w1))
  all_goals
    go_wp2
    go_ret
    exact ⟨by rw [hfin.out]; rfl, (hB.out.drew.alloc (by have := hB.out.size; simp; omega) _)⟩
end Go.Proofs.YtljcdkfafknnpaaGreatDoor
namespace Go.Proofs.YtljcdkfafknnpaaGreatDoor
set_option linter.unusedVariables false
set_option linter.unusedSimpArgs false

/-- An op by its number alone: 11 If, 12 Else, 13 End. -/
def scanM : List Bool → List Int → Option (List Bool)
  | st, [] => some st
  | st, k :: s =>
    if k = 11 then scanM (false :: st) s
    else if k ≠ 12 ∧ k ≠ 13 then scanM st s
    else match st with
      | [] => none
      | b :: st' => if k = 12 then (if b then none else scanM (true :: st') s) else scanM st' s
theorem scan_if (st : List Bool) (k : Int) (s : List Int) (h : k = 11) : scanM st (k :: s) = scanM (false :: st) s := by subst h; cases st <;> simp [scanM]
theorem scan_other (st : List Bool) (k : Int) (s : List Int) (h : ¬ k = 11) (h2 : ¬ (k = 12 ∨ k = 13)) : scanM st (k :: s) = scanM st s := by
  have h3 : k ≠ 12 ∧ k ≠ 13 := by omega
  cases st <;> simp [scanM, h, h3]
/-- What is left at the end of the ops that are within one If. -/
def endM : Nat → List Int → Option (List Int)
  | 0, _ => none
  | _ + 1, [] => some []
  | f + 1, k :: s =>
    if k = 12 ∨ k = 13 then some (k :: s)
    else if k ≠ 11 then endM f s
    else match endM f s with
      | some (13 :: r) => endM f r
      | some (12 :: r) => (match endM f r with
        | some (13 :: r') => endM f r'
        | _ => none)
      | _ => none
/-- What stands at an end. -/
def atEnd : List Int → Prop
  | [] => True
  | k :: _ => k = 12 ∨ k = 13
theorem endM_at : ∀ (f : Nat) (s r : List Int), endM f s = some r → atEnd r ∧ r.length ≤ s.length := by
  intro f
  induction f with
  | zero => intro s r h; cases h
  | succ f ih =>
    intro s r h
    cases s with
    | nil => cases h; exact ⟨trivial, Nat.le_refl _⟩
    | cons k s =>
      unfold endM at h
      split at h
      · rename_i hk; cases h; exact ⟨hk, Nat.le_refl _⟩
      · split at h
        · obtain ⟨a, b⟩ := ih s r h; exact ⟨a, by simp; omega⟩
        · split at h
          · rename_i r1 h1
            obtain ⟨-, c⟩ := ih s _ h1
            obtain ⟨a, b⟩ := ih r1 r h
            simp only [List.length_cons] at c ⊢
            exact ⟨a, by omega⟩
          · rename_i r1 h1
            obtain ⟨-, c⟩ := ih s _ h1
            split at h
            · rename_i r2 h2
              obtain ⟨-, d⟩ := ih r1 _ h2
              obtain ⟨a, b⟩ := ih r2 r h
              simp only [List.length_cons] at c d ⊢
              exact ⟨a, by omega⟩
            · cases h
          · cases h
theorem endM_scan : ∀ (f : Nat) (s r : List Int), endM f s = some r → ∀ st, scanM st s = scanM st r := by
  intro f
  induction f with
  | zero => intro s r h; cases h
  | succ f ih =>
    intro s r h st
    cases s with
    | nil => cases h; rfl
    | cons k s =>
      unfold endM at h
      split at h
      · cases h; rfl
      · rename_i hk
        split at h
        · rename_i h11
          rw [scan_other _ _ _ h11 hk]
          exact ih s r h st
        · rename_i h11
          have h11' : k = 11 := by omega
          rw [scan_if _ _ _ h11']
          split at h
          · rename_i r1 h1
            rw [ih s _ h1, ← ih r1 r h st]
            simp [scanM]
          · rename_i r1 h1
            split at h
            · rename_i r2 h2
              rw [ih s _ h1, ← ih r2 r h st]
              have e : scanM [true] r1 = scanM [true] (13 :: r2) := ih r1 _ h2 _
              have e2 := ih r1 _ h2 (true :: st)
              simp [scanM] at e2
              simp [scanM, e2]
            · cases h
          · cases h
theorem endM_none : ∀ (f : Nat) (s : List Int), s.length < f → endM f s = none → ∀ st t, scanM st s = some t → st.length < t.length := by
  intro f
  induction f with
  | zero => intro s hf; omega
  | succ f ih =>
    intro s hf h st t ht
    cases s with
    | nil => cases h
    | cons k s =>
      simp only [List.length_cons] at hf
      unfold endM at h
      split at h
      · cases h
      · rename_i hk
        split at h
        · rename_i h11
          rw [scan_other _ _ _ h11 hk] at ht
          exact ih s (by omega) h st t ht
        · rename_i h11
          have h11' : k = 11 := by omega
          rw [scan_if _ _ _ h11'] at ht
          cases h1 : endM f s with
          | none =>
            have := ih s (by omega) h1 _ t ht
            simp only [List.length_cons] at this; omega
          | some r1 =>
            rw [h1] at h
            obtain ⟨a1, b1⟩ := endM_at f s r1 h1
            rw [endM_scan f s r1 h1] at ht
            cases r1 with
            | nil => simp only [scanM] at ht; cases ht; simp
            | cons k1 r1 =>
              simp only [List.length_cons] at b1
              rcases a1 with rfl | rfl
              · simp only at h
                rw [scanM] at ht
                simp only [show ¬ ((12 : Int) = 11) from by decide, if_false, show ¬ ((12 : Int) ≠ 12 ∧ (12 : Int) ≠ 13) from by decide, if_true, Bool.false_eq_true] at ht
                cases h2 : endM f r1 with
                | none =>
                  have := ih r1 (by omega) h2 _ t ht
                  simp only [List.length_cons] at this; omega
                | some r2 =>
                  rw [h2] at h
                  obtain ⟨a2, b2⟩ := endM_at f r1 r2 h2
                  rw [endM_scan f r1 r2 h2] at ht
                  cases r2 with
                  | nil => simp only [scanM] at ht; cases ht; simp
                  | cons k2 r2 =>
                    simp only [List.length_cons] at b2
                    rcases a2 with rfl | rfl
                    · simp [scanM] at ht
                    · simp only at h
                      simp [scanM] at ht
                      exact ih r2 (by omega) h st t ht
              · simp only at h
                simp [scanM] at ht
                exact ih r1 (by omega) h st t ht
/-- ALL STAND IN PAIRS: as the stack says, as Ended says. -/
theorem pairs_iff (f : Nat) (s : List Int) (hf : s.length < f) : scanM [] s = some [] ↔ endM f s = some [] := by
  constructor
  · intro h
    cases he : endM f s with
    | none => have := endM_none f s hf he [] [] h; simp at this
    | some r =>
      obtain ⟨a, -⟩ := endM_at f s r he
      rw [endM_scan f s r he] at h
      cases r with
      | nil => rfl
      | cons k r =>
        rcases a with rfl | rfl <;> simp [scanM] at h
  · intro h
    rw [endM_scan f s [] h]
    rfl
/-- More fuel is no other answer. -/
theorem endM_fuel : ∀ (f : Nat) (s : List Int), s.length < f → ∀ g, f ≤ g → endM g s = endM f s := by
  intro f
  induction f with
  | zero => intro s hf; omega
  | succ f ih =>
    intro s hf g hg
    obtain ⟨g, rfl⟩ : ∃ k, g = k + 1 := ⟨g - 1, by omega⟩
    cases s with
    | nil => rfl
    | cons k s =>
      simp only [List.length_cons] at hf
      have e1 := ih s (by omega) g (by omega)
      rw [endM, endM, e1]
      split
      · rfl
      · split
        · rfl
        · cases h1 : endM f s with
          | none => rfl
          | some r1 =>
            obtain ⟨-, b1⟩ := endM_at f s r1 h1
            cases r1 with
            | nil => rfl
            | cons k1 r1 =>
              simp only [List.length_cons] at b1
              have e2 := ih r1 (by omega) g (by omega)
              by_cases c13 : k1 = 13
              · subst c13; simp only; exact e2
              · by_cases c12 : k1 = 12
                · subst c12
                  simp only [e2]
                  cases h2 : endM f r1 with
                  | none => rfl
                  | some r2 =>
                    obtain ⟨-, b2⟩ := endM_at f r1 r2 h2
                    cases r2 with
                    | nil => rfl
                    | cons k2 r2 =>
                      simp only [List.length_cons] at b2
                      by_cases d13 : k2 = 13
                      · subst d13; simp only; exact ih r2 (by omega) g (by omega)
                      · split <;> simp_all
                · split <;> simp_all
end Go.Proofs.YtljcdkfafknnpaaGreatDoor
namespace Go.Proofs.YtljcdkfafknnpaaGreatDoor
set_option linter.unusedVariables false
set_option linter.unusedSimpArgs false
open Go.RowKit
attribute [local go_sem ↓] run_load_agg run_store_agg

/-- What is wrong with an op. -/
def opF (op n : Int) (len : Nat) : Int :=
  if op < 1 ∨ 14 < op ∨ (n ≠ 0 ∧ op ≠ 9 ∧ op ≠ 10) ∨ (0 < len ∧ op ≠ 1) then 1
  else if 300 < len then 4
  else if (op = 9 ∧ (n < 1 ∨ 9 < n)) ∨ (op = 10 ∧ (n < 0 ∨ 1073741824 < n)) then 2 else 0
/-- An error by its number. -/
def errV (c : Int) : Value := if c = 0 then .nilIface else .iface 30 (.int .i64 c)
theorem ret_int {a b : Int} (h : b = a) : Ending.returned (.int .i64 a) = .returned (.int .i64 b) := by rw [h]
theorem ret_err {c b : Int} {v : Value} (h : b = c) (hv : v = errV c) : Ending.returned v = .returned (errV b) := by rw [h, hv]
set_option maxHeartbeats 4000000 in
set_option maxRecDepth 100000 in
theorem opFault_any (op n : Int) (ao : Option Addr) (len cap : Nat) (w : World) (h1 : len ≤ cap) (h2 : cap ≤ 2 ^ 63 - 1) :
    Calls Tryz.prog 115 #[.agg #[.int .i64 op, .int .i64 n, .slice ao len cap]] w fun e w' => e = .returned (.int .i64 (opF op n len)) ∧ Below w.heap.size w w' := by
  go_enter Tryz.func115, Tryz.ntmps115
  go_wp2
  all_goals go_ret
  all_goals refine ⟨?_, (Below.refl _ _).alloc (Nat.le_refl _) _⟩
  all_goals try simp only [bne_iff_ne, bne_eq_false_iff_eq, ne_eq] at *
  all_goals first
    | exact ret_int (a := 0) (by unfold opF; rw [if_neg (by omega), if_neg (by omega), if_neg (by omega)])
    | exact ret_int (a := 1) (by unfold opF; rw [if_pos (by omega)])
    | exact ret_int (a := 4) (by unfold opF; rw [if_neg (by omega), if_pos (by omega)])
    | exact ret_int (a := 2) (by unfold opF; rw [if_neg (by omega), if_neg (by omega), if_pos (by omega)])
set_option maxHeartbeats 4000000 in
set_option maxRecDepth 100000 in
theorem lockOp_any (op n : Int) (ao : Option Addr) (len cap : Nat) (w : World) (h1 : len ≤ cap) (h2 : cap ≤ 2 ^ 63 - 1) :
    Calls Tryz.prog 129 #[.agg #[.int .i64 op, .int .i64 n, .slice ao len cap]] w fun e w' => e = .returned (errV (opF op n len)) ∧ Below w.heap.size w w' := by
  go_enter Tryz.func129, Tryz.ntmps129
  go_wp2
  all_goals go_ret
  all_goals refine ⟨?_, (Below.refl _ _).alloc (Nat.le_refl _) _⟩
  all_goals try simp only [bne_iff_ne, bne_eq_false_iff_eq, ne_eq] at *
  all_goals first
    | exact ret_err (c := 0) (by unfold opF; rw [if_neg (by omega), if_neg (by omega), if_neg (by omega)]) rfl
    | exact ret_err (c := 1) (by unfold opF; rw [if_pos (by omega)]) rfl
    | exact ret_err (c := 4) (by unfold opF; rw [if_neg (by omega), if_pos (by omega)]) rfl
    | exact ret_err (c := 2) (by unfold opF; rw [if_neg (by omega), if_neg (by omega), if_pos (by omega)]) rfl
end Go.Proofs.YtljcdkfafknnpaaGreatDoor
namespace Go.Proofs.YtljcdkfafknnpaaGreatDoor
set_option linter.unusedVariables false
set_option linter.unusedSimpArgs false
open Go.RowKit Go.Deep Go.ChangeShapes Go.WideShapes Go.ChangeAt

structure OpD where
  op : Int
  n : Int
  data : List UInt8
instance : Inhabited OpD := ⟨⟨0, 0, []⟩⟩
structure CoinD where
  tx : List UInt8
  ix : Int
  amount : Int
  lock : List OpD
  height : Int
instance : Inhabited CoinD := ⟨⟨[], 0, 0, [], 0⟩⟩
def CoinD.place (c : CoinD) : PlaceD := ⟨c.tx, c.ix⟩
def opR : Rd OpD := fun w o cs => ∃ s, cs = [.int .i64 o.op, .int .i64 o.n, s] ∧ rd w s o.data.length (o.data.map vB)
def coinR : Rd CoinD := fun w c cs => ∃ s, cs = c.tx.map vB ++ [.int .i64 c.ix, .int .i64 c.amount, s, .int .i64 c.height] ∧ c.tx.length = 32 ∧ rdSl opR 3 w s c.lock
theorem opR_stays : Stays opR := fun w w' o cs hk ⟨s, h1, h2⟩ => ⟨s, h1, rd_kept h2 hk⟩
theorem coinR_stays : Stays coinR := fun w w' c cs hk ⟨s, h1, h2, h3⟩ => ⟨s, h1, h2, opR_stays.sl hk h3⟩
@[go_sem] theorem agg_op : aggOf Tryz.prog 151 = true := by kernel_rfl
@[go_sem] theorem cells_op : Tryz.prog.cellsOf 151 = 3 := by kernel_rfl
@[go_sem] theorem agg_coin : aggOf Tryz.prog 105 = true := by kernel_rfl
@[go_sem] theorem cells_coin : Tryz.prog.cellsOf 105 = 36 := by kernel_rfl
@[go_sem] theorem agg_out : aggOf Tryz.prog 103 = true := by kernel_rfl
@[go_sem] theorem cells_out : Tryz.prog.cellsOf 103 = 2 := by kernel_rfl
theorem cells_int : Tryz.prog.cellsOf 3 = 1 := by kernel_rfl
theorem cells_bs : Tryz.prog.cellsOf 26 = 1 := by kernel_rfl
theorem cells_ops : Tryz.prog.cellsOf 101 = 1 := by kernel_rfl
/-- An op of a lock: its cells. -/
theorem op_row {w : World} {v : Value} {os : List OpD} (h : rdSl opR 3 w v os) (j : Nat) (hj : j < os.length) :
    ∃ g off cap ao dcap, v = .slice (some ⟨g, off, none⟩) os.length cap ∧ os[j].data.length ≤ dcap ∧ dcap ≤ maxLen ∧ rd w (.slice ao os[j].data.length dcap) os[j].data.length (os[j].data.map vB) ∧
      rowAt w g (off + j * 3) 3 = some #[.int .i64 os[j].op, .int .i64 os[j].n, .slice ao os[j].data.length dcap] := by
  obtain ⟨g, off, cap, cs, rfl, hR, hl, hrow⟩ := rdSl_row h (by decide) j os[j] (List.getElem?_eq_getElem hj)
  obtain ⟨s, rfl, hs⟩ := hR
  have hs' := hs
  obtain ⟨ao, dcap, rfl, h1, h2, -⟩ := hs'
  exact ⟨g, off, cap, ao, dcap, rfl, h1, h2, hs, hrow⟩
theorem sl_bounds {α : Type} {R : Rd α} {sz : Nat} {w : World} {v : Value} {zs : List α} (h : rdSl R sz w v zs) : ∃ ao cap, v = .slice ao zs.length cap ∧ zs.length ≤ cap ∧ cap ≤ maxLen := by
  obtain ⟨xs, ⟨ao, cap, rfl, h1, h2, -⟩, -⟩ := h
  exact ⟨ao, cap, rfl, h1, h2⟩
theorem cell_of_row3 {w : World} {g o : Nat} {a b c : Value} (h : rowAt w g o 3 = some #[a, b, c]) : w.cell? ⟨g, o, none⟩ = some a ∧ w.cell? ⟨g, o + 1, none⟩ = some b ∧ w.cell? ⟨g, o + 2, none⟩ = some c :=
  ⟨cell_of_rowAt h 0 (by decide), cell_of_rowAt h 1 (by decide), cell_of_rowAt h 2 (by decide)⟩
section
variable {H : Type} {enc : TypeId × Value → H} {w : World} {base : Nat} {spare : Nat → Bool} {held : Bool}
theorem list_three {cs : List Value} (h : cs.length = 3) : ∃ a b c, cs = [a, b, c] := by
  match cs, h with
  | [a, b, c], _ => exact ⟨a, b, c, rfl⟩
theorem open_op (fuel : Nat) (cs : List Value) (x : DataW H × List MemPlace) (h : DataW.trod enc Tryz.prog w base spare held fuel 151 cs = some x) (hl : cs.length = 3) : ∃ o, opR w o cs := by
  obtain ⟨y0, y1, y2, n, -, -, h0, h1, h2⟩ := Go.Deep.trod_struct3 Tryz.underlying151 h
  obtain ⟨a, b, c, rfl⟩ := list_three hl
  rw [cells_int] at h0 h1
  rw [cells_bs] at h2
  simp only [List.drop_zero, List.drop_succ_cons, List.take_succ_cons, List.take_zero] at h0 h1 h2
  obtain ⟨i0, e0, -, -⟩ := DataW.trod_int Tryz.underlying3 h0
  obtain ⟨i1, e1, -, -⟩ := DataW.trod_int Tryz.underlying3 h1
  obtain ⟨m, d, hd, hr, -⟩ := open_byts h2
  subst hd
  injection e0 with e0 _
  injection e1 with e1 _
  exact ⟨⟨i0, i1, d⟩, c, by rw [e0, e1], hr⟩
theorem open_ops {fuel : Nat} {v : Value} {x : DataW H × List MemPlace} (h : DataW.trod enc Tryz.prog w base spare held fuel 101 [v] = some x) : ∃ os, rdSl opR 3 w v os :=
  open_sl Tryz.underlying101 cells_op (by decide) open_op h
end
end Go.Proofs.YtljcdkfafknnpaaGreatDoor
namespace Go.Proofs.YtljcdkfafknnpaaGreatDoor
set_option linter.unusedVariables false
set_option linter.unusedSimpArgs false
open Go.ChangeShapes Go.WideShapes Go.RowKit
section
variable {H : Type} {enc : TypeId × Value → H} {w : World} {base : Nat} {spare : Nat → Bool} {held : Bool}
theorem split_two {cs : List Value} (h : cs.length = 33) {A B : List Value} (a : cs.take 32 = A) (b : (cs.drop 32).take 1 = B) : cs = A ++ B := by
  have e1 := (List.take_append_drop 32 cs).symm
  rw [List.take_of_length_le (l := cs.drop 32) (by simp; omega)] at b
  rwa [a, b] at e1
theorem split_three {cs : List Value} (h : cs.length = 36) {A B C : List Value} (a : cs.take 33 = A) (b : (cs.drop 33).take 2 = B) (c : (cs.drop 35).take 1 = C) : cs = A ++ (B ++ C) := by
  have e1 := (List.take_append_drop 33 cs).symm
  have e2 := (List.take_append_drop 2 (cs.drop 33)).symm
  rw [List.take_of_length_le (l := cs.drop 35) (by simp; omega)] at c
  rw [List.drop_drop, b, show 33 + 2 = 35 from rfl, c] at e2
  rwa [a, e2] at e1
theorem open_place {fuel : Nat} {cs : List Value} {x : DataW H × List MemPlace} (h : DataW.trod enc Tryz.prog w base spare held fuel 97 cs = some x) : ∃ p : PlaceD, p.tx.length = 32 ∧ cs = p.tx.map vB ++ [.int .i64 p.ix] := by
  obtain ⟨y0, y1, n, -, hl, h0, h1⟩ := Go.ChangeShapes.trod_struct2 Tryz.underlying97 h
  rw [cells_dig] at h0
  rw [cells_int] at h1
  rw [cells_place] at hl
  obtain ⟨D, hD, e⟩ := open_dig h0
  obtain ⟨i, e2, -, -⟩ := DataW.trod_int Tryz.underlying3 h1
  exact ⟨⟨D, i⟩, hD, split_two hl (by simpa using e) (by simpa using e2)⟩
theorem open_coin (fuel : Nat) (cs : List Value) (x : DataW H × List MemPlace) (h : DataW.trod enc Tryz.prog w base spare held fuel 105 cs = some x) (hl : cs.length = 36) : ∃ c, coinR w c cs := by
  obtain ⟨y0, y1, y2, n, -, -, h0, h1, h2⟩ := Go.Deep.trod_struct3 Tryz.underlying105 h
  rw [cells_place] at h0
  rw [cells_out] at h1
  rw [cells_int] at h2
  obtain ⟨p, hp, e0⟩ := open_place h0
  obtain ⟨z0, z1, m, -, hl1, k0, k1⟩ := Go.ChangeShapes.trod_struct2 Tryz.underlying103 h1
  rw [cells_int] at k0
  rw [cells_ops] at k1
  obtain ⟨i2, e2, -, -⟩ := DataW.trod_int Tryz.underlying3 h2
  obtain ⟨a, s, hB⟩ : ∃ a s, (cs.drop 33).take 2 = [a, s] := by
    have : ((cs.drop 33).take 2).length = 2 := by simp; omega
    match hq : (cs.drop 33).take 2, this with
    | [a, s], _ => exact ⟨a, s, rfl⟩
  simp only [hB, List.drop_zero, List.drop_succ_cons, List.take_succ_cons, List.take_zero] at k0 k1
  obtain ⟨i1, e1, -, -⟩ := DataW.trod_int Tryz.underlying3 k0
  obtain ⟨os, ho⟩ := open_ops k1
  have ha : a = .int .i64 i1 := by simpa using e1
  refine ⟨⟨p.tx, p.ix, i1, os, i2⟩, s, ?_, hp, ho⟩
  have := split_three hl (by simpa using e0) hB (by simpa using e2)
  rw [this, ha]
  simp
theorem open_coins {fuel : Nat} {v : Value} {x : DataW H × List MemPlace} (h : DataW.trod enc Tryz.prog w base spare held fuel 55 [v] = some x) : ∃ cs, rdSl coinR 36 w v cs :=
  open_sl Tryz.underlying55 cells_coin (by decide) open_coin h
end
end Go.Proofs.YtljcdkfafknnpaaGreatDoor
namespace Go.Proofs.YtljcdkfafknnpaaGreatDoor
set_option linter.unusedVariables false
set_option linter.unusedSimpArgs false
open Go.ChangeShapes Go.WideShapes Go.RowKit
structure InD where
  tx : List UInt8
  ix : Int
  keys : List (List UInt8)
instance : Inhabited InD := ⟨⟨[], 0, []⟩⟩
def InD.place (x : InD) : PlaceD := ⟨x.tx, x.ix⟩
structure OutD where
  amount : Int
  lock : List OpD
instance : Inhabited OutD := ⟨⟨0, []⟩⟩
structure TxD where
  ins : List InD
  outs : List OutD
  time : Int
/-- A row of bytes, as an element. -/
def bsR : Rd (List UInt8) := fun w b cs => ∃ s, cs = [s] ∧ rd w s b.length (b.map vB)
def inR : Rd InD := fun w x cs => ∃ s, cs = x.tx.map vB ++ [.int .i64 x.ix, s] ∧ x.tx.length = 32 ∧ rdSl bsR 1 w s x.keys
def outR : Rd OutD := fun w o cs => ∃ s, cs = [.int .i64 o.amount, s] ∧ rdSl opR 3 w s o.lock
def txR : Rd TxD := fun w t cs => ∃ a b, cs = [a, b, .int .i64 t.time] ∧ rdSl inR 34 w a t.ins ∧ rdSl outR 2 w b t.outs
theorem bsR_stays : Stays bsR := fun w w' b cs hk ⟨s, h1, h2⟩ => ⟨s, h1, rd_kept h2 hk⟩
theorem inR_stays : Stays inR := fun w w' x cs hk ⟨s, h1, h2, h3⟩ => ⟨s, h1, h2, bsR_stays.sl hk h3⟩
theorem outR_stays : Stays outR := fun w w' o cs hk ⟨s, h1, h2⟩ => ⟨s, h1, opR_stays.sl hk h2⟩
theorem txR_stays : Stays txR := fun w w' t cs hk ⟨a, b, h1, h2, h3⟩ => ⟨a, b, h1, inR_stays.sl hk h2, outR_stays.sl hk h3⟩
@[go_sem] theorem agg_in : aggOf Tryz.prog 100 = true := by kernel_rfl
@[go_sem] theorem cells_in : Tryz.prog.cellsOf 100 = 34 := by kernel_rfl
@[go_sem] theorem agg_tx : aggOf Tryz.prog 59 = true := by kernel_rfl
@[go_sem] theorem cells_tx : Tryz.prog.cellsOf 59 = 3 := by kernel_rfl
theorem cells_bss : Tryz.prog.cellsOf 98 = 1 := by kernel_rfl
theorem cells_ins : Tryz.prog.cellsOf 56 = 1 := by kernel_rfl
theorem cells_outs : Tryz.prog.cellsOf 57 = 1 := by kernel_rfl
section
variable {H : Type} {enc : TypeId × Value → H} {w : World} {base : Nat} {spare : Nat → Bool} {held : Bool}
theorem open_bs (fuel : Nat) (cs : List Value) (x : DataW H × List MemPlace) (h : DataW.trod enc Tryz.prog w base spare held fuel 26 cs = some x) (hl : cs.length = 1) : ∃ b, bsR w b cs := by
  match cs, hl with
  | [s], _ =>
    obtain ⟨n, b, hn, hr, -⟩ := open_byts h
    subst hn
    exact ⟨b, s, rfl, hr⟩
theorem open_keys {fuel : Nat} {v : Value} {x : DataW H × List MemPlace} (h : DataW.trod enc Tryz.prog w base spare held fuel 98 [v] = some x) : ∃ ks, rdSl bsR 1 w v ks :=
  open_sl Tryz.underlying98 cells_bs (by decide) open_bs h
theorem open_in (fuel : Nat) (cs : List Value) (x : DataW H × List MemPlace) (h : DataW.trod enc Tryz.prog w base spare held fuel 100 cs = some x) (hl : cs.length = 34) : ∃ i, inR w i cs := by
  obtain ⟨y0, y1, n, -, -, h0, h1⟩ := Go.ChangeShapes.trod_struct2 Tryz.underlying100 h
  rw [cells_place] at h0
  rw [cells_bss] at h1
  obtain ⟨p, hp, e0⟩ := open_place h0
  have e0' : cs.take 33 = p.tx.map vB ++ [.int .i64 p.ix] := by simpa using e0
  obtain ⟨s, hs⟩ : ∃ s, cs.drop 33 = [s] := by
    have : (cs.drop 33).length = 1 := by simp; omega
    match hq : cs.drop 33, this with
    | [s], _ => exact ⟨s, rfl⟩
  simp only [hs, List.take_succ_cons, List.take_zero] at h1
  obtain ⟨ks, hk⟩ := open_keys h1
  refine ⟨⟨p.tx, p.ix, ks⟩, s, ?_, hp, hk⟩
  have := (List.take_append_drop 33 cs).symm
  rw [e0', hs] at this
  rw [this]
  simp
theorem open_out (fuel : Nat) (cs : List Value) (x : DataW H × List MemPlace) (h : DataW.trod enc Tryz.prog w base spare held fuel 103 cs = some x) (hl : cs.length = 2) : ∃ o, outR w o cs := by
  obtain ⟨y0, y1, n, -, -, h0, h1⟩ := Go.ChangeShapes.trod_struct2 Tryz.underlying103 h
  rw [cells_int] at h0
  rw [cells_ops] at h1
  match cs, hl with
  | [a, s], _ =>
    simp only [List.drop_zero, List.drop_succ_cons, List.take_succ_cons, List.take_zero] at h0 h1
    obtain ⟨i, e, -, -⟩ := DataW.trod_int Tryz.underlying3 h0
    obtain ⟨os, ho⟩ := open_ops h1
    have ha : a = .int .i64 i := by simpa using e
    exact ⟨⟨i, os⟩, s, by rw [ha], ho⟩
theorem open_tx {fuel : Nat} {cs : List Value} {x : DataW H × List MemPlace} (h : DataW.trod enc Tryz.prog w base spare held fuel 59 cs = some x) : ∃ t, txR w t cs := by
  obtain ⟨y0, y1, y2, n, -, hl, h0, h1, h2⟩ := Go.Deep.trod_struct3 Tryz.underlying59 h
  rw [cells_tx] at hl
  rw [cells_ins] at h0
  rw [cells_outs] at h1
  rw [cells_int] at h2
  obtain ⟨a, b, c, rfl⟩ := list_three hl
  simp only [List.drop_zero, List.drop_succ_cons, List.take_succ_cons, List.take_zero] at h0 h1 h2
  obtain ⟨is, hi⟩ := open_sl (R := inR) Tryz.underlying56 cells_in (by decide) open_in h0
  obtain ⟨os, ho⟩ := open_sl (R := outR) Tryz.underlying57 cells_out (by decide) open_out h1
  obtain ⟨i, e, -, -⟩ := DataW.trod_int Tryz.underlying3 h2
  have hc : c = .int .i64 i := by simpa using e
  exact ⟨⟨is, os, i⟩, a, b, by rw [hc], hi, ho⟩
end
end Go.Proofs.YtljcdkfafknnpaaGreatDoor
namespace Go.Proofs.YtljcdkfafknnpaaGreatDoor
set_option linter.unusedVariables false
set_option linter.unusedSimpArgs false

def endK (s : List Int) : Option (List Int) := endM (s.length + 1) s
def behK (s : List Int) : Option (List Int) :=
  match endK s with
  | some (13 :: r) => some r
  | some (12 :: r) => (match endK r with
    | some (13 :: r') => some r'
    | _ => none)
  | _ => none
theorem endK_fuel (s : List Int) (f : Nat) (h : s.length < f) : endM f s = endK s := endM_fuel (s.length + 1) s (by omega) f (by omega)
theorem endK_nil : endK [] = some [] := rfl
theorem endK_stop (k : Int) (s : List Int) (h : k = 12 ∨ k = 13) : endK (k :: s) = some (k :: s) := by
  unfold endK; rw [endM, if_pos h]
theorem endK_other (k : Int) (s : List Int) (h : ¬ (k = 12 ∨ k = 13)) (h2 : ¬ k = 11) : endK (k :: s) = endK s := by
  unfold endK; rw [endM, if_neg h, if_pos h2]; exact endM_fuel (s.length + 1) s (by omega) _ (by simp)
theorem endK_at {s r : List Int} (h : endK s = some r) : atEnd r ∧ r.length ≤ s.length := endM_at _ _ _ h
theorem endM_suffix : ∀ (f : Nat) (s r : List Int), endM f s = some r → r <:+ s := by
  intro f
  induction f with
  | zero => intro s r h; cases h
  | succ f ih =>
    intro s r h
    cases s with
    | nil => cases h; exact List.suffix_refl _
    | cons k s =>
      unfold endM at h
      split at h
      · cases h; exact List.suffix_refl _
      · split at h
        · exact (ih s r h).trans (List.suffix_cons _ _)
        · split at h
          · rename_i r1 h1
            exact (((ih r1 r h).trans (List.suffix_cons _ _)).trans (ih s _ h1)).trans (List.suffix_cons _ _)
          · rename_i r1 h1
            split at h
            · rename_i r2 h2
              exact (((((ih r2 r h).trans (List.suffix_cons _ _)).trans (ih r1 _ h2)).trans (List.suffix_cons _ _)).trans (ih s _ h1)).trans (List.suffix_cons _ _)
            · cases h
          · cases h
theorem endK_suffix {s r : List Int} (h : endK s = some r) : r <:+ s := endM_suffix _ _ _ h
theorem suffix_drop {r s : List Int} (h : r <:+ s) : s.drop (s.length - r.length) = r := by
  obtain ⟨t, rfl⟩ := h
  rw [List.length_append, show t.length + r.length - r.length = t.length from by omega, List.drop_left]
theorem behK_suffix {s r : List Int} (h : behK s = some r) : r <:+ s ∧ r.length < s.length := by
  unfold behK at h
  split at h
  · rename_i r1 h1
    cases h
    have := endK_suffix h1
    exact ⟨(List.suffix_cons _ _).trans this, by have := this.length_le; simp only [List.length_cons] at this; omega⟩
  · rename_i r1 h1
    split at h
    · rename_i r2 h2
      cases h
      have e1 := endK_suffix h1; have e2 := endK_suffix h2
      exact ⟨(((List.suffix_cons _ _).trans e2).trans (List.suffix_cons _ _)).trans e1, by have a := e1.length_le; have b := e2.length_le; simp only [List.length_cons] at a b; omega⟩
    · cases h
  · cases h
theorem endK_if (k : Int) (s : List Int) (h : k = 11) : endK (k :: s) = match behK s with | none => none | some r => endK r := by
  subst h
  unfold endK
  rw [endM, if_neg (by omega), if_neg (by omega), List.length_cons, show endM (s.length + 1) s = endK s from rfl]
  unfold behK
  cases h1 : endK s with
  | none => rfl
  | some r1 =>
    have hl1 := (endK_suffix h1).length_le
    cases r1 with
    | nil => rfl
    | cons k1 r1 =>
      simp only [List.length_cons] at hl1
      by_cases c13 : k1 = 13
      · subst c13; simp only; exact endK_fuel r1 _ (by omega)
      · by_cases c12 : k1 = 12
        · subst c12
          simp only
          rw [endK_fuel r1 _ (by omega)]
          cases h2 : endK r1 with
          | none => rfl
          | some r2 =>
            have hl2 := (endK_suffix h2).length_le
            cases r2 with
            | nil => rfl
            | cons k2 r2 =>
              simp only [List.length_cons] at hl2
              by_cases d13 : k2 = 13
              · subst d13; simp only; exact endK_fuel r2 _ (by omega)
              · split <;> simp_all
        · split <;> simp_all
/-- The place that Ended tells, of n ops. -/
def endI (n : Nat) (s : List Int) : Int := match endK s with | none => -1 | some r => ((n - r.length : Nat) : Int)
def behI (n : Nat) (s : List Int) : Int := match behK s with | none => -1 | some r => ((n - r.length : Nat) : Int)
theorem pairs_endI (s : List Int) : scanM [] s = some [] ↔ endI s.length s = (s.length : Int) := by
  rw [pairs_iff (s.length + 1) s (by omega), show endM (s.length + 1) s = endK s from rfl]
  unfold endI
  cases h : endK s with
  | none => simp
  | some r =>
    have hl := (endK_suffix h).length_le
    simp only [Option.some.injEq]
    constructor
    · rintro rfl; simp
    · intro he
      exact List.eq_nil_of_length_eq_zero (by
        by_cases h0 : r.length = 0
        · exact h0
        · exfalso
          have : 0 < s.length := by omega
          omega)
end Go.Proofs.YtljcdkfafknnpaaGreatDoor
namespace Go.Proofs.YtljcdkfafknnpaaGreatDoor
set_option linter.unusedVariables false
set_option linter.unusedSimpArgs false
open Go.RowKit

/-- Where the ops lie. -/
theorem ops_at {w : World} {ao : Option Addr} {n cap : Nat} {os : List OpD} (h : rdSl opR 3 w (.slice ao n cap) os) (hn : 0 < os.length) :
    ∃ g off, ao = some ⟨g, off, none⟩ ∧ n = os.length ∧ ∀ j (hj : j < os.length), w.cell? ⟨g, off + j * 3, none⟩ = some (.int .i64 os[j].op) := by
  obtain ⟨g, off, cap', ao', dcap, e, -, -, -, hr⟩ := op_row h 0 hn
  cases e
  refine ⟨g, off, rfl, rfl, fun j hj => ?_⟩
  obtain ⟨g', off', cap'', ao'', dcap', e', -, -, -, hr'⟩ := op_row h j hj
  cases e'
  exact (cell_of_row3 hr').1
theorem kinds_drop {os : List OpD} {j : Nat} {k : Int} {r : List Int} (h : (os.map OpD.op).drop j = k :: r) : ∃ hj : j < os.length, os[j].op = k ∧ (os.map OpD.op).drop (j + 1) = r := by
  have hj : j < os.length := by
    by_cases hj : j < os.length
    · exact hj
    · rw [List.drop_eq_nil_of_le (by simp; omega)] at h; cases h
  rw [List.drop_eq_getElem_cons (by simpa using hj), List.getElem_map] at h
  injection h with h1 h2
  exact ⟨hj, h1, h2⟩
theorem kinds_cons (os : List OpD) (j : Nat) (hj : j < os.length) : (os.map OpD.op).drop j = os[j].op :: (os.map OpD.op).drop (j + 1) := by
  rw [List.drop_eq_getElem_cons (by simpa using hj), List.getElem_map]
def behFin (n : Nat) (x : Option (List Int)) : Int := match x with | some (13 :: r) => ((n - r.length : Nat) : Int) | _ => -1
theorem behI_eq (n : Nat) (s : List Int) : behI n s = behFin n (match endK s with | some (12 :: r) => endK r | x => x) := by
  unfold behI behK behFin
  cases endK s with
  | none => rfl
  | some r =>
    match r with
    | [] => rfl
    | k :: r =>
      by_cases h12 : k = 12
      · subst h12
        simp only
        cases endK r with
        | none => rfl
        | some r2 =>
          match r2 with
          | [] => rfl
          | k2 :: r2 =>
            by_cases d13 : k2 = 13
            · subst d13; rfl
            · split <;> simp_all
      · by_cases h13 : k = 13
        · subst h13; rfl
        · split <;> simp_all
set_option maxHeartbeats 4000000 in
set_option maxRecDepth 100000 in
theorem behind_of (os : List OpD) (ao : Option Addr) (cap : Nat) (w : World) (h : rdSl opR 3 w (.slice ao os.length cap) os) (a : Nat) (ha : a < os.length)
    (E : ∀ b : Nat, a < b → b ≤ os.length → Calls Tryz.prog 116 #[.slice ao os.length cap, .int .i64 b] w fun e w' => e = .returned (.int .i64 (endI os.length ((os.map OpD.op).drop b))) ∧ w' = w) :
    Calls Tryz.prog 136 #[.slice ao os.length cap, .int .i64 a] w fun e w' => e = .returned (.int .i64 (behI os.length ((os.map OpD.op).drop (a + 1)))) ∧ w' = w := by
  obtain ⟨g, off, rfl, -, hcell⟩ := ops_at h (by omega)
  obtain ⟨_, _, e, hcap, hmax⟩ := sl_bounds h
  cases e
  unfold maxLen at hmax
  rw [behI_eq]
  have hE1 := E (a + 1) (by omega) (by omega)
  have HE := Lib.hid E
  clear h E
  have hs1 : ((os.map OpD.op).drop (a + 1)).length = os.length - (a + 1) := by simp
  have hsuf : ∀ r, endK ((os.map OpD.op).drop (a + 1)) = some r → r.length ≤ os.length - (a + 1) ∧ (os.map OpD.op).drop (os.length - r.length) = r := fun r hr => by
    have h1 := endK_suffix hr
    have h2 := h1.length_le
    have h3 := suffix_drop (h1.trans (List.drop_suffix (a + 1) (os.map OpD.op)))
    rw [List.length_map] at h3
    exact ⟨by omega, h3⟩
  unfold endI at hE1
  cases hx : endK ((os.map OpD.op).drop (a + 1)) with
  | none =>
    rw [hx] at hE1
    simp only at hE1
    have HE1 := Lib.hid hE1
    clear hE1 hx hsuf hcell hs1
    go_enter Tryz.func136, Tryz.ntmps136
    go_wp2_with fail
    refine Calls.mono HE1.out ?_
    rintro e w' ⟨rfl, hw'⟩
    rw [hw']
    clear hw' w'
    go_wp2
    go_ret
    exact ⟨rfl, rfl⟩
  | some r =>
    obtain ⟨hr1, hr2⟩ := hsuf r hx
    have hat := (endK_at hx).1
    rw [hx] at hE1
    simp only at hE1
    obtain ⟨kk, hkk⟩ : ∃ kk, os.length - r.length = kk := ⟨_, rfl⟩
    rw [hkk] at hE1 hr2
    have HE1 := Lib.hid hE1
    clear hE1 hx hsuf hs1
    match r, hat with
    | [], _ =>
      have hk0 : kk = os.length := by simpa using hkk.symm
      subst hk0
      clear hkk hr1 hr2 hcell
      go_enter Tryz.func136, Tryz.ntmps136
      go_wp2_with fail
      refine Calls.mono HE1.out ?_
      rintro e w' ⟨rfl, hw'⟩
      rw [hw']
      clear hw' w'
      go_wp2
      go_ret
      exact ⟨rfl, rfl⟩
    | k :: r, hk =>
      obtain ⟨hj, hop, hdr⟩ := kinds_drop hr2
      have c1 := hcell kk hj
      rw [hop] at c1
      simp only [List.length_cons] at hr1 hkk
      by_cases h13 : k = 13
      · subst h13
        have hfin : behFin os.length (some (13 :: r)) = ((kk + 1 : Nat) : Int) := by unfold behFin; simp only; congr 1; omega
        have HF := Lib.hid hfin
        clear hfin hop hdr hr2 hcell hk
        simp only
        rw [HF.out]
        go_enter Tryz.func136, Tryz.ntmps136
        go_wp2_with fail
        refine Calls.mono HE1.out ?_
        rintro e w' ⟨rfl, hw'⟩
        rw [hw']
        clear hw' w'
        go_wp2
        go_ret
        exact ⟨rfl, rfl⟩
      · have h12 : k = 12 := by rcases hk with h | h; exact h; exact absurd h h13
        subst h12
        have hE2 := HE.out (kk + 1) (by omega) (by omega)
        rw [hdr] at hE2
        simp only
        unfold endI at hE2
        have hsuf2 : ∀ r2, endK r = some r2 → r2.length ≤ r.length ∧ (os.map OpD.op).drop (os.length - r2.length) = r2 := fun r2 hr => by
          have h1 := endK_suffix hr
          have h2 := h1.length_le
          rw [← hdr] at h1
          have h3 := suffix_drop (h1.trans (List.drop_suffix (kk + 1) (os.map OpD.op)))
          rw [List.length_map] at h3
          exact ⟨h2, h3⟩
        cases hx2 : endK r with
        | none =>
          rw [hx2] at hE2
          simp only at hE2
          have HE2 := Lib.hid hE2
          clear hE2 hsuf2 hop hdr hr2 hcell hk hx2 h13
          go_enter Tryz.func136, Tryz.ntmps136
          go_wp2_with fail
          refine Calls.mono HE1.out ?_
          rintro e w' ⟨rfl, hw'⟩
          rw [hw']
          clear hw' w'
          go_wp2_with fail
          refine Calls.mono HE2.out ?_
          rintro e w' ⟨rfl, hw'⟩
          rw [hw']
          clear hw' w'
          go_wp2
          go_ret
          exact ⟨rfl, rfl⟩
        | some r2 =>
          obtain ⟨hl2, hd2⟩ := hsuf2 r2 hx2
          have hat2 := (endK_at hx2).1
          rw [hx2] at hE2
          simp only at hE2
          obtain ⟨k2, hk2⟩ : ∃ k2, os.length - r2.length = k2 := ⟨_, rfl⟩
          rw [hk2] at hE2 hd2
          have HE2 := Lib.hid hE2
          clear hE2 hsuf2 hx2
          match r2, hat2 with
          | [], _ =>
            have hk0 : k2 = os.length := by simpa using hk2.symm
            subst hk0
            clear hop hdr hr2 hcell hk h13 hd2 hk2 hl2
            go_enter Tryz.func136, Tryz.ntmps136
            go_wp2_with fail
            refine Calls.mono HE1.out ?_
            rintro e w' ⟨rfl, hw'⟩
            rw [hw']
            clear hw' w'
            go_wp2_with fail
            refine Calls.mono HE2.out ?_
            rintro e w' ⟨rfl, hw'⟩
            rw [hw']
            clear hw' w'
            go_wp2
            go_ret
            exact ⟨rfl, rfl⟩
          | q :: r2, hq =>
            obtain ⟨hj2, hop2, -⟩ := kinds_drop hd2
            have c2 := hcell k2 hj2
            rw [hop2] at c2
            simp only [List.length_cons] at hl2 hk2
            by_cases q13 : q = 13
            · subst q13
              have hfin : behFin os.length (some (13 :: r2)) = ((k2 + 1 : Nat) : Int) := by unfold behFin; simp only; congr 1; omega
              have HF := Lib.hid hfin
              clear hfin hop hdr hr2 hcell hk h13 hd2 hop2 hq
              rw [HF.out]
              go_enter Tryz.func136, Tryz.ntmps136
              go_wp2_with fail
              refine Calls.mono HE1.out ?_
              rintro e w' ⟨rfl, hw'⟩
              rw [hw']
              clear hw' w'
              go_wp2_with fail
              refine Calls.mono HE2.out ?_
              rintro e w' ⟨rfl, hw'⟩
              rw [hw']
              clear hw' w'
              go_wp2
              go_ret
              exact ⟨rfl, rfl⟩
            · have q12 : q = 12 := by rcases hq with h | h; exact h; exact absurd h q13
              subst q12
              have hfin : behFin os.length (some (12 :: r2)) = -1 := rfl
              clear hop hdr hr2 hcell hk h13 hd2 hop2 hq q13
              rw [hfin]
              clear hfin
              go_enter Tryz.func136, Tryz.ntmps136
              go_wp2_with fail
              refine Calls.mono HE1.out ?_
              rintro e w' ⟨rfl, hw'⟩
              rw [hw']
              clear hw' w'
              go_wp2_with fail
              refine Calls.mono HE2.out ?_
              rintro e w' ⟨rfl, hw'⟩
              rw [hw']
              clear hw' w'
              go_wp2
              go_ret
              exact ⟨rfl, rfl⟩
theorem endI_stop (os : List OpD) (b : Nat) (hb : b < os.length) (h : os[b].op = 12 ∨ os[b].op = 13) : endI os.length ((os.map OpD.op).drop b) = (b : Int) := by
  unfold endI
  rw [kinds_cons os b hb, endK_stop _ _ h]
  simp only [List.length_cons, List.length_drop, List.length_map]
  omega
theorem endI_end (os : List OpD) (b : Nat) (hb : b = os.length) : endI os.length ((os.map OpD.op).drop b) = (b : Int) := by
  subst hb
  rw [List.drop_eq_nil_of_le (by simp)]
  unfold endI
  rw [endK_nil]
  simp
theorem endI_step (os : List OpD) (b : Nat) (hb : b < os.length) (h : ¬ (os[b].op = 12 ∨ os[b].op = 13)) (h2 : ¬ os[b].op = 11) : endI os.length ((os.map OpD.op).drop b) = endI os.length ((os.map OpD.op).drop (b + 1)) := by
  unfold endI
  rw [kinds_cons os b hb, endK_other _ _ h h2]
theorem endI_if (os : List OpD) (b : Nat) (hb : b < os.length) (h : os[b].op = 11) :
    (behI os.length ((os.map OpD.op).drop (b + 1)) = -1 ∧ endI os.length ((os.map OpD.op).drop b) = -1) ∨
    ∃ c : Nat, b < c ∧ c ≤ os.length ∧ behI os.length ((os.map OpD.op).drop (b + 1)) = (c : Int) ∧ endI os.length ((os.map OpD.op).drop b) = endI os.length ((os.map OpD.op).drop c) := by
  unfold endI behI
  rw [kinds_cons os b hb, endK_if _ _ h]
  cases hx : behK ((os.map OpD.op).drop (b + 1)) with
  | none => exact .inl ⟨rfl, rfl⟩
  | some r =>
    right
    obtain ⟨h1, h2⟩ := behK_suffix hx
    have h3 := suffix_drop (h1.trans (List.drop_suffix (b + 1) (os.map OpD.op)))
    simp only [List.length_map, List.length_drop] at h2 h3
    exact ⟨os.length - r.length, by omega, by omega, rfl, by simp only; rw [h3]⟩
set_option maxHeartbeats 4000000 in
set_option maxRecDepth 100000 in
theorem ended_any (os : List OpD) (ao : Option Addr) (cap : Nat) (w : World) (h : rdSl opR 3 w (.slice ao os.length cap) os) : ∀ (m a : Nat), os.length - a < m → a ≤ os.length →
    Calls Tryz.prog 116 #[.slice ao os.length cap, .int .i64 a] w fun e w' => e = .returned (.int .i64 (endI os.length ((os.map OpD.op).drop a))) ∧ w' = w := by
  intro m
  induction m with
  | zero => intro a hm; omega
  | succ m ih =>
    intro a hm ha
    obtain ⟨_, _, e, hcap, hmax⟩ := sl_bounds h
    cases e
    unfold maxLen at hmax
    have hcell : 0 < os.length → ∃ g off, ao = some ⟨g, off, none⟩ ∧ os.length = os.length ∧ ∀ j (hj : j < os.length), w.cell? ⟨g, off + j * 3, none⟩ = some (.int .i64 os[j].op) := fun hn => ops_at h hn
    have HC := Lib.hid hcell
    have HB := Lib.hid (fun b (hb : b < os.length) (E) => behind_of os ao cap w h b hb E)
    have HI := Lib.hid ih
    clear h hcell ih
    go_enter Tryz.func116, Tryz.ntmps116
    go_wp2_with fail
    go_loop [1] (fun s => ∃ b : Nat, a ≤ b ∧ b ≤ os.length ∧ s = .int .i64 b ∧ Hid (endI os.length ((os.map OpD.op).drop a) = endI os.length ((os.map OpD.op).drop b))) (fun s => os.length - (intOf s).toNat)
    case atStart => exact ⟨a, Nat.le_refl _, ha, rfl, Lib.hid rfl⟩
    case round =>
      obtain ⟨b, hab, hb, rfl, HR⟩ := hrel
      by_cases hlt : b < os.length
      · obtain ⟨g, off, rfl, -, hcs⟩ := HC.out (by omega)
        have c1 := hcs b hlt
        clear hcs
        have H1 := Lib.hid (endI_stop os b hlt); have H2 := Lib.hid (endI_step os b hlt); have H3 := Lib.hid (endI_if os b hlt)
        obtain ⟨k, hk⟩ : ∃ k, os[b].op = k := ⟨_, rfl⟩
        rw [hk] at c1 H1 H2 H3
        clear hk
        by_cases h12 : k = 12
        · have hf := HR.out.trans (H1.out (.inl h12))
          have HF := Lib.hid hf
          subst h12
          clear hf
          go_wp2
          go_ret
          exact ⟨by rw [HF.out]; rfl, rfl⟩
        by_cases h13 : k = 13
        · have hf := HR.out.trans (H1.out (.inr h13))
          have HF := Lib.hid hf
          subst h13
          clear hf h12
          go_wp2
          go_ret
          exact ⟨by rw [HF.out]; rfl, rfl⟩
        have q1 : (k != 12) = true := by rw [bne_iff_ne]; exact h12
        have q2 : (k != 13) = true := by rw [bne_iff_ne]; exact h13
        by_cases h11 : k = 11
        · have h3 := H3.out h11
          subst h11
          clear h12 h13 q1 q2
          have hbe := HB.out b hlt (fun c hc1 hc2 => HI.out c (by omega) hc2)
          rcases h3 with ⟨h4, h5⟩ | ⟨c, hc1, hc2, h4, h5⟩
          · rw [h4] at hbe
            have HBE := Lib.hid hbe
            have HF := Lib.hid (HR.out.trans h5)
            clear h4 h5 hbe
            go_wp2_with fail
            refine Calls.mono HBE.out ?_
            rintro e w' ⟨rfl, hw'⟩
            rw [hw']
            clear hw' w'
            go_wp2
            go_ret
            exact ⟨by rw [HF.out]; rfl, rfl⟩
          · rw [h4] at hbe
            have HBE := Lib.hid hbe
            have HF := Lib.hid (HR.out.trans h5)
            clear h4 h5 hbe
            go_wp2_with fail
            refine Calls.mono HBE.out ?_
            rintro e w' ⟨rfl, hw'⟩
            rw [hw']
            clear hw' w'
            go_wp2
            go_round
            case rel => exact ⟨c, by omega, hc2, rfl, HF⟩
            case measure => simp [intOf]; omega
        · have hf := HR.out.trans (H2.out (by omega) h11)
          have q3 : (k != 11) = true := by rw [bne_iff_ne]; exact h11
          have HF := Lib.hid hf
          clear hf
          go_wp2
          go_round
          case rel => exact ⟨b + 1, by omega, by omega, by go_num, HF⟩
          case measure => simp [intOf]; omega
      · have hf := HR.out.trans (endI_end os b (by omega))
        have HF := Lib.hid hf
        clear hf
        go_wp2
        go_ret
        exact ⟨by rw [HF.out]; rfl, rfl⟩
end Go.Proofs.YtljcdkfafknnpaaGreatDoor
namespace Go.Proofs.YtljcdkfafknnpaaGreatDoor
set_option linter.unusedVariables false
set_option linter.unusedSimpArgs false
open Go.RowKit
attribute [local go_sem ↓] run_load_agg run_store_agg

def firstF : List OpD → Int
  | [] => 0
  | o :: os => if opF o.op o.n o.data.length = 0 then firstF os else opF o.op o.n o.data.length
def pairF (os : List OpD) : Int := if scanM [] (os.map OpD.op) = some [] then 0 else 1
/-- What is wrong with a lock. -/
def lockF (os : List OpD) : Int := if 60 < os.length then 4 else if firstF os = 0 then pairF os else firstF os
theorem firstF_step (os : List OpD) (j : Nat) (hj : j < os.length) (h : opF os[j].op os[j].n os[j].data.length = 0) : firstF (os.drop j) = firstF (os.drop (j + 1)) := by
  rw [List.drop_eq_getElem_cons hj, firstF, if_pos h]
theorem firstF_hit (os : List OpD) (j : Nat) (hj : j < os.length) (c : Int) (hc : opF os[j].op os[j].n os[j].data.length = c) (h : c ≠ 0) : firstF (os.drop j) = c := by
  rw [List.drop_eq_getElem_cons hj, firstF, if_neg (by rw [hc]; exact h), hc]
theorem lockF_hit (os : List OpD) (hn : ¬ 60 < os.length) (c : Int) (hc : firstF os = c) (h : c ≠ 0) : lockF os = c := by
  unfold lockF; rw [if_neg hn, if_neg (by rw [hc]; exact h), hc]
theorem lockF_pairs (os : List OpD) (hn : ¬ 60 < os.length) (hc : firstF os = 0) : lockF os = pairF os := by
  unfold lockF; rw [if_neg hn, if_pos hc]
/-- An op as the walk loads it. -/
theorem op_at {w : World} {ao : Option Addr} {n cap : Nat} {os : List OpD} (h : rdSl opR 3 w (.slice ao n cap) os) (j : Nat) (hj : j < os.length) :
    ∃ g off so dcap, ao = some ⟨g, off, none⟩ ∧ n = os.length ∧ os[j].data.length ≤ dcap ∧ dcap ≤ 2 ^ 63 - 1 ∧ rd w (.slice so os[j].data.length dcap) os[j].data.length (os[j].data.map vB) ∧
      rowAt w g (off + j * 3) 3 = some #[.int .i64 os[j].op, .int .i64 os[j].n, .slice so os[j].data.length dcap] := by
  obtain ⟨g, off, cap', so, dcap, e, h1, h2, h3, h4⟩ := op_row h j hj
  cases e
  unfold maxLen at h2
  exact ⟨g, off, so, dcap, rfl, rfl, h1, by omega, h3, h4⟩
set_option maxHeartbeats 4000000 in
set_option maxRecDepth 100000 in
theorem lockFault_any (os : List OpD) (ao : Option Addr) (cap : Nat) (w : World) (h : rdSl opR 3 w (.slice ao os.length cap) os) :
    Calls Tryz.prog 79 #[.slice ao os.length cap] w fun e w' => e = .returned (.int .i64 (lockF os)) ∧ Below w.heap.size w w' := by
  obtain ⟨_, _, e, hcap, hmax⟩ := sl_bounds h
  cases e
  unfold maxLen at hmax
  have HS := Lib.hid h; clear h
  by_cases hn : 60 < os.length
  · have hf : lockF os = 4 := by unfold lockF; rw [if_pos hn]
    have HF := Lib.hid hf; clear hf
    go_enter Tryz.func79, Tryz.ntmps79
    go_wp2
    go_ret
    exact ⟨by rw [HF.out]; rfl, Below.refl _ _⟩
  have HN := Lib.hid hn
  go_enter Tryz.func79, Tryz.ntmps79
  go_wp2_with fail
  go_loopw [3] (fun c wr => ∃ j : Nat, j ≤ os.length ∧ c = .int .i64 j ∧ Hid (Below w.heap.size w wr) ∧ Hid (firstF os = firstF (os.drop j))) (fun c _ => os.length - (intOf c).toNat)
  case atStart => exact ⟨0, by omega, rfl, Lib.hid (Below.refl _ _), Lib.hid rfl⟩
  case round =>
    obtain ⟨j, hj, rfl, HB, HF⟩ := hrel
    by_cases hlt : j < os.length
    · obtain ⟨g, off, so, dcap, rfl, -, d1, d2, -, hrow⟩ := op_at (opR_stays.slB HS.out HB.out (Nat.le_refl _)) j hlt
      have H1 := Lib.hid (firstF_step os j hlt); have H2 := Lib.hid (firstF_hit os j hlt)
      obtain ⟨op, hop⟩ : ∃ x, os[j].op = x := ⟨_, rfl⟩
      obtain ⟨k, hk⟩ : ∃ x, os[j].n = x := ⟨_, rfl⟩
      obtain ⟨dl, hdl⟩ : ∃ x, os[j].data.length = x := ⟨_, rfl⟩
      rw [hop, hk, hdl] at hrow H1 H2
      rw [hdl] at d1
      clear hop hk hdl
      go_wp2_with fail
      refine (opFault_any op k so dl dcap _ d1 d2).mono ?_
      rintro e w1 ⟨rfl, hb1⟩
      have B1 := Lib.hid (HB.out.trans (hb1.mono HB.out.size)); clear hb1
      obtain ⟨c, hc⟩ : ∃ x, opF op k dl = x := ⟨_, rfl⟩
      rw [hc] at H1 H2 ⊢
      by_cases hz : c = 0
      · have hf := HF.out.trans (H1.out hz)
        have HF2 := Lib.hid hf
        subst hz
        clear hf hc
        go_wp2
        go_roundw
        case rel => exact ⟨j + 1, by omega, by go_num, B1, HF2⟩
        case measure => simp [intOf]; omega
      · have hf := lockF_hit os HN.out c (HF.out.trans (H2.out c rfl hz)) hz
        have HF2 := Lib.hid hf
        have q : (c != 0) = true := by rw [bne_iff_ne]; exact hz
        clear hf hc
        go_wp2
        go_ret
        exact ⟨by rw [HF2.out]; rfl, B1.out⟩
    · have hz : firstF os = 0 := by rw [HF.out, List.drop_eq_nil_of_le (by omega)]; rfl
      have hf := lockF_pairs os HN.out hz
      have hE := ended_any os ao cap wr (opR_stays.slB HS.out HB.out (Nat.le_refl _)) (os.length + 1) 0 (by omega) (by omega)
      rw [List.drop_zero] at hE
      have hp := pairs_endI (os.map OpD.op)
      rw [List.length_map] at hp
      by_cases hpp : scanM [] (os.map OpD.op) = some []
      · have he := hp.1 hpp
        rw [he] at hE
        have HE := Lib.hid hE
        have HF2 := Lib.hid (show lockF os = 0 by rw [hf, pairF, if_pos hpp])
        clear hE he hpp hp hf hz
        go_wp2_with fail
        refine Calls.mono HE.out ?_
        rintro e w' ⟨rfl, hw'⟩
        rw [hw']
        clear hw' w'
        go_wp2
        go_ret
        exact ⟨by rw [HF2.out]; rfl, HB.out⟩
      · have HE := Lib.hid hE
        have HF2 := Lib.hid (show lockF os = 1 by rw [hf, pairF, if_neg hpp])
        have hne : endI os.length (os.map OpD.op) ≠ (os.length : Int) := fun e => hpp (hp.2 e)
        obtain ⟨E, hE2⟩ : ∃ E, endI os.length (os.map OpD.op) = E := ⟨_, rfl⟩
        rw [hE2] at hne HE
        have q : (E != (os.length : Int)) = true := by rw [bne_iff_ne]; exact hne
        clear hE hpp hp hf hz hE2
        go_wp2_with fail
        refine Calls.mono HE.out ?_
        rintro e w' ⟨rfl, hw'⟩
        rw [hw']
        clear hw' w'
        go_wp2
        go_ret
        exact ⟨by rw [HF2.out]; rfl, HB.out⟩
end Go.Proofs.YtljcdkfafknnpaaGreatDoor
namespace Go.Proofs.YtljcdkfafknnpaaGreatDoor
set_option linter.unusedVariables false
set_option linter.unusedSimpArgs false
open Go.RowKit
attribute [local go_sem ↓] run_load_agg run_store_agg

def coinF (c : CoinD) : Int :=
  if c.ix < 0 ∨ 40 ≤ c.ix ∨ c.height < 0 ∨ 1073741824 < c.height ∨ c.amount < 0 ∨ 1125899906842624 < c.amount then 2 else lockF c.lock
def aheadB (cs : List CoinD) (j : Nat) : Bool := decide (0 < j) && decide (0 ≤ plC (cs.getD (j - 1) default).place (cs.getD j default).place)
def setFrom (cs : List CoinD) : Nat → Nat → Int
  | 0, _ => 0
  | m + 1, j => if aheadB cs j = true then 6 else if coinF (cs.getD j default) = 0 then setFrom cs m (j + 1) else coinF (cs.getD j default)
/-- What is wrong with a set. -/
def setF (cs : List CoinD) : Int := if 1000 < cs.length then 4 else setFrom cs cs.length 0
theorem setFrom_ahead (cs : List CoinD) (j : Nat) (hj : j < cs.length) (h : aheadB cs j = true) : setFrom cs (cs.length - j) j = 6 := by
  obtain ⟨m, hm⟩ : ∃ m, cs.length - j = m + 1 := ⟨cs.length - j - 1, by omega⟩
  rw [hm, setFrom, if_pos h]
theorem setFrom_hit (cs : List CoinD) (j : Nat) (hj : j < cs.length) (h : aheadB cs j = false) (c : Int) (hc : coinF (cs.getD j default) = c) (hz : c ≠ 0) : setFrom cs (cs.length - j) j = c := by
  obtain ⟨m, hm⟩ : ∃ m, cs.length - j = m + 1 := ⟨cs.length - j - 1, by omega⟩
  rw [hm, setFrom, if_neg (by rw [h]; decide), if_neg (by rw [hc]; exact hz), hc]
theorem setFrom_step (cs : List CoinD) (j : Nat) (hj : j < cs.length) (h : aheadB cs j = false) (hc : coinF (cs.getD j default) = 0) : setFrom cs (cs.length - j) j = setFrom cs (cs.length - (j + 1)) (j + 1) := by
  obtain ⟨m, hm⟩ : ∃ m, cs.length - j = m + 1 := ⟨cs.length - j - 1, by omega⟩
  rw [hm, setFrom, if_neg (by rw [h]; decide), if_pos hc, show cs.length - (j + 1) = m from by omega]
theorem setFrom_end (cs : List CoinD) (j : Nat) (hj : j = cs.length) : setFrom cs (cs.length - j) j = 0 := by subst hj; rw [Nat.sub_self]; rfl
theorem setF_of (cs : List CoinD) (h : ¬ 1000 < cs.length) (c : Int) (hc : setFrom cs cs.length 0 = c) : setF cs = c := by unfold setF; rw [if_neg h, hc]
def coinV (c : CoinD) (s : Value) : Array Value := dgV c.tx ++ #[.int .i64 c.ix, .int .i64 c.amount, s, .int .i64 c.height]
def zCoin : Array Value := #[.int .u8 0, .int .u8 0, .int .u8 0, .int .u8 0, .int .u8 0, .int .u8 0, .int .u8 0, .int .u8 0, .int .u8 0, .int .u8 0, .int .u8 0, .int .u8 0, .int .u8 0, .int .u8 0, .int .u8 0, .int .u8 0, .int .u8 0, .int .u8 0, .int .u8 0, .int .u8 0, .int .u8 0, .int .u8 0, .int .u8 0, .int .u8 0, .int .u8 0, .int .u8 0, .int .u8 0, .int .u8 0, .int .u8 0, .int .u8 0, .int .u8 0, .int .u8 0, .int .i64 0, .int .i64 0, .slice none 0 0, .int .i64 0]
theorem coinV_size (c : CoinD) (s : Value) (h : c.tx.length = 32) : (coinV c s).size = 36 := by simp [coinV, dgV_size, h]
theorem coinV_plain (c : CoinD) (so : Option Addr) (n cap : Nat) : plainCells (coinV c (.slice so n cap)) = true := by
  have := dgV_plain c.tx
  simp only [plainCells, coinV, Array.toList_append, List.all_append, Bool.and_eq_true] at this ⊢
  exact ⟨this, rfl⟩
theorem coinV_tail (c : CoinD) (s : Value) (h : c.tx.length = 32) : (coinV c s)[32]? = some (.int .i64 c.ix) ∧ (coinV c s)[33]? = some (.int .i64 c.amount) ∧ (coinV c s)[34]? = some s ∧ (coinV c s)[35]? = some (.int .i64 c.height) := by
  have hz : (dgV c.tx).size = 32 := by rw [dgV_size, h]
  unfold coinV
  refine ⟨?_, ?_, ?_, ?_⟩ <;> rw [Array.getElem?_append_right (by omega), hz] <;> rfl
theorem coinV_place (c : CoinD) (s : Value) (h : c.tx.length = 32) : (coinV c s).extract 0 33 = plV c.place := by
  have hz : (dgV c.tx).size = 32 := by rw [dgV_size, h]
  apply Array.ext
  · simp [coinV_size c s h, plV, CoinD.place, hz]
  · intro i h1 h2
    simp only [Array.getElem_extract, Nat.zero_add]
    have hi : i < 33 := by simp [plV, CoinD.place, hz] at h2; omega
    by_cases h32 : i < 32
    · simp only [coinV, plV, CoinD.place]
      rw [Array.getElem_append_left (by omega), Array.getElem_append_left (by omega)]
    · obtain rfl : i = 32 := by omega
      simp only [coinV, plV, CoinD.place]
      rw [Array.getElem_append_right (by omega), Array.getElem_append_right (by omega)]
      simp [hz]
/-- A part of a row. -/
theorem rowAt_part {w : World} {g o n : Nat} {cs : Array Value} (h : rowAt w g o n = some cs) (a m : Nat) (hm : a + m ≤ n) : rowAt w g (o + a) m = some (cs.extract a (a + m)) := by
  unfold rowAt at h ⊢
  cases hh : w.heap[g]? with
  | none => rw [hh] at h; cases h
  | some ob =>
    cases ob with
    | cells c t fr =>
      rw [hh] at h
      simp only at h ⊢
      split at h
      · rename_i hle
        cases h
        rw [if_pos (by omega)]
        congr 1
        apply Array.ext
        · simp; omega
        · intro i h1 h2
          simp only [Array.getElem_extract]
          congr 1
          omega
      · cases h
    | _ => rw [hh] at h; cases h
/-- A coin as the walk loads it. -/
theorem coin_at {w : World} {ao : Option Addr} {n cap : Nat} {cs : List CoinD} (h : rdSl coinR 36 w (.slice ao n cap) cs) (j : Nat) (hj : j < cs.length) :
    ∃ g off so scap, ao = some ⟨g, off, none⟩ ∧ n = cs.length ∧ cs[j].tx.length = 32 ∧ cs[j].lock.length ≤ scap ∧ scap ≤ 2 ^ 63 - 1 ∧ rdSl opR 3 w (.slice so cs[j].lock.length scap) cs[j].lock ∧
      rowAt w g (off + j * 36) 36 = some (coinV cs[j] (.slice so cs[j].lock.length scap)) := by
  obtain ⟨g, off, cap', xs, e, hR, hl, hrow⟩ := rdSl_row h (by decide) j cs[j] (List.getElem?_eq_getElem hj)
  cases e
  obtain ⟨s, rfl, h32, hs⟩ := hR
  obtain ⟨so, scap, rfl, h1, h2⟩ := sl_bounds hs
  unfold maxLen at h2
  refine ⟨g, off, so, scap, rfl, rfl, h32, h1, by omega, hs, ?_⟩
  rw [hrow]
  congr 1
  simp [coinV, dgV]
/-- What a coin in a block of its own gives. -/
structure CoinAt (w : World) (G : Nat) (c : CoinD) (s : Value) : Prop where
  p : rowAt w G 0 33 = some (plV c.place)
  ix : w.cell? ⟨G, 32, none⟩ = some (.int .i64 c.ix)
  amount : w.cell? ⟨G, 33, none⟩ = some (.int .i64 c.amount)
  lock : w.cell? ⟨G, 34, none⟩ = some s
  height : w.cell? ⟨G, 35, none⟩ = some (.int .i64 c.height)
theorem CoinAt.new (w : World) (c : CoinD) (s : Value) (h : c.tx.length = 32) : CoinAt (w.alloc (.cells (coinV c s) 105)) w.heap.size c s := by
  have hn := heap_alloc_new w (.cells (coinV c s) 105)
  obtain ⟨t1, t2, t3, t4⟩ := coinV_tail c s h
  have hz := coinV_size c s h
  refine ⟨?_, ?_, ?_, ?_, ?_⟩
  · have := rowAt_part (rowAt_whole hn 36 hz.symm) 0 33 (by omega)
    rw [Nat.zero_add, Nat.zero_add, coinV_place c s h] at this
    exact this
  · rw [cell_of_row _ _ _ _ _ _ hn, t1]
  · rw [cell_of_row _ _ _ _ _ _ hn, t2]
  · rw [cell_of_row _ _ _ _ _ _ hn, t3]
  · rw [cell_of_row _ _ _ _ _ _ hn, t4]
theorem CoinAt.on {w w' : World} {G : Nat} {c : CoinD} {s : Value} (h : CoinAt w G c s) (hb : Below w.heap.size w w') : CoinAt w' G c s := by
  have hl := rowAt_lt h.p
  exact ⟨(rowAt_below hb hl _ _).trans h.p, (hb.cell (p := ⟨G, 32, none⟩) hl).trans h.ix, (hb.cell (p := ⟨G, 33, none⟩) hl).trans h.amount, (hb.cell (p := ⟨G, 34, none⟩) hl).trans h.lock, (hb.cell (p := ⟨G, 35, none⟩) hl).trans h.height⟩
theorem new_coin (w : World) (c : CoinD) (so : Option Addr) (n cap : Nat) (h : c.tx.length = 32) : (rowAt (w.alloc (.cells zCoin 105)) w.heap.size 0 36).isSome = true ∧ wrAt (w.alloc (.cells zCoin 105)) w.heap.size = true ∧
    plainCells (coinV c (.slice so n cap)) = true ∧ (coinV c (.slice so n cap)).size = 36 :=
  ⟨by rw [rowAt_whole (heap_alloc_new w _) 36 rfl]; rfl, wrAt_of_heap (heap_alloc_new w _), coinV_plain c so n cap, coinV_size c _ h⟩
/-- A place loaded whole, in a region that calls. -/
theorem quiet_loadP {C : World → Prop} {K : Act → Prop} {a : Act} {dst : Option Tmp} {x : Operand} {type : TypeId} {pos : String} {after : Array Edge} {guard : Option (Nat × Bool)} (g off : Nat) (cs : Array Value)
    (hx : a.eval x = .pointer (some ⟨g, off, none⟩)) (h : ∀ w, C w → rowAt w g off 33 = some cs) (hK : K (a.put dst (.agg cs))) :
    Oper.quiet Tryz.prog ⟨dst, .load 97 x, type, pos, after, guard⟩ a C K := by
  refine ⟨.agg cs, fun w hw => ?_, hK⟩
  have hr : rowOf w (a.eval x) (Tryz.prog.cellsOf 97) = some cs := by rw [hx, rowOf_ptr, cells_place]; exact h w hw
  unfold Oper.quietAt
  rw [run_load_agg a.eval w dst _ x type pos after guard agg_place (by rw [hr]; rfl), hr]
  exact ⟨rfl, rfl⟩
/-- The worlds of a region that reads two places and calls. -/
structure HeldP (w0 : World) (A ao B bo : Nat) (p q : PlaceD) (w : World) : Prop where
  below : Below w0.heap.size w0 w
  a : rowAt w A ao 33 = some (plV p)
  b : rowAt w B bo 33 = some (plV q)
theorem HeldP.on {w0 : World} {A ao B bo : Nat} {p q : PlaceD} {w w' : World} (h : HeldP w0 A ao B bo p q w) (hb : Below w.heap.size w w') : HeldP w0 A ao B bo p q w' :=
  ⟨h.below.trans (hb.mono h.below.size), (rowAt_below hb (rowAt_lt h.a) _ _).trans h.a, (rowAt_below hb (rowAt_lt h.b) _ _).trans h.b⟩
theorem time_any (n : Int) (w : World) : Calls Tryz.prog 49 #[.int .i64 n] w fun e w' => e = .returned (.bool (decide (0 ≤ n ∧ n ≤ 1073741824))) ∧ w' = w := by
  by_cases h0 : 0 ≤ n <;> by_cases h1 : n ≤ 1073741824
  all_goals
    go_enter Tryz.func49, Tryz.ntmps49
    go_wp2
    go_ret
    exact ⟨by simp [h0, h1], rfl⟩
theorem money_any (n : Int) (w : World) : Calls Tryz.prog 78 #[.int .i64 n] w fun e w' => e = .returned (.bool (decide (0 ≤ n ∧ n ≤ 1125899906842624))) ∧ w' = w := by
  by_cases h0 : 0 ≤ n <;> by_cases h1 : n ≤ 1125899906842624
  all_goals
    go_enter Tryz.func78, Tryz.ntmps78
    go_wp2
    go_ret
    exact ⟨by simp [h0, h1], rfl⟩
def moneyF (n : Int) : Int := if n < 0 ∨ 1125899906842624 < n then 2 else 0
theorem moneyCheck_any (n : Int) (w : World) : Calls Tryz.prog 102 #[.int .i64 n] w fun e w' => e = .returned (errV (moneyF n)) ∧ w' = w := by
  by_cases h0 : n < 0
  · have hf : moneyF n = 2 := by unfold moneyF; rw [if_pos (.inl h0)]
    rw [hf]
    clear hf
    go_enter Tryz.func102, Tryz.ntmps102
    go_wp2
    go_ret
    exact ⟨rfl, rfl⟩
  · by_cases h1 : 1125899906842624 < n
    · have hf : moneyF n = 2 := by unfold moneyF; rw [if_pos (.inr h1)]
      rw [hf]
      clear hf
      go_enter Tryz.func102, Tryz.ntmps102
      go_wp2
      go_ret
      exact ⟨rfl, rfl⟩
    · have hf : moneyF n = 0 := by unfold moneyF; rw [if_neg (by omega)]
      rw [hf]
      clear hf
      go_enter Tryz.func102, Tryz.ntmps102
      go_wp2
      go_ret
      exact ⟨rfl, rfl⟩
end Go.Proofs.YtljcdkfafknnpaaGreatDoor
namespace Go.Proofs.YtljcdkfafknnpaaGreatDoor
set_option linter.unusedVariables false
set_option linter.unusedSimpArgs false
open Go.RowKit
attribute [local go_sem ↓] run_load_agg run_store_agg

def bV (b : Bool) : Value := .bool b
theorem info_bool : (Tryz.prog.info? 4).map (fun i => (i.zero, i.size, i.bytes)) = some (some (.bool false), 1, 1) := by kernel_rfl
def zOp : Array Value := #[.int .i64 0, .int .i64 0, .slice none 0 0]
theorem new_op (w : World) (op n : Int) (so : Option Addr) (dl dcap : Nat) : (rowAt (w.alloc (.cells zOp 151)) w.heap.size 0 3).isSome = true ∧ wrAt (w.alloc (.cells zOp 151)) w.heap.size = true ∧
    plainCells #[.int .i64 op, .int .i64 n, .slice so dl dcap] = true ∧ rowAt (w.alloc (.cells #[.int .i64 op, .int .i64 n, .slice so dl dcap] 151)) w.heap.size 0 3 = some #[.int .i64 op, .int .i64 n, .slice so dl dcap] :=
  ⟨by rw [rowAt_whole (heap_alloc_new w _) 3 rfl]; rfl, wrAt_of_heap (heap_alloc_new w _), rfl, rowAt_whole (heap_alloc_new w _) 3 rfl⟩
/-- The stack of open Ifs, a reslice shorter. -/
theorem own_take {w : World} {base : Nat} {e : TypeId} {sz : Nat} {ao : Option Addr} {n cap : Nat} {xs : List Value} (h : own w base e sz (.slice ao n cap) n xs) (k : Nat) (hk : k ≤ n) : own w base e sz (.slice ao k cap) k (xs.take (k * sz)) := by
  obtain ⟨hl, ao', cap', hv, h1, h2, h3⟩ := h
  cases hv
  have hmul : k * sz ≤ n * sz := Nat.mul_le_mul_right _ hk
  refine ⟨by rw [List.length_take, hl]; omega, _, _, rfl, by omega, h2, ?_⟩
  rcases h3 with h3 | ⟨g, off, cur, rfl, hb, hg, hs, hx⟩
  · exact .inl h3
  · refine .inr ⟨g, off, cur, rfl, hb, hg, hs, ?_⟩
    rw [← hx, List.take_take, Nat.min_eq_left hmul]
/-- A store into an element of one cell. -/
theorem own_set {w : World} {base : Nat} {e : TypeId} {g off n cap : Nat} {xs : List Value} (h : own w base e 1 (.slice (some ⟨g, off, none⟩) n cap) n xs) (j : Nat) (hj : j < n) (u : Value) :
    own (w.setCell ⟨g, off + j, none⟩ u) base e 1 (.slice (some ⟨g, off, none⟩) n cap) n (xs.set j u) := by
  obtain ⟨hl, ao', cap', hv, h1, h2, h3⟩ := h
  cases hv
  refine ⟨by rw [List.length_set]; exact hl, _, _, rfl, h1, h2, ?_⟩
  rcases h3 with h3 | ⟨g', off', cur, e2, hb, hg, hs, hx⟩
  · omega
  · cases e2
    simp only [Nat.mul_one] at hs hx hl
    refine .inr ⟨g, off, cur.setIfInBounds (off + j) u, rfl, hb, heap_setCell_same _ _ _ _ _ _ hg, by simpa using hs, ?_⟩
    simp only [Nat.mul_one, Array.toList_setIfInBounds]
    rw [List.drop_set, if_neg (by omega), List.take_set, hx, show off + j - off = j from by omega]
/-- The cell of an element. -/
theorem own_cell {w : World} {base : Nat} {e : TypeId} {g off n cap : Nat} {xs : List Value} (h : own w base e 1 (.slice (some ⟨g, off, none⟩) n cap) n xs) (j : Nat) (hj : j < n) (u : Value) (hu : xs[j]? = some u) :
    w.cell? ⟨g, off + j, none⟩ = some u ∧ w.frozen? ⟨g, off + j, none⟩ = false ∧ base ≤ g := by
  obtain ⟨hl, ao', cap', hv, h1, h2, h3⟩ := h
  cases hv
  rcases h3 with h3 | ⟨g', off', cur, e2, hb, hg, hs, hx⟩
  · omega
  · cases e2
    simp only [Nat.mul_one] at hs hx hl
    refine ⟨?_, frozen_of_row _ _ _ _ _ hg, hb⟩
    rw [cell_of_row _ _ _ _ _ _ hg]
    rw [← hx, List.getElem?_take, if_pos (by omega), List.getElem?_drop] at hu
    simpa using hu
theorem scan_else_f (st : List Bool) (s : List Int) : scanM (false :: st) (12 :: s) = scanM (true :: st) s := by simp [scanM]
theorem scan_else_t (st : List Bool) (s : List Int) : scanM (true :: st) (12 :: s) = none := by simp [scanM]
theorem scan_end (b : Bool) (st : List Bool) (s : List Int) : scanM (b :: st) (13 :: s) = scanM st s := by simp [scanM]
theorem scan_no (k : Int) (s : List Int) (h : k = 12 ∨ k = 13) : scanM [] (k :: s) = none := by rcases h with rfl | rfl <;> simp [scanM]
theorem pairF_none (os : List OpD) (h : scanM [] (os.map OpD.op) = none) : pairF os = 1 := by unfold pairF; rw [h]; rfl
theorem lockF_one (os : List OpD) (hn : ¬ 60 < os.length) (hz : firstF os = 0) (h : pairF os = 1) : lockF os = 1 := by rw [lockF_pairs os hn hz, h]
theorem errV_ne {c : Int} (h : c ≠ 0) : errV c = .iface 30 (.int .i64 c) := by unfold errV; rw [if_neg h]
theorem errV_0 : errV 0 = .nilIface := rfl
/-- The stack as it lies: the oldest If first. -/
def stV' (st : List Bool) : List Value := st.reverse.map bV
theorem stV'_push (b : Bool) (st : List Bool) : stV' (b :: st) = stV' st ++ [bV b] := by simp [stV']
theorem stV'_len (st : List Bool) : (stV' st).length = st.length := by simp [stV']
theorem stV'_top (b : Bool) (st : List Bool) : (stV' (b :: st))[st.length]? = some (bV b) := by
  rw [stV'_push, List.getElem?_append_right (by rw [stV'_len]; exact Nat.le_refl _), stV'_len, Nat.sub_self]; rfl
theorem stV'_set (b : Bool) (st : List Bool) : (stV' (b :: st)).set st.length (bV true) = stV' (true :: st) := by
  rw [stV'_push, stV'_push, List.set_append_right _ _ (by rw [stV'_len]; exact Nat.le_refl _), stV'_len, Nat.sub_self]; rfl
theorem stV'_pop (b : Bool) (st : List Bool) : (stV' (b :: st)).take st.length = stV' st := by
  rw [stV'_push, List.take_left' (stV'_len st)]
set_option maxHeartbeats 8000000 in
set_option maxRecDepth 100000 in
theorem lockCheck_any (os : List OpD) (ao : Option Addr) (cap : Nat) (w : World) (h : rdSl opR 3 w (.slice ao os.length cap) os) :
    Calls Tryz.prog 103 #[.slice ao os.length cap] w fun e w' => e = .returned (errV (lockF os)) ∧ Below w.heap.size w w' := by
  obtain ⟨_, _, e, hcap, hmax⟩ := sl_bounds h
  cases e
  unfold maxLen at hmax
  have HS := Lib.hid h; clear h
  by_cases hn : 60 < os.length
  · have hf : lockF os = 4 := by unfold lockF; rw [if_pos hn]
    have HF := Lib.hid hf; clear hf
    go_enter Tryz.func103, Tryz.ntmps103
    go_wp2
    go_ret
    exact ⟨by rw [HF.out]; rfl, Below.refl _ _⟩
  have HN := Lib.hid hn
  go_enter Tryz.func103, Tryz.ntmps103
  go_wp2_with fail
  go_loopw [16] (fun c wr => ∃ j : Nat, j ≤ os.length ∧ c = .int .i64 j ∧ Hid (Below w.heap.size w wr) ∧ Hid (firstF os = firstF (os.drop j))) (fun c _ => os.length - (intOf c).toNat)
  case atStart => exact ⟨0, by omega, rfl, Lib.hid (Below.refl _ _), Lib.hid rfl⟩
  case round =>
    obtain ⟨j, hj, rfl, HB, HF⟩ := hrel
    by_cases hlt : j < os.length
    · obtain ⟨g, off, so, dcap, rfl, -, d1, d2, -, hrow⟩ := op_at (opR_stays.slB HS.out HB.out (Nat.le_refl _)) j hlt
      have H1 := Lib.hid (firstF_step os j hlt); have H2 := Lib.hid (firstF_hit os j hlt)
      obtain ⟨op, hop⟩ : ∃ x, os[j].op = x := ⟨_, rfl⟩
      obtain ⟨k, hk⟩ : ∃ x, os[j].n = x := ⟨_, rfl⟩
      obtain ⟨dl, hdl⟩ : ∃ x, os[j].data.length = x := ⟨_, rfl⟩
      rw [hop, hk, hdl] at hrow H1 H2
      rw [hdl] at d1
      clear hop hk hdl
      obtain ⟨n1, n2, n3, n5⟩ := new_op wr op k so dl dcap
      have B0 := Lib.hid (HB.out.alloc HB.out.size (.cells #[.int .i64 op, .int .i64 k, .slice so dl dcap] 151))
      unfold zOp at n1 n2
      go_wp2_with fail
      clear n1 n2 n3 n5
      change Calls _ _ _ (wr.alloc (.cells #[.int .i64 op, .int .i64 k, .slice so dl dcap] 151)) _
      generalize wr.alloc (.cells #[.int .i64 op, .int .i64 k, .slice so dl dcap] 151) = w0 at B0 ⊢
      refine (lockOp_any op k so dl dcap _ d1 d2).mono ?_
      rintro e w1 ⟨rfl, hb1⟩
      have B1 := Lib.hid (B0.out.trans (hb1.mono B0.out.size)); clear hb1
      obtain ⟨c, hc⟩ : ∃ x, opF op k dl = x := ⟨_, rfl⟩
      rw [hc] at H1 H2 ⊢
      by_cases hz : c = 0
      · have hf := HF.out.trans (H1.out hz)
        have HF2 := Lib.hid hf
        subst hz
        clear hf hc
        rw [errV_0]
        go_wp2
        go_roundw
        case rel => exact ⟨j + 1, by omega, by go_num, B1, HF2⟩
        case measure => simp [intOf]; omega
      · have hf := lockF_hit os HN.out c (HF.out.trans (H2.out c rfl hz)) hz
        have HF2 := Lib.hid hf
        rw [errV_ne hz]
        have HZ := Lib.hid hz
        clear hf hc hz
        go_wp2
        go_ret
        exact ⟨by rw [HF2.out, errV_ne HZ.out]; rfl, B1.out⟩
    · have hz : firstF os = 0 := by rw [HF.out, List.drop_eq_nil_of_le (by omega)]; rfl
      have HZ := Lib.hid hz
      obtain ⟨i0, hi0, hz0, hz1, hz2⟩ := info_parts' info_bool
      clear hz
      go_wp2_with fail
      go_loopw [6, 28] (fun v c wq => ∃ (i : Nat) (st : List Bool), i ≤ os.length ∧ c = .int .i64 i ∧ Hid (own wq w.heap.size 4 1 v st.length (stV' st)) ∧ st.length ≤ i ∧ Hid (Below w.heap.size w wq) ∧ Hid (scanM [] (os.map OpD.op) = scanM st ((os.map OpD.op).drop i))) (fun _ c _ => os.length - (intOf c).toNat)
      case atStart => exact ⟨0, [], by omega, rfl, Lib.hid (own_nil _ _ _ _), by simp, HB, Lib.hid rfl⟩
      case round =>
        obtain ⟨i, st, hi, rfl, HO, hst, HBq, HSC⟩ := hrel
        have ho' := HO.out
        obtain ⟨-, oo, ocap, rfl, o1, o2, -⟩ := ho'
        unfold maxLen at o2
        by_cases hlt2 : i < os.length
        · obtain ⟨g, off, so, dcap, rfl, -, d1, d2, -, hrow⟩ := op_at (opR_stays.slB HS.out HBq.out (Nat.le_refl _)) i hlt2
          have hks := kinds_cons os i hlt2
          obtain ⟨op, hop⟩ : ∃ x, os[i].op = x := ⟨_, rfl⟩
          obtain ⟨k, hk⟩ : ∃ x, os[i].n = x := ⟨_, rfl⟩
          obtain ⟨dl, hdl⟩ : ∃ x, os[i].data.length = x := ⟨_, rfl⟩
          rw [hop, hk, hdl] at hrow
          rw [hop] at hks
          rw [hdl] at d1
          have HK := Lib.hid hks
          clear hop hk hdl hks
          obtain ⟨n1, n2, n3, n5⟩ := new_op wr op k so dl dcap
          have B0 := Lib.hid (HBq.out.alloc HBq.out.size (.cells #[.int .i64 op, .int .i64 k, .slice so dl dcap] 151))
          have HO1 := Lib.hid (own_alloc HO.out (.cells #[.int .i64 op, .int .i64 k, .slice so dl dcap] 151))
          unfold zOp at n1 n2
          by_cases h11 : op = 11
          · have hsc := HSC.out
            rw [HK.out, scan_if _ _ _ h11] at hsc
            have HSC2 := Lib.hid hsc
            subst h11
            clear hsc
            have HN2 := Lib.hid (rd_new1 (wr.alloc (.cells #[.int .i64 11, .int .i64 k, .slice so dl dcap] 151)) (bV false) 4 (wr.heap.size + 1) (by simp))
            have HO2 := Lib.hid (own_alloc HO1.out (.cells #[bV false] 4))
            have B2 := Lib.hid (B0.out.alloc B0.out.size (.cells #[bV false] 4))
            go_wp2_with (at_builtin; refine wpList_append_rd rfl (.tmp 42) (.tmp 43) 190 rfl 4 i0 (.bool false) 1 1 Tryz.underlying190 hi0 hz0 hz1 hz2 rfl (by decide) w.heap.size st.length _ HO2.out 1 [bV false] ?c1 HN2.out ?c5 ?c2 ?c3 ?c4 ?_)
            case c1 => rfl
            case c5 => intro u hu; rw [List.mem_singleton.1 hu]; rfl
            case c2 => unfold maxLen; omega
            case c3 => omega
            case c4 => exact B2.out.size
            intro v1 w2 ho1 _ hg1
            have B3 := Lib.hid (B2.out.grown hg1 B2.out.size (fun q hq => (own_lt HO2.out hq).1))
            have HO3 := Lib.hid ho1; clear ho1 hg1
            go_wp2_with fail
            go_roundw
            case rel => exact ⟨i + 1, false :: st, by omega, by go_num, Lib.hid (by rw [stV'_push]; exact HO3.out), by simp; omega, B3, HSC2⟩
            case measure => simp [intOf]; omega
          · have q11 : (op == 11) = false := beq_false_of_ne h11
            by_cases h23 : op = 12 ∨ op = 13
            · have HPN := Lib.hid (lockF_one os HN.out HZ.out)
              cases st with
              | nil =>
                have hsc := HSC.out
                rw [HK.out, scan_no op _ h23] at hsc
                have HF2 := Lib.hid (HPN.out (pairF_none os hsc))
                clear hsc
                rcases h23 with h | h
                all_goals
                  subst h
                  go_wp2
                  go_ret
                  exact ⟨by rw [HF2.out]; rfl, B0.out⟩
              | cons b st =>
                obtain ⟨L, hL⟩ : ∃ L, st.length = L := ⟨_, rfl⟩
                have hbl : (b :: st).length = L + 1 := by simp [hL]
                rw [hbl] at hst o1 HO HO1 ⊢
                have hor := own_rd HO.out
                obtain ⟨_, _, e1, -, -, e3⟩ := hor
                cases e1
                rcases e3 with e3 | ⟨og, ooff, rfl, -⟩
                · rw [stV'_push] at e3; simp at e3
                have htop := stV'_top b st
                have hset := stV'_set b st
                have hpop := stV'_pop b st
                rw [hL] at htop hset hpop
                obtain ⟨oc1, oc2, oc3⟩ := own_cell HO1.out L (by omega) (bV b) htop
                have HL := Lib.hid hL; have HST := Lib.hid hset; have HPP := Lib.hid hpop
                have hLi : ((L + 1 : Nat) : Int) - 1 = (L : Int) := by omega
                clear htop hset hpop hL
                by_cases h12 : op = 12
                · subst h12
                  have hsc := HSC.out
                  rw [HK.out] at hsc
                  cases b
                  · rw [scan_else_f] at hsc
                    have HSC2 := Lib.hid hsc
                    clear hsc h23
                    unfold bV at oc1
                    go_wp2_with fail
                    go_roundw
                    case rel => exact ⟨i + 1, true :: st, by omega, by go_num, Lib.hid (by
                      have e := own_set HO1.out L (by omega) (bV true)
                      rw [HST.out] at e
                      simpa [HL.out, bV] using e), by simp [HL.out]; omega, Lib.hid (B0.out.setCell oc3 _), HSC2⟩
                    case measure => simp [intOf]; omega
                  · rw [scan_else_t] at hsc
                    have HF2 := Lib.hid (HPN.out (pairF_none os hsc))
                    clear hsc h23
                    unfold bV at oc1
                    go_wp2
                    go_ret
                    exact ⟨by rw [HF2.out]; rfl, B0.out⟩
                · have h13 : op = 13 := by rcases h23 with h | h; exact absurd h h12; exact h
                  subst h13
                  have hsc := HSC.out
                  rw [HK.out, scan_end] at hsc
                  have HSC2 := Lib.hid hsc
                  clear hsc h23 h12
                  go_wp2_with fail
                  go_roundw
                  case rel => exact ⟨i + 1, st, by omega, by go_num, Lib.hid (by
                    have e := own_take HO1.out L (by omega)
                    rw [Nat.mul_one, HPP.out] at e
                    simpa [HL.out] using e), by rw [HL.out]; omega, B0, HSC2⟩
                  case measure => simp [intOf]; omega
            · have hsc := HSC.out
              rw [HK.out, scan_other _ _ _ h11 h23] at hsc
              have HSC2 := Lib.hid hsc
              have q12 : (op != 12) = true := by rw [bne_iff_ne]; omega
              have q13 : (op != 13) = true := by rw [bne_iff_ne]; omega
              clear hsc h23
              go_wp2
              go_roundw
              case rel => exact ⟨i + 1, st, by omega, by go_num, HO1, by omega, B0, HSC2⟩
              case measure => simp [intOf]; omega
        · have hsc := HSC.out
          rw [List.drop_eq_nil_of_le (by simp; omega)] at hsc
          cases st with
          | nil =>
            have hp : pairF os = 0 := by unfold pairF; rw [hsc]; rfl
            have HF2 := Lib.hid (show lockF os = 0 by rw [lockF_pairs os HN.out HZ.out, hp])
            clear hp hsc
            go_wp2
            go_ret
            exact ⟨by rw [HF2.out]; rfl, HBq.out⟩
          | cons b st =>
            have hp : pairF os = 1 := by unfold pairF; rw [hsc]; rfl
            have HF2 := Lib.hid (lockF_one os HN.out HZ.out hp)
            clear hp hsc
            have hpos : 0 < (b :: st).length := by simp
            go_wp2
            go_ret
            exact ⟨by rw [HF2.out]; rfl, HBq.out⟩
end Go.Proofs.YtljcdkfafknnpaaGreatDoor
namespace Go.Proofs.YtljcdkfafknnpaaGreatDoor
set_option linter.unusedVariables false
set_option linter.unusedSimpArgs false
open Go.RowKit
attribute [local go_sem ↓] run_load_agg run_store_agg run_load_any

set_option maxHeartbeats 1000000 in
set_option maxRecDepth 100000 in
theorem clone_any (b : List UInt8) (ao : Option Addr) (n cap : Nat) (w : World) (h : rd w (.slice ao n cap) n (b.map vB)) (hl : b.length = n) (hn : n ≤ 140737488351232) :
    Calls Tryz.prog 127 #[.slice ao n cap] w fun e w' => ∃ v, e = .returned v ∧ own w' w.heap.size 5 1 v n (b.map vB) ∧ Below w.heap.size w w' := by
  obtain ⟨i0, hi0, hz0, hz1, hz2⟩ := info_parts' info_u8
  have h' := h
  obtain ⟨_, _, e, k1, k2, h3⟩ := h'
  cases e
  unfold maxLen at k2
  have HR := Lib.hid h; have HL := Lib.hid hl
  cases ao with
  | none =>
    have hb : b = [] := by
      rcases h3 with h3 | ⟨g, off, h4, -⟩
      · simpa using h3
      · cases h4
    have hn0 : n = 0 := by rw [← hl, hb]; rfl
    subst hb
    subst hn0
    clear h h3 HR HL hl
    have hq := fun (w : World) => Lib.run_eql_slice_nil (P := Tryz.prog) w 26 5 none 0 cap 0 0 Tryz.underlying26
    go_enter Tryz.func127, Tryz.ntmps127
    go_wp2
    go_ret
    exact ⟨_, rfl, own_nil _ _ _ _, Below.refl _ _⟩
  | some a =>
    clear h h3 hl
    have hq := fun (w : World) => Lib.run_eql_slice_nil (P := Tryz.prog) w 26 5 (some a) n cap 0 0 Tryz.underlying26
    have B0 := Lib.hid ((Below.refl w.heap.size w).alloc (Nat.le_refl _) (.cells #[] 5))
    have HR0 := Lib.hid (rd_belowB HR.out B0.out (Nat.le_refl _))
    go_enter Tryz.func127, Tryz.ntmps127
    go_wp2_with (at_builtin; refine wpList_append_rd rfl (.tmp 5) (.tmp 6) 26 rfl 5 i0 (.int .u8 0) 1 1 Tryz.underlying26 hi0 hz0 hz1 hz2 rfl (by decide) w.heap.size 0 [] (own_empty _ _ _ _ _) n (b.map vB) ?c1 HR0.out (vB_plain _) ?c2 ?c3 ?c4 ?_)
    case c1 => have := HL.out; simp [this]
    case c2 => unfold maxLen; omega
    case c3 => omega
    case c4 => exact B0.out.size
    intro v1 w1 ho1 _ hg1
    have B1 := Lib.hid (B0.out.grown hg1 B0.out.size (fun q hq => by cases hq))
    have ho2 : own w1 w.heap.size 5 1 v1 n (b.map vB) := by simpa using ho1
    have HO := Lib.hid ho2
    clear ho1 ho2 hg1
    go_wp2
    go_ret
    exact ⟨_, rfl, HO.out, B1.out⟩
/-- What a copy of fits. -/
def FitO (o : OpD) : Prop := o.data.length ≤ 140737488351232
def FitC (c : CoinD) : Prop := c.lock.length ≤ 3518437208780 ∧ ∀ o ∈ c.lock, FitO o
/-- An op whose data is of the call's own. -/
def opO (base : Nat) : Rd OpD := fun w o cs => ∃ s, cs = [.int .i64 o.op, .int .i64 o.n, s] ∧ own w base 5 1 s o.data.length (o.data.map vB)
theorem opO_grown {w w' : World} {base base2 sz n : Nat} {e : TypeId} {v : Value} {xs : List Value} (hv : own w base2 e sz v n xs) (he : e ≠ 5) (hg : w.grownBy w' (wrow v)) {o : OpD} {cs : List Value} (h : opO base w o cs) : opO base w' o cs := by
  obtain ⟨s, h1, h2⟩ := h
  refine ⟨s, h1, own_kept h2 fun k hk _ hlt => ?_⟩
  obtain ⟨_, _, c, hc⟩ := own_lt h2 hk
  exact hg.block k hlt (fun e2 => own_ne hv hc he e2.symm)
theorem opO_below {w w' : World} {base : Nat} (hb : Below w.heap.size w w') {o : OpD} {cs : List Value} (h : opO base w o cs) : opO base w' o cs := by
  obtain ⟨s, h1, h2⟩ := h
  exact ⟨s, h1, own_below hb h2 (Nat.le_refl _)⟩
theorem opO_alloc {w : World} {base : Nat} (ob : Obj) {o : OpD} {cs : List Value} (h : opO base w o cs) : opO base (w.alloc ob) o cs := by
  obtain ⟨s, h1, h2⟩ := h
  exact ⟨s, h1, own_alloc h2 ob⟩
theorem opO_rd {w : World} {base : Nat} {o : OpD} {cs : List Value} (h : opO base w o cs) : opR w o cs := by
  obtain ⟨s, h1, h2⟩ := h
  exact ⟨s, h1, own_rd h2⟩
theorem rdEach_map {α : Type} {R S : Rd α} {sz : Nat} {w w' : World} {zs : List α} {xs : List Value} (h : rdEach R sz w zs xs) (hm : ∀ a cs, R w a cs → S w' a cs) : rdEach S sz w' zs xs := ⟨h.1, fun j a ha => hm a _ (h.2 j a ha)⟩
theorem fill_one (d Z : Array Value) (n : Nat) (hd : d.size = n) (hZ : Z.size = n) : Instr.fill (fun i => some (i * n, n)) Z [(0, .agg d)] = some d := by
  simp only [Instr.fill, Value.cells, hd, Nat.zero_mul]
  rw [← Array.foldl_toList, Array.toList_zipIdx]
  have f1 := fold_set d.toList 0 0 Z (by simp; omega)
  simp only [Nat.zero_add] at f1 ⊢
  rw [f1, if_neg (by simp; omega)]
  congr 1
  apply Array.ext'
  simp only [List.take_zero, List.nil_append]
  rw [List.drop_eq_nil_of_le (by simp; omega), List.append_nil]
theorem info_op : (Tryz.prog.info? 151).map (fun i => (i.zero, i.size, i.bytes)) = some (some (.agg zOp), 3, 40) := by kernel_rfl
theorem run_buildSlice_op (d : Array Value) (hd : d.size = 3) (w : World) :
    (Instr.buildSlice 101 1 #[(0, .agg d)]).run Tryz.prog w = .ok (.slice (some ⟨w.heap.size, 0, none⟩) 1 1) (w.alloc (.cells d 151)) := by
  obtain ⟨i, hi, hz, hs, -⟩ := info_parts' info_op
  have hf := fun (f : Nat → Value) => fill_one d ((Array.range 3).map f) 3 hd (by simp)
  simp [Instr.buildSlice, run_underlying Tryz.underlying101, sizeOf, typeInfo, zeroValue, hi, hz, hs, hf, newRow, Value.cells]
theorem run_build_op (ev : Operand → Value) (w : World) (dst : Option Tmp) (x : Operand) (type : TypeId) (pos : String) (after : Array Edge) (guard : Option (Nat × Bool))
    (hx : isAggV (ev x) = true) (hsx : (aggCells (ev x)).size = 3) :
    (execOp ev ⟨dst, .buildSlice 101 1 #[(0, x)], type, pos, after, guard⟩).run Tryz.prog w = .ok (.value (.slice (some ⟨w.heap.size, 0, none⟩) 1 1)) (w.alloc (.cells (aggCells (ev x)) 151)) := by
  unfold isAggV at hx
  split at hx
  · rename_i d hd
    rw [hd] at hsx ⊢
    simp only [aggCells] at hsx ⊢
    have := run_buildSlice_op d hsx w
    simp only [execOp, List.map_toArray, List.map_cons, List.map_nil, hd, Sem.run_bind, this]
    rfl
  · cases hx
theorem rd_new_row (w : World) (cs : Array Value) (t : TypeId) (g : Nat) (hg : g = w.heap.size) : rd (w.alloc (.cells cs t)) (.slice (some ⟨g, 0, none⟩) 1 1) 1 cs.toList := by
  subst hg
  refine ⟨_, 1, rfl, Nat.le_refl _, by unfold maxLen; omega, .inr ⟨w.heap.size, 0, rfl, fun j u hj => ?_⟩⟩
  rw [Nat.zero_add, cell_of_row _ _ _ _ _ _ (heap_alloc_new w _)]
  simpa using hj
theorem lockF_small (os : List OpD) (h : lockF os = 0) : os.length ≤ 60 ∧ ∀ o ∈ os, o.data.length ≤ 300 := by
  unfold lockF at h
  split at h
  · cases h
  · rename_i hn
    refine ⟨by omega, ?_⟩
    split at h
    · rename_i hf
      clear h hn
      induction os with
      | nil => intro o ho; cases ho
      | cons a os ih =>
        unfold firstF at hf
        split at hf
        · rename_i ha
          intro o ho
          rcases List.mem_cons.1 ho with rfl | ho
          · unfold opF at ha
            split at ha
            · cases ha
            · split at ha
              · cases ha
              · omega
          · exact ih hf o ho
        · rename_i ha; exact absurd hf ha
    · rename_i hf; exact absurd h hf
theorem opO_setCell {w : World} {base G k : Nat} {c : Array Value} {fr : Nat × Nat} {t : TypeId} (ht : 5 ≠ t) (hg : w.heap[G]? = some (.cells c t fr)) (u : Value) {o : OpD} {cs : List Value} (h : opO base w o cs) : opO base (w.setCell ⟨G, k, none⟩ u) o cs := by
  obtain ⟨s, h1, h2⟩ := h
  exact ⟨s, h1, own_setCell h2 _ _ (own_ne h2 hg ht)⟩
attribute [local go_sem ↓] run_build_op
def CopiedPost (os : List OpD) (w : World) (e : Ending) (w' : World) : Prop :=
  ∃ v xs, e = .returned v ∧ own w' w.heap.size 151 3 v os.length xs ∧ rdEach (opO w.heap.size) 3 w' os xs ∧ Below w.heap.size w w'
theorem copiedPost_mk {os : List OpD} {w w' : World} {e : Ending} (v : Value) (xs : List Value) (he : e = .returned v) (h1 : own w' w.heap.size 151 3 v os.length xs) (h2 : rdEach (opO w.heap.size) 3 w' os xs) (h3 : Below w.heap.size w w') : CopiedPost os w e w' := ⟨v, xs, he, h1, h2, h3⟩
set_option maxHeartbeats 4000000 in
set_option maxRecDepth 100000 in
theorem copied_any (os : List OpD) (ao : Option Addr) (cap : Nat) (w : World) (h : rdSl opR 3 w (.slice ao os.length cap) os) (hn : os.length ≤ 3518437208780) (hd : ∀ o ∈ os, FitO o) :
    Calls Tryz.prog 96 #[.slice ao os.length cap] w (CopiedPost os w) := by
  obtain ⟨_, _, e, hcap, hmax⟩ := sl_bounds h
  cases e
  unfold maxLen at hmax
  have HS := Lib.hid h; have HD := Lib.hid hd
  clear h hd
  obtain ⟨i0, hi0, hz0, hz1, hz2⟩ := info_parts' info_op
  go_enter Tryz.func96, Tryz.ntmps96
  go_wp2_with fail
  go_loopw [3, 8] (fun v c wr => ∃ (j : Nat) (xs : List Value), j ≤ os.length ∧ c = .int .i64 j ∧ Hid (own wr w.heap.size 151 3 v j xs) ∧ Hid (rdEach (opO w.heap.size) 3 wr (os.take j) xs) ∧ Hid (Below w.heap.size w wr)) (fun _ c _ => os.length - (intOf c).toNat)
  case atStart => exact ⟨0, [], by omega, rfl, Lib.hid (own_nil _ _ _ _), Lib.hid (rdEach_nil _ _ _), Lib.hid (Below.refl _ _)⟩
  case round =>
    obtain ⟨j, xs, hj, rfl, HO, HE, HB⟩ := hrel
    have ho' := HO.out
    obtain ⟨-, oo, ocap, rfl, o1, o2, -⟩ := ho'
    unfold maxLen at o2
    by_cases hlt : j < os.length
    · obtain ⟨g, off, so, dcap, rfl, -, d1, d2, hdat, hrow⟩ := op_at (opR_stays.slB HS.out HB.out (Nat.le_refl _)) j hlt
      have hd3 : os[j].data.length ≤ 140737488351232 := HD.out os[j] (List.getElem_mem _)
      have htk : os.take (j + 1) = os.take j ++ [os[j]] := List.take_succ_eq_append_getElem hlt
      obtain ⟨o, ho⟩ : ∃ o, os[j] = o := ⟨_, rfl⟩
      rw [ho] at d1 hdat hrow hd3 htk
      have HTK := Lib.hid htk
      obtain ⟨n1, n2, n3, n5⟩ := new_op wr o.op o.n so o.data.length dcap
      have B0 := Lib.hid (HB.out.alloc HB.out.size (.cells #[.int .i64 o.op, .int .i64 o.n, .slice so o.data.length dcap] 151))
      have HG0 := Lib.hid (heap_alloc_new wr (.cells #[.int .i64 o.op, .int .i64 o.n, .slice so o.data.length dcap] 151))
      have HO0 := Lib.hid (own_alloc HO.out (.cells #[.int .i64 o.op, .int .i64 o.n, .slice so o.data.length dcap] 151))
      have HE0 := Lib.hid (rdEach_map HE.out (fun a cs ha => opO_alloc (.cells #[.int .i64 o.op, .int .i64 o.n, .slice so o.data.length dcap] 151) ha))
      have HD0 := Lib.hid (rd_alloc hdat (.cells #[.int .i64 o.op, .int .i64 o.n, .slice so o.data.length dcap] 151))
      have hsz0 : (wr.alloc (.cells #[.int .i64 o.op, .int .i64 o.n, .slice so o.data.length dcap] 151)).heap.size = wr.heap.size + 1 := by simp
      have hG := HB.out.size
      clear ho htk hdat
      unfold zOp at n1 n2
      go_wp2_with fail
      clear n1 n2 n3 n5
      change Calls _ _ _ (wr.alloc (.cells #[.int .i64 o.op, .int .i64 o.n, .slice so o.data.length dcap] 151)) _
      obtain ⟨G, hGe⟩ : ∃ G, wr.heap.size = G := ⟨_, rfl⟩
      have hOG : ∀ k, wrow (.slice oo j ocap) = some k → k < G := fun k hk => by have := (own_lt HO.out hk).2.1; omega
      have HOG := Lib.hid hOG
      clear hOG
      rw [hGe] at HG0 hsz0 hG ⊢
      generalize wr.alloc (.cells #[.int .i64 o.op, .int .i64 o.n, .slice so o.data.length dcap] 151) = w0 at B0 HG0 HO0 HE0 HD0 hsz0 ⊢
      clear hrow
      refine (clone_any o.data so o.data.length dcap w0 HD0.out rfl (by omega)).mono ?_
      rintro e w1 ⟨sv, rfl, hos, hb1⟩
      have hos' := hos
      obtain ⟨-, sa, scap, rfl, s1, s2, -⟩ := hos'
      unfold maxLen at s2
      have hzb := hb1.size
      have HG1 : Hid (w1.heap[G]? = some (.cells #[.int .i64 o.op, .int .i64 o.n, .slice so o.data.length dcap] 151 (0, 0))) := (hb1.block _ (by omega)).trans HG0.out
      have hG2 : w1.cell? ⟨G, 2, none⟩ = some (.slice so o.data.length dcap) := by rw [cell_of_row _ _ _ _ _ _ HG1.out]; rfl
      have hF2 : w1.frozen? ⟨G, 2, none⟩ = false := frozen_of_row _ _ _ _ _ HG1.out
      have B1 := Lib.hid (B0.out.trans (hb1.mono B0.out.size))
      have HO1 := Lib.hid (own_below hb1 HO0.out (Nat.le_refl _))
      have HE1 := Lib.hid (rdEach_map HE0.out (fun a cs ha => opO_below hb1 ha))
      have HOS := Lib.hid hos
      have hsne : Hid (wrow (.slice sa o.data.length scap) ≠ some G) := fun hk => by have := (own_lt HOS.out hk).1; omega
      have hone : Hid (wrow (.slice oo j ocap) ≠ some G) := fun hk => by have := HOG.out G hk; omega
      have HG3 : Hid ((w1.setCell ⟨G, 2, none⟩ (.slice sa o.data.length scap)).heap[G]? = some (.cells #[.int .i64 o.op, .int .i64 o.n, .slice sa o.data.length scap] 151 (0, 0))) := heap_setCell_same _ _ _ _ _ _ HG1.out
      have HO2 := Lib.hid (own_setCell HO1.out ⟨G, 2, none⟩ (.slice sa o.data.length scap) hone.out)
      have HE2 := Lib.hid (rdEach_map HE1.out (fun a cs ha => opO_setCell (k := 2) (by decide) HG1.out (.slice sa o.data.length scap) ha))
      have HOS2 := Lib.hid (own_setCell HOS.out ⟨G, 2, none⟩ (.slice sa o.data.length scap) hsne.out)
      have B2 : Hid (Below w.heap.size w (w1.setCell ⟨G, 2, none⟩ (.slice sa o.data.length scap))) := B1.out.setCell (by show w.heap.size ≤ G; exact hG) _
      clear hb1 hos
      go_upto_region 6 with fail
      change Code.wp _ _ _ _ (w1.setCell ⟨G, 2, none⟩ (.slice sa o.data.length scap))
      generalize w1.setCell ⟨G, 2, none⟩ (.slice sa o.data.length scap) = w2 at HG3 HO2 HE2 HOS2 B2 ⊢
      clear hG2 hF2
      have r3 : rowAt w2 G 0 3 = some #[.int .i64 o.op, .int .i64 o.n, .slice sa o.data.length scap] := rowAt_whole HG3.out 3 rfl
      have B3 := Lib.hid (B2.out.alloc B2.out.size (.cells #[.int .i64 o.op, .int .i64 o.n, .slice sa o.data.length scap] 151))
      have HO3 := Lib.hid (own_alloc HO2.out (.cells #[.int .i64 o.op, .int .i64 o.n, .slice sa o.data.length scap] 151))
      have HE3 := Lib.hid (rdEach_map HE2.out (fun a cs ha => opO_alloc (.cells #[.int .i64 o.op, .int .i64 o.n, .slice sa o.data.length scap] 151) ha))
      have HOS3 := Lib.hid (own_alloc HOS2.out (.cells #[.int .i64 o.op, .int .i64 o.n, .slice sa o.data.length scap] 151))
      have HN3 := Lib.hid (rd_new_row w2 #[.int .i64 o.op, .int .i64 o.n, .slice sa o.data.length scap] 151 _ rfl)
      go_wp2_with (at_builtin; refine wpList_append_rd rfl (.tmp 16) (.tmp 18) 101 rfl 151 i0 (.agg zOp) 3 40 Tryz.underlying101 hi0 hz0 hz1 hz2 rfl (by decide) w.heap.size j _ HO3.out 1 _ ?c1 HN3.out ?c5 ?c2 ?c3 ?c4 ?_)
      case c2 => unfold maxLen; omega
      case c3 => omega
      case c4 => have := B3.out.size; simpa using this
      intro v1 w4 ho1 hold hg1
      have B4 := Lib.hid (B3.out.grown hg1 B3.out.size (fun q hq => (own_lt HO3.out hq).1))
      have HO4 := Lib.hid ho1
      have HE4 := Lib.hid (rdEach_map HE3.out (fun a cs ha => opO_grown (w' := w4) HO3.out (by decide) hg1 ha))
      have hnew : opO w.heap.size w4 o [.int .i64 o.op, .int .i64 o.n, .slice sa o.data.length scap] :=
        opO_grown HO3.out (by decide) hg1 ⟨_, rfl, own_base HOS3.out (by omega)⟩
      have HE5 := Lib.hid (rdEach_snoc HE4.out rfl hnew)
      clear ho1 hold hg1 hnew
      go_wp2_with fail
      go_roundw
      case rel => exact ⟨j + 1, _, by omega, by go_num, HO4, Lib.hid (by rw [HTK.out]; exact HE5.out), B4⟩
      case measure => simp [intOf]; omega
    · have HTK := Lib.hid (List.take_of_length_le (show os.length ≤ j by omega))
      have hj2 : j = os.length := by omega
      have HJ := Lib.hid hj2
      clear hj2
      go_wp2
      go_ret
      exact copiedPost_mk _ xs rfl (by rw [← HJ.out]; exact HO.out) (by have := HE.out; rw [HTK.out] at this; exact this) HB.out
end Go.Proofs.YtljcdkfafknnpaaGreatDoor
namespace Go.Proofs.YtljcdkfafknnpaaGreatDoor
set_option linter.unusedVariables false
set_option linter.unusedSimpArgs false
open Go.RowKit
attribute [local go_sem ↓] run_load_agg run_store_agg run_load_any

theorem run_eqItems_digD (d : Nat) (a b : List UInt8) (ha : a.length = 32) (hb : b.length = 32) (w : World) : (Op.equalIn (d + 2) 23 (.agg (dgV a)) (.agg (dgV b))).run Tryz.prog w = .ok (decide (a = b)) w := by
  obtain ⟨i, hi, -, hs, -⟩ := info_parts' info_u8
  rw [run_equalIn_array w (d + 1) (dgV a) (dgV b) Tryz.underlying23 hi]
  have hc : Tryz.prog.cellsOf 5 = 1 := by kernel_rfl
  rw [hc, List.range_eq_range']
  simpa using run_eqItems_dig d a b ha hb w 32 0 rfl
/-- Are two places one? -/
def plE (p q : PlaceD) : Bool := decide (p.tx = q.tx) && decide (p.ix = q.ix)
theorem fields_place : Tryz.prog.fieldsOf 97 = #[{ name := "Tx", type := 23, offset := 0, embedded := false, tag := "", pkgPath := "", byteOffset := 0 }, { name := "At", type := 3, offset := 32, embedded := false, tag := "", pkgPath := "", byteOffset := 32 }] := by kernel_rfl
theorem held_place : Tryz.prog.stoodInHeld 97 = false := by kernel_rfl
theorem und_place : Tryz.prog.underlying 97 = some (.struct (Tryz.prog.fieldsOf 97)) := by kernel_rfl
theorem plV_dig (p : PlaceD) (h : p.tx.length = 32) : (plV p).extract 0 32 = dgV p.tx := by
  have hz : (dgV p.tx).size = 32 := by rw [dgV_size, h]
  apply Array.ext
  · simp [plV, hz]
  · intro i h1 h2
    simp only [Array.getElem_extract, Nat.zero_add, plV]
    rw [Array.getElem_append_left h2]
theorem run_part_tx (p : PlaceD) (h : p.tx.length = 32) (w : World) : (part 23 (plV p) 0).run Tryz.prog w = .ok (.agg (dgV p.tx)) w := by
  obtain ⟨h1, h2⟩ := run_isAgg (P := Tryz.prog) agg_digest w
  simp [part, Sem.run_bind, h1, h2, cells_digest, plV_dig p h]
theorem run_part_ix (p : PlaceD) (h : p.tx.length = 32) (w : World) : (part 3 (plV p) 32).run Tryz.prog w = .ok (.int .i64 p.ix) w := by
  have := plV_ix p h
  simp [part, isAgg, run_underlying Tryz.underlying3, this]
theorem eqFields_two {P : Program} (D : Nat) (xs ys : Array Value) (f0 f1 : Field) (n0 : f0.name ≠ "_") (n1 : f1.name ≠ "_") (a0 b0 a1 b1 : Value) (r0 r1 : Bool) (w : World)
    (pa0 : (part f0.type xs f0.offset).run P w = .ok a0 w) (pb0 : (part f0.type ys f0.offset).run P w = .ok b0 w) (e0 : (Op.equalIn D f0.type a0 b0).run P w = .ok r0 w)
    (pa1 : (part f1.type xs f1.offset).run P w = .ok a1 w) (pb1 : (part f1.type ys f1.offset).run P w = .ok b1 w) (e1 : (Op.equalIn D f1.type a1 b1).run P w = .ok r1 w) :
    (Op.eqFields D xs ys [f0, f1]).run P w = .ok (r0 && r1) w := by
  cases r0 <;> cases r1 <;> simp [Op.eqFields, n0, n1, Sem.run_bind, pa0, pb0, e0, pa1, pb1, e1]
theorem fields_place' : (Tryz.prog.fieldsOf 97).toList = [{ name := "Tx", type := 23, offset := 0, embedded := false, tag := "", pkgPath := "", byteOffset := 0 }, { name := "At", type := 3, offset := 32, embedded := false, tag := "", pkgPath := "", byteOffset := 32 }] := by rw [fields_place]
theorem run_eql_placeD (d : Nat) (p q : PlaceD) (hp : p.tx.length = 32) (hq : q.tx.length = 32) (w : World) : (Op.equalIn (d + 3) 97 (.agg (plV p)) (.agg (plV q))).run Tryz.prog w = .ok (plE p q) w := by
  have h1 := run_eqItems_digD d p.tx q.tx hp hq w
  have h2 : (Op.equalIn (d + 2) 3 (.int .i64 p.ix) (.int .i64 q.ix)).run Tryz.prog w = .ok (p.ix == q.ix) w := run_equalIn_int (P := Tryz.prog) w (d + 1) 3 .i64 .i64 p.ix q.ix Tryz.underlying3
  have h3 := eqFields_two (P := Tryz.prog) (d + 2) (plV p) (plV q) { name := "Tx", type := 23, offset := 0, embedded := false, tag := "", pkgPath := "", byteOffset := 0 } { name := "At", type := 3, offset := 32, embedded := false, tag := "", pkgPath := "", byteOffset := 32 } (by decide) (by decide) _ _ _ _ _ _ w
    (run_part_tx p hp w) (run_part_tx q hq w) h1 (run_part_ix p hp w) (run_part_ix q hq w) h2
  exact (run_equalIn_struct (P := Tryz.prog) w (d + 2) 97 (plV p) (plV q) und_place held_place).trans ((congrArg (fun l => (Op.eqFields (d + 2) (plV p) (plV q) l).run Tryz.prog w) fields_place').trans h3)
theorem run_eql_place (p q : PlaceD) (hp : p.tx.length = 32) (hq : q.tx.length = 32) (w : World) : (Op.equalIn 10000 97 (.agg (plV p)) (.agg (plV q))).run Tryz.prog w = .ok (plE p q) w :=
  run_eql_placeD 9997 p q hp hq w
/-- The first coin at a place. -/
def atF (p : PlaceD) : List CoinD → Nat → Int
  | [], _ => -1
  | c :: cs, j => if plE c.place p = true then (j : Int) else atF p cs (j + 1)
theorem atF_hit (p : PlaceD) (cs : List CoinD) (j : Nat) (hj : j < cs.length) (h : plE cs[j].place p = true) (k : Nat) : atF p (cs.drop j) k = k := by
  rw [List.drop_eq_getElem_cons hj, atF, if_pos h]
theorem atF_step (p : PlaceD) (cs : List CoinD) (j : Nat) (hj : j < cs.length) (h : plE cs[j].place p = false) (k : Nat) : atF p (cs.drop j) k = atF p (cs.drop (j + 1)) (k + 1) := by
  rw [List.drop_eq_getElem_cons hj, atF, if_neg (by rw [h]; decide)]
set_option maxHeartbeats 2000000 in
set_option maxRecDepth 100000 in
theorem coinAt_any (cs : List CoinD) (ao : Option Addr) (cap : Nat) (p : PlaceD) (hp : p.tx.length = 32) (w : World) (h : rdSl coinR 36 w (.slice ao cs.length cap) cs) :
    Calls Tryz.prog 50 #[.slice ao cs.length cap, .agg (plV p)] w fun e w' => e = .returned (.int .i64 (atF p cs 0)) ∧ Below w.heap.size w w' := by
  obtain ⟨_, _, e, hcap, hmax⟩ := sl_bounds h
  cases e
  unfold maxLen at hmax
  have HS := Lib.hid h; clear h
  have hsp : (plV p).size = 33 := plV_size p hp
  have hpp := plV_plain p
  have hb0 : Hid (Below w.heap.size w (w.alloc (.cells (plV p) 97))) := (Below.refl _ _).alloc (Nat.le_refl _) _
  have hr0 : Hid (rowAt (w.alloc (.cells (plV p) 97)) w.heap.size 0 33 = some (plV p)) := rowAt_whole (heap_alloc_new w (.cells (plV p) 97)) 33 hsp.symm
  have HW := Lib.hid (rowAt_lt hr0.out)
  go_enter Tryz.func50, Tryz.ntmps50
  go_wp2_with fail
  change Code.wp _ _ _ _ (w.alloc (.cells (plV p) 97))
  generalize w.alloc (.cells (plV p) 97) = wa at hb0 hr0 HW ⊢
  go_loopw [5] (fun c wr => ∃ j : Nat, j ≤ cs.length ∧ c = .int .i64 j ∧ Hid (Below w.heap.size w wr) ∧ Hid (rowAt wr w.heap.size 0 33 = some (plV p)) ∧ Hid (atF p cs 0 = atF p (cs.drop j) j)) (fun c _ => cs.length - (intOf c).toNat)
  case atStart => exact ⟨0, by omega, rfl, hb0, hr0, Lib.hid rfl⟩
  case round =>
    obtain ⟨j, hj, rfl, HB, HR, HF⟩ := hrel
    by_cases hlt : j < cs.length
    · obtain ⟨g, off, so, scap, rfl, -, h32, d1, d2, hlock, hrow⟩ := coin_at (coinR_stays.slB HS.out HB.out (Nat.le_refl _)) j hlt
      have hpl : rowAt wr g (off + j * 36) 33 = some (plV cs[j].place) := by
        have := rowAt_part hrow 0 33 (by omega)
        rw [Nat.add_zero, Nat.zero_add, coinV_place _ _ h32] at this
        exact this
      have HH := Lib.hid (atF_hit p cs j hlt); have HT := Lib.hid (atF_step p cs j hlt)
      obtain ⟨q, hq⟩ : ∃ q, cs[j].place = q := ⟨_, rfl⟩
      have hq32 : q.tx.length = 32 := by rw [← hq]; exact h32
      rw [hq] at hpl HH HT
      have hr2 := HR.out
      have he := run_eql_place q p hq32 hp
      obtain ⟨b, hb⟩ : ∃ b, plE q p = b := ⟨_, rfl⟩
      rw [hb] at he HH HT
      clear hlock hrow d1 d2 hq hb h32
      cases b
      · have HF2 := Lib.hid (HF.out.trans (HT.out rfl j))
        go_wp2_with fail
        go_region
        all_goals
          go_wp2
          go_roundw
          case rel => exact ⟨j + 1, by omega, by go_num, Lib.hid HB.out.drew, HR, HF2⟩
          case measure => simp [intOf]; omega
      · have HF2 := Lib.hid (HF.out.trans (HH.out rfl j))
        go_wp2_with fail
        go_region
        all_goals
          go_wp2
          go_ret
          exact ⟨by rw [HF2.out]; rfl, HB.out.drew⟩
    · have hz : atF p cs 0 = -1 := by rw [HF.out, List.drop_eq_nil_of_le (by omega)]; rfl
      have HZ := Lib.hid hz
      clear hz
      go_wp2
      go_ret
      exact ⟨by rw [HZ.out]; rfl, HB.out⟩
end Go.Proofs.YtljcdkfafknnpaaGreatDoor
namespace Go.Proofs.YtljcdkfafknnpaaGreatDoor
set_option linter.unusedVariables false
set_option linter.unusedSimpArgs false

theorem cmpB_vals : ∀ (a b : List UInt8), Lib.compareBytes a b = -1 ∨ Lib.compareBytes a b = 0 ∨ Lib.compareBytes a b = 1
  | [], [] => by simp [Lib.compareBytes]
  | [], _ :: _ => by simp [Lib.compareBytes]
  | _ :: _, [] => by simp [Lib.compareBytes]
  | x :: a, y :: b => by
    unfold Lib.compareBytes
    split
    · exact .inl rfl
    · split
      · exact .inr (.inr rfl)
      · exact cmpB_vals a b
theorem cmpB_trans : ∀ (a b c : List UInt8), Lib.compareBytes a b < 0 → Lib.compareBytes b c < 0 → Lib.compareBytes a c < 0
  | [], [], c, h, _ => by simp [Lib.compareBytes] at h
  | [], _ :: _, [], _, h => by simp [Lib.compareBytes] at h
  | [], _ :: _, _ :: _, _, _ => by simp [Lib.compareBytes]
  | _ :: _, [], _, h, _ => by simp [Lib.compareBytes] at h
  | _ :: _, _ :: _, [], _, h => by simp [Lib.compareBytes] at h
  | x :: a, y :: b, z :: c, h1, h2 => by
    simp only [Lib.compareBytes, UInt8.lt_iff_toNat_lt] at h1 h2 ⊢
    by_cases hxy : x.toNat < y.toNat
    · by_cases hyz : y.toNat < z.toNat
      · rw [if_pos (by omega)]; omega
      · rw [if_neg hyz] at h2
        by_cases hzy : z.toNat < y.toNat
        · rw [if_pos hzy] at h2; omega
        · rw [if_pos (by omega)]; omega
    · rw [if_neg hxy] at h1
      by_cases hyx : y.toNat < x.toNat
      · rw [if_pos hyx] at h1; omega
      · rw [if_neg hyx] at h1
        by_cases hyz : y.toNat < z.toNat
        · rw [if_pos (by omega)]; omega
        · rw [if_neg hyz] at h2
          by_cases hzy : z.toNat < y.toNat
          · rw [if_pos hzy] at h2; omega
          · rw [if_neg hzy] at h2
            rw [if_neg (by omega), if_neg (by omega)]
            exact cmpB_trans a b c h1 h2
theorem plC_zero (p q : PlaceD) (h : p.tx.length = q.tx.length) : plC p q = 0 ↔ plE p q = true := by
  unfold plC plE
  rw [Bool.and_eq_true, decide_eq_true_eq, decide_eq_true_eq]
  constructor
  · intro e
    by_cases hz : Lib.compareBytes p.tx q.tx = 0
    · rw [if_pos hz] at e
      refine ⟨cmpB_same _ _ h hz, ?_⟩
      split at e
      · omega
      · split at e <;> omega
    · rw [if_neg hz] at e; exact absurd e hz
  · rintro ⟨e1, e2⟩
    rw [e1, cmpB_refl, if_pos rfl, e2, if_neg (by omega), if_neg (by omega)]
theorem plE_eq {p q : PlaceD} (h : plE p q = true) : p = q := by
  unfold plE at h
  rw [Bool.and_eq_true, decide_eq_true_eq, decide_eq_true_eq] at h
  cases p; cases q
  simp_all
theorem plC_trans (p q r : PlaceD) (h1 : p.tx.length = 32) (h2 : q.tx.length = 32) (h3 : r.tx.length = 32) (a : plC p q < 0) (b : plC q r < 0) : plC p r < 0 := by
  unfold plC at a b ⊢
  by_cases z1 : Lib.compareBytes p.tx q.tx = 0
  · rw [if_pos z1] at a
    have e1 := cmpB_same _ _ (by omega) z1
    rw [e1]
    by_cases z2 : Lib.compareBytes q.tx r.tx = 0
    · rw [if_pos z2] at b ⊢
      split at a
      · split at b
        · rw [if_pos (by omega)]; omega
        · split at b <;> omega
      · split at a <;> omega
    · rw [if_neg z2] at b ⊢; exact b
  · rw [if_neg z1] at a
    by_cases z2 : Lib.compareBytes q.tx r.tx = 0
    · have e2 := cmpB_same _ _ (by omega) z2
      rw [← e2, if_neg z1]; exact a
    · rw [if_neg z2] at b
      have := cmpB_trans _ _ _ a b
      rw [if_neg (by omega)]; exact this
/-- In order. -/
def sortedC (cs : List CoinD) : Prop := ∀ i j (hi : i < cs.length) (hj : j < cs.length), i < j → plC cs[i].place cs[j].place < 0
def all32 (cs : List CoinD) : Prop := ∀ i (hi : i < cs.length), cs[i].tx.length = 32
theorem setFrom_zero (cs : List CoinD) : ∀ (m j : Nat), cs.length - j = m → setFrom cs m j = 0 → ∀ k, j ≤ k → k < cs.length → aheadB cs k = false ∧ coinF (cs.getD k default) = 0 := by
  intro m
  induction m with
  | zero => intro j hj _ k h1 h2; omega
  | succ m ih =>
    intro j hj h k h1 h2
    unfold setFrom at h
    split at h
    · cases h
    · rename_i ha
      split at h
      · rename_i hc
        by_cases hk : k = j
        · subst hk; exact ⟨by simpa using ha, hc⟩
        · exact ih (j + 1) (by omega) h k (by omega) h2
      · rename_i hc; exact absurd h hc
theorem setF_zero (cs : List CoinD) (h : setF cs = 0) : cs.length ≤ 1000 ∧ ∀ k, k < cs.length → aheadB cs k = false ∧ coinF (cs.getD k default) = 0 := by
  unfold setF at h
  split at h
  · cases h
  · exact ⟨by omega, fun k hk => setFrom_zero cs cs.length 0 (by omega) h k (by omega) hk⟩
theorem sorted_of (cs : List CoinD) (h32 : all32 cs) (h : setF cs = 0) : sortedC cs := by
  obtain ⟨-, h2⟩ := setF_zero cs h
  have hstep : ∀ j (hj : j + 1 < cs.length), plC cs[j].place cs[j + 1].place < 0 := fun j hj => by
    obtain ⟨ha, -⟩ := h2 (j + 1) hj
    unfold aheadB at ha
    rw [decide_eq_true (by omega), Bool.true_and, decide_eq_false_iff_not, Nat.add_sub_cancel, List.getD_eq_getElem?_getD, List.getD_eq_getElem?_getD, List.getElem?_eq_getElem hj, List.getElem?_eq_getElem (show j < cs.length by omega)] at ha
    simp only [Option.getD_some] at ha
    omega
  intro i j hi hj hij
  obtain ⟨d, rfl⟩ : ∃ d, j = i + 1 + d := ⟨j - i - 1, by omega⟩
  induction d with
  | zero => exact hstep i hj
  | succ d ih => exact plC_trans _ _ _ (h32 _ _) (h32 _ _) (h32 _ _) (ih (by omega) (by omega)) (hstep (i + 1 + d) hj)
/-- Where a search stops. -/
def foundAt (cs : List CoinD) (p : PlaceD) (i : Nat) (b : Bool) : Prop :=
  (b = true → ∃ hi : i < cs.length, plE cs[i].place p = true) ∧ (b = false → ∀ k (hk : k < cs.length), plE cs[k].place p = false) ∧
    (∀ k (hk : k < cs.length), k < i → plC cs[k].place p < 0) ∧ (∀ k (hk : k < cs.length), i ≤ k → ¬ plC cs[k].place p < 0)
theorem atF_none (p : PlaceD) : ∀ (cs : List CoinD) (j : Nat), (∀ k (hk : k < cs.length), plE cs[k].place p = false) → atF p cs j = -1
  | [], _, _ => rfl
  | c :: cs, j, h => by
    have h0 : plE c.place p = false := h 0 (by simp)
    rw [atF, if_neg (by rw [h0]; decide)]
    exact atF_none p cs (j + 1) (fun k hk => h (k + 1) (by simpa using hk))
theorem atF_some (p : PlaceD) : ∀ (cs : List CoinD) (j i : Nat) (hi : i < cs.length), plE cs[i].place p = true → (∀ k (hk : k < cs.length), k < i → plE cs[k].place p = false) → atF p cs j = ((j + i : Nat) : Int)
  | c :: cs, j, 0, _, h, _ => by
    have h0 : plE c.place p = true := h
    rw [atF, if_pos h0]; simp
  | c :: cs, j, i + 1, hi, h, hb => by
    have h0 : plE c.place p = false := hb 0 (by simp) (by omega)
    rw [atF, if_neg (by rw [h0]; decide), atF_some p cs (j + 1) i (by simpa using hi) h (fun k hk hki => hb (k + 1) (by simpa using hk) (by omega))]
    congr 1; omega
theorem found_atF (cs : List CoinD) (p : PlaceD) (h32 : all32 cs) (hs : sortedC cs) (hp : p.tx.length = 32) (i : Nat) (b : Bool) (h : foundAt cs p i b) : atF p cs 0 = if b = true then (i : Int) else -1 := by
  cases b
  · exact atF_none p cs 0 (h.2.1 rfl)
  · obtain ⟨hi, he⟩ := h.1 rfl
    have := atF_some p cs 0 i hi he (fun k hk hki => by
      cases hq : plE cs[k].place p with
      | false => rfl
      | true =>
        have e1 := plE_eq he; have e2 := plE_eq hq
        have hlt := hs k i hk hi hki
        rw [e1, e2] at hlt
        have := (plC_zero p p rfl).2 (by unfold plE; simp)
        omega)
    simpa using this
theorem search_done (cs : List CoinD) (p : PlaceD) (h32 : all32 cs) (hs : sortedC cs) (hp : p.tx.length = 32) (i : Nat) (hlo : ∀ k (hk : k < cs.length), k < i → plC cs[k].place p < 0) (hhi : ∀ k (hk : k < cs.length), i ≤ k → ¬ plC cs[k].place p < 0)
    (b : Bool) (hb : b = true ↔ ∃ hi : i < cs.length, plC cs[i].place p = 0) : foundAt cs p i b := by
  refine ⟨?_, ?_, hlo, hhi⟩
  · intro h
    obtain ⟨hi, he⟩ := hb.1 h
    exact ⟨hi, (plC_zero _ _ ((h32 i hi).trans hp.symm)).1 he⟩
  · intro h k hk
    cases hq : plE cs[k].place p with
    | false => rfl
    | true =>
      have hz := (plC_zero cs[k].place p ((h32 k hk).trans hp.symm)).2 hq
      by_cases hki : k < i
      · have := hlo k hk hki; omega
      · by_cases he : k = i
        · subst he
          have := hb.2 ⟨hk, hz⟩
          rw [h] at this; cases this
        · have h1 := hs i k (by omega) hk (by omega)
          have e2 := plE_eq hq
          rw [e2] at h1
          exact absurd h1 (hhi i (by omega) (Nat.le_refl _))
end Go.Proofs.YtljcdkfafknnpaaGreatDoor
namespace Go.Proofs.YtljcdkfafknnpaaGreatDoor
set_option linter.unusedVariables false
set_option linter.unusedSimpArgs false
open Go.RowKit
attribute [local go_sem ↓] run_load_agg run_store_agg run_load_any

/-- A coin whose lock is of the call's own. -/
def coinO (base : Nat) : Rd CoinD := fun w c cs => ∃ s xs, cs = c.tx.map vB ++ [.int .i64 c.ix, .int .i64 c.amount, s, .int .i64 c.height] ∧ c.tx.length = 32 ∧ own w base 151 3 s c.lock.length xs ∧ rdEach (opO base) 3 w c.lock xs
theorem coinO_grown {w w' : World} {base base2 sz n : Nat} {v : Value} {xs : List Value} (hv : own w base2 105 sz v n xs) (hg : w.grownBy w' (wrow v)) {c : CoinD} {cs : List Value} (h : coinO base w c cs) : coinO base w' c cs := by
  obtain ⟨s, ys, h1, h2, h3, h4⟩ := h
  refine ⟨s, ys, h1, h2, own_kept h3 fun k hk _ hlt => ?_, rdEach_map h4 (fun a cs ha => opO_grown hv (by decide) hg ha)⟩
  obtain ⟨_, _, c, hc⟩ := own_lt h3 hk
  exact hg.block k hlt (fun e2 => own_ne hv hc (by decide) e2.symm)
theorem coinO_below {w w' : World} {base : Nat} (hb : Below w.heap.size w w') {c : CoinD} {cs : List Value} (h : coinO base w c cs) : coinO base w' c cs := by
  obtain ⟨s, ys, h1, h2, h3, h4⟩ := h
  exact ⟨s, ys, h1, h2, own_below hb h3 (Nat.le_refl _), rdEach_map h4 (fun a cs ha => opO_below hb ha)⟩
theorem coinO_alloc {w : World} {base : Nat} (ob : Obj) {c : CoinD} {cs : List Value} (h : coinO base w c cs) : coinO base (w.alloc ob) c cs := by
  obtain ⟨s, ys, h1, h2, h3, h4⟩ := h
  exact ⟨s, ys, h1, h2, own_alloc h3 ob, rdEach_map h4 (fun a cs ha => opO_alloc ob ha)⟩
theorem coinO_setCell {w : World} {base G k : Nat} {cc : Array Value} {fr : Nat × Nat} (hg : w.heap[G]? = some (.cells cc 105 fr)) (u : Value) {c : CoinD} {cs : List Value} (h : coinO base w c cs) : coinO base (w.setCell ⟨G, k, none⟩ u) c cs := by
  obtain ⟨s, ys, h1, h2, h3, h4⟩ := h
  exact ⟨s, ys, h1, h2, own_setCell h3 _ _ (own_ne h3 hg (by decide)), rdEach_map h4 (fun a cs ha => opO_setCell (by decide) hg u ha)⟩
theorem coinO_rd {w : World} {base : Nat} {c : CoinD} {cs : List Value} (h : coinO base w c cs) : coinR w c cs := by
  obtain ⟨s, ys, h1, h2, h3, h4⟩ := h
  exact ⟨s, h1, h2, ys, own_rd h3, rdEach_map h4 (fun a cs ha => opO_rd ha)⟩
theorem info_coin : (Tryz.prog.info? 105).map (fun i => (i.zero, i.size, i.bytes)) = some (some (.agg zCoin), 36, 80) := by kernel_rfl
theorem run_buildSlice_coin (d : Array Value) (hd : d.size = 36) (w : World) :
    (Instr.buildSlice 55 1 #[(0, .agg d)]).run Tryz.prog w = .ok (.slice (some ⟨w.heap.size, 0, none⟩) 1 1) (w.alloc (.cells d 105)) := by
  obtain ⟨i, hi, hz, hs, -⟩ := info_parts' info_coin
  have hf := fun (f : Nat → Value) => fill_one d ((Array.range 36).map f) 36 hd (by simp)
  simp [Instr.buildSlice, run_underlying Tryz.underlying55, sizeOf, typeInfo, zeroValue, hi, hz, hs, hf, newRow, Value.cells]
theorem run_build_coin (ev : Operand → Value) (w : World) (dst : Option Tmp) (x : Operand) (type : TypeId) (pos : String) (after : Array Edge) (guard : Option (Nat × Bool))
    (hx : isAggV (ev x) = true) (hsx : (aggCells (ev x)).size = 36) :
    (execOp ev ⟨dst, .buildSlice 55 1 #[(0, x)], type, pos, after, guard⟩).run Tryz.prog w = .ok (.value (.slice (some ⟨w.heap.size, 0, none⟩) 1 1)) (w.alloc (.cells (aggCells (ev x)) 105)) := by
  unfold isAggV at hx
  split at hx
  · rename_i d hd
    rw [hd] at hsx ⊢
    simp only [aggCells] at hsx ⊢
    have := run_buildSlice_coin d hsx w
    simp only [execOp, List.map_toArray, List.map_cons, List.map_nil, hd, Sem.run_bind, this]
    rfl
  · cases hx
theorem coinV_set (c : CoinD) (s u : Value) (h : c.tx.length = 32) : (coinV c s).setIfInBounds 34 u = coinV c u := by
  have hz : (dgV c.tx).size = 32 := by rw [dgV_size, h]
  apply Array.ext
  · simp [coinV_size c _ h]
  · intro i h1 h2
    rw [coinV_size c u h] at h2
    rw [Array.getElem_setIfInBounds (by rw [coinV_size c s h]; exact h2)]
    by_cases h34 : 34 = i
    · subst h34
      rw [if_pos rfl]
      have := (coinV_tail c u h).2.2.1
      rw [Array.getElem?_eq_getElem (by rw [coinV_size c u h]; omega)] at this
      simpa using this.symm
    · rw [if_neg h34]
      simp only [coinV]
      by_cases h32 : i < 32
      · rw [Array.getElem_append_left (by omega), Array.getElem_append_left (by omega)]
      · rw [Array.getElem_append_right (by omega), Array.getElem_append_right (by omega)]
        obtain rfl | rfl | rfl : i = 32 ∨ i = 33 ∨ i = 35 := by omega
        all_goals simp [hz]
theorem coinV_list (c : CoinD) (s : Value) : (coinV c s).toList = c.tx.map vB ++ [.int .i64 c.ix, .int .i64 c.amount, s, .int .i64 c.height] := by simp [coinV, dgV]
attribute [local go_sem ↓] run_build_coin
def CopyPost (cs : List CoinD) (w : World) (e : Ending) (w' : World) : Prop :=
  ∃ v xs, e = .returned v ∧ own w' w.heap.size 105 36 v cs.length xs ∧ rdEach (coinO w.heap.size) 36 w' cs xs ∧ Below w.heap.size w w'
theorem copyPost_mk {cs : List CoinD} {w w' : World} {e : Ending} (v : Value) (xs : List Value) (he : e = .returned v) (h1 : own w' w.heap.size 105 36 v cs.length xs) (h2 : rdEach (coinO w.heap.size) 36 w' cs xs) (h3 : Below w.heap.size w w') : CopyPost cs w e w' := ⟨v, xs, he, h1, h2, h3⟩
set_option maxHeartbeats 4000000 in
set_option maxRecDepth 100000 in
theorem copy_fit (cs : List CoinD) (ao : Option Addr) (cap : Nat) (w : World) (h : rdSl coinR 36 w (.slice ao cs.length cap) cs) (hn : cs.length ≤ 1000) (hd : ∀ c ∈ cs, FitC c) :
    Calls Tryz.prog 61 #[.slice ao cs.length cap] w (CopyPost cs w) := by
  obtain ⟨_, _, e, hcap, hmax⟩ := sl_bounds h
  cases e
  unfold maxLen at hmax
  have HS := Lib.hid h; have HD := Lib.hid hd
  clear h hd
  obtain ⟨i0, hi0, hz0, hz1, hz2⟩ := info_parts' info_coin
  go_enter Tryz.func61, Tryz.ntmps61
  go_wp2_with fail
  go_loopw [3, 8] (fun v c wr => ∃ (j : Nat) (xs : List Value), j ≤ cs.length ∧ c = .int .i64 j ∧ Hid (own wr w.heap.size 105 36 v j xs) ∧ Hid (rdEach (coinO w.heap.size) 36 wr (cs.take j) xs) ∧ Hid (Below w.heap.size w wr)) (fun _ c _ => cs.length - (intOf c).toNat)
  case atStart => exact ⟨0, [], by omega, rfl, Lib.hid (own_nil _ _ _ _), Lib.hid (rdEach_nil _ _ _), Lib.hid (Below.refl _ _)⟩
  case round =>
    obtain ⟨j, xs, hj, rfl, HO, HE, HB⟩ := hrel
    have ho' := HO.out
    obtain ⟨-, oo, ocap, rfl, o1, o2, -⟩ := ho'
    unfold maxLen at o2
    by_cases hlt : j < cs.length
    · obtain ⟨g, off, so, scap, rfl, -, h32, d1, d2, hlock, hrow⟩ := coin_at (coinR_stays.slB HS.out HB.out (Nat.le_refl _)) j hlt
      have hlf := HD.out cs[j] (List.getElem_mem _)
      have htk : cs.take (j + 1) = cs.take j ++ [cs[j]] := List.take_succ_eq_append_getElem hlt
      obtain ⟨c, hc⟩ : ∃ c, cs[j] = c := ⟨_, rfl⟩
      rw [hc] at h32 d1 hlock hrow hlf htk
      have HTK := Lib.hid htk
      obtain ⟨l60, l300⟩ := hlf
      have HL300 := Lib.hid l300
      obtain ⟨n1, n2, n3, n4⟩ := new_coin wr c so c.lock.length scap h32
      have B0 := Lib.hid (HB.out.alloc HB.out.size (.cells (coinV c (.slice so c.lock.length scap)) 105))
      have HG0 := Lib.hid (heap_alloc_new wr (.cells (coinV c (.slice so c.lock.length scap)) 105))
      have HO0 := Lib.hid (own_alloc HO.out (.cells (coinV c (.slice so c.lock.length scap)) 105))
      have HE0 := Lib.hid (rdEach_map HE.out (fun a cs ha => coinO_alloc (.cells (coinV c (.slice so c.lock.length scap)) 105) ha))
      have HL0 := Lib.hid (opR_stays.sl (fun k hk => Below.heap_alloc wr (.cells (coinV c (.slice so c.lock.length scap)) 105) k hk) hlock)
      have hsz0 : (wr.alloc (.cells (coinV c (.slice so c.lock.length scap)) 105)).heap.size = wr.heap.size + 1 := by simp
      have hG := HB.out.size
      have c34 := (CoinAt.new wr c (.slice so c.lock.length scap) h32).lock
      clear hc htk hlock l300
      unfold zCoin at n1 n2
      go_upto_region 5 with fail
      clear n1 n2 n3 n4
      change Code.wp _ _ _ _ (wr.alloc (.cells (coinV c (.slice so c.lock.length scap)) 105))
      obtain ⟨G, hGe⟩ : ∃ G, wr.heap.size = G := ⟨_, rfl⟩
      have hOG : ∀ k, wrow (.slice oo j ocap) = some k → k < G := fun k hk => by have := (own_lt HO.out hk).2.1; omega
      have HOG := Lib.hid hOG
      clear hOG hrow
      rw [hGe] at HG0 hsz0 hG c34 ⊢
      generalize wr.alloc (.cells (coinV c (.slice so c.lock.length scap)) 105) = w0 at B0 HG0 HO0 HE0 HL0 hsz0 c34 ⊢
      go_wp2_with fail
      refine (copied_any c.lock so scap w0 HL0.out l60 HL300.out).mono ?_
      rintro e w1 ⟨sv, ys, rfl, hos, hye, hb1⟩
      have hos' := hos
      obtain ⟨-, sa, sacap, rfl, s1, s2, -⟩ := hos'
      unfold maxLen at s2
      have hzb := hb1.size
      have HG1 : Hid (w1.heap[G]? = some (.cells (coinV c (.slice so c.lock.length scap)) 105 (0, 0))) := (hb1.block _ (by omega)).trans HG0.out
      have hG2 : w1.cell? ⟨G, 34, none⟩ = some (.slice so c.lock.length scap) := by rw [cell_of_row _ _ _ _ _ _ HG1.out]; exact (coinV_tail c _ h32).2.2.1
      have hF2 : w1.frozen? ⟨G, 34, none⟩ = false := frozen_of_row _ _ _ _ _ HG1.out
      have B1 := Lib.hid (B0.out.trans (hb1.mono B0.out.size))
      have HO1 := Lib.hid (own_below hb1 HO0.out (Nat.le_refl _))
      have HE1 := Lib.hid (rdEach_map HE0.out (fun a cs ha => coinO_below hb1 ha))
      have HOS := Lib.hid hos
      have hone : Hid (wrow (.slice oo j ocap) ≠ some G) := fun hk => by have := HOG.out G hk; omega
      have HG3 : Hid ((w1.setCell ⟨G, 34, none⟩ (.slice sa c.lock.length sacap)).heap[G]? = some (.cells (coinV c (.slice sa c.lock.length sacap)) 105 (0, 0))) := by
        have := heap_setCell_same w1 G 34 _ _ (.slice sa c.lock.length sacap) HG1.out
        rw [coinV_set c _ _ h32] at this
        exact this
      have HO2 := Lib.hid (own_setCell HO1.out ⟨G, 34, none⟩ (.slice sa c.lock.length sacap) hone.out)
      have HE2 := Lib.hid (rdEach_map HE1.out (fun a cs ha => coinO_setCell (k := 34) HG1.out (.slice sa c.lock.length sacap) ha))
      have hnew1 : coinO w.heap.size w1 c (c.tx.map vB ++ [.int .i64 c.ix, .int .i64 c.amount, .slice sa c.lock.length sacap, .int .i64 c.height]) :=
        ⟨_, ys, rfl, h32, own_base hos (by omega), rdEach_map hye (fun a cs ⟨s, q1, q2⟩ => ⟨s, q1, own_base q2 (by omega)⟩)⟩
      have HN2 := Lib.hid (coinO_setCell (k := 34) HG1.out (.slice sa c.lock.length sacap) hnew1)
      have B2 : Hid (Below w.heap.size w (w1.setCell ⟨G, 34, none⟩ (.slice sa c.lock.length sacap))) := B1.out.setCell (by show w.heap.size ≤ G; exact hG) _
      clear hb1 hos hye hnew1
      go_upto_region 6 with fail
      change Code.wp _ _ _ _ (w1.setCell ⟨G, 34, none⟩ (.slice sa c.lock.length sacap))
      generalize w1.setCell ⟨G, 34, none⟩ (.slice sa c.lock.length sacap) = w2 at HG3 HO2 HE2 HN2 B2 ⊢
      clear hG2 hF2 c34
      have hsv : (coinV c (.slice sa c.lock.length sacap)).size = 36 := coinV_size c _ h32
      have r3 : rowAt w2 G 0 36 = some (coinV c (.slice sa c.lock.length sacap)) := rowAt_whole HG3.out 36 hsv.symm
      have B3 := Lib.hid (B2.out.alloc B2.out.size (.cells (coinV c (.slice sa c.lock.length sacap)) 105))
      have HO3 := Lib.hid (own_alloc HO2.out (.cells (coinV c (.slice sa c.lock.length sacap)) 105))
      have HE3 := Lib.hid (rdEach_map HE2.out (fun a cs ha => coinO_alloc (.cells (coinV c (.slice sa c.lock.length sacap)) 105) ha))
      have HN3' := Lib.hid (coinO_alloc (.cells (coinV c (.slice sa c.lock.length sacap)) 105) HN2.out)
      have hrn := rd_new_row w2 (coinV c (.slice sa c.lock.length sacap)) 105 _ rfl
      rw [coinV_list] at hrn
      have HR3 := Lib.hid hrn
      have HC5 : Hid (∀ u ∈ c.tx.map vB ++ [.int .i64 c.ix, .int .i64 c.amount, .slice sa c.lock.length sacap, .int .i64 c.height], u.oneCell' = true) := fun u hu => by
        rcases List.mem_append.1 hu with h | h
        · exact vB_plain _ u h
        · simp only [List.mem_cons, List.not_mem_nil, or_false] at h
          rcases h with rfl | rfl | rfl | rfl <;> rfl
      clear hrn
      go_wp2_with (at_builtin; refine wpList_append_rd rfl (.tmp 18) (.tmp 20) 55 rfl 105 i0 (.agg zCoin) 36 80 Tryz.underlying55 hi0 hz0 hz1 hz2 rfl (by decide) w.heap.size j _ HO3.out 1 _ (by simp [h32]) HR3.out HC5.out ?c2 ?c3 ?c4 ?_)
      case c2 => unfold maxLen; omega
      case c3 => omega
      case c4 => have := B3.out.size; simpa using this
      intro v1 w4 ho1 hold hg1
      have B4 := Lib.hid (B3.out.grown hg1 B3.out.size (fun q hq => (own_lt HO3.out hq).1))
      have HO4 := Lib.hid ho1
      have HE4 := Lib.hid (rdEach_map HE3.out (fun a cs ha => coinO_grown (w' := w4) HO3.out hg1 ha))
      have hnew : coinO w.heap.size w4 c _ := coinO_grown HO3.out hg1 HN3'.out
      have HE5 := Lib.hid (rdEach_snoc HE4.out (by simp [h32]) hnew)
      clear ho1 hold hg1 hnew
      go_wp2_with fail
      go_roundw
      case rel => exact ⟨j + 1, _, by omega, by go_num, HO4, Lib.hid (by rw [HTK.out]; exact HE5.out), B4⟩
      case measure => simp [intOf]; omega
    · have HTK := Lib.hid (List.take_of_length_le (show cs.length ≤ j by omega))
      have hj2 : j = cs.length := by omega
      have HJ := Lib.hid hj2
      clear hj2
      go_wp2
      go_ret
      exact copyPost_mk _ xs rfl (by rw [← HJ.out]; exact HO.out) (by have := HE.out; rw [HTK.out] at this; exact this) HB.out
theorem fitC_of {c : CoinD} (h : lockF c.lock = 0) : FitC c := by
  obtain ⟨h1, h2⟩ := lockF_small c.lock h
  exact ⟨by omega, fun o ho => by have := h2 o ho; unfold FitO; omega⟩
theorem copy_any (cs : List CoinD) (ao : Option Addr) (cap : Nat) (w : World) (h : rdSl coinR 36 w (.slice ao cs.length cap) cs) (hn : cs.length ≤ 1000) (hd : ∀ c ∈ cs, lockF c.lock = 0) :
    Calls Tryz.prog 61 #[.slice ao cs.length cap] w (CopyPost cs w) := copy_fit cs ao cap w h hn fun c hc => fitC_of (hd c hc)
end Go.Proofs.YtljcdkfafknnpaaGreatDoor
namespace Go.Proofs.YtljcdkfafknnpaaGreatDoor
set_option linter.unusedVariables false
set_option linter.unusedSimpArgs false
open Go.RowKit
attribute [local go_sem ↓] run_load_agg run_store_agg run_load_any

/-- A coin loaded whole, in a region that calls. -/
theorem quiet_loadC {C : World → Prop} {K : Act → Prop} {a : Act} {dst : Option Tmp} {x : Operand} {type : TypeId} {pos : String} {after : Array Edge} {guard : Option (Nat × Bool)} (g off : Nat) (cs : Array Value)
    (hx : a.eval x = .pointer (some ⟨g, off, none⟩)) (h : ∀ w, C w → rowAt w g off 36 = some cs) (hK : K (a.put dst (.agg cs))) :
    Oper.quiet Tryz.prog ⟨dst, .load 105 x, type, pos, after, guard⟩ a C K := by
  refine ⟨.agg cs, fun w hw => ?_, hK⟩
  have hr : rowOf w (a.eval x) (Tryz.prog.cellsOf 105) = some cs := by rw [hx, rowOf_ptr, cells_coin]; exact h w hw
  unfold Oper.quietAt
  rw [run_load_agg a.eval w dst _ x type pos after guard agg_coin (by rw [hr]; rfl), hr]
  exact ⟨rfl, rfl⟩
set_option maxHeartbeats 2000000 in
set_option maxRecDepth 100000 in
theorem find1_any (c : CoinD) (s : Value) (p : PlaceD) (h32 : c.tx.length = 32) (hp : p.tx.length = 32) (w : World) :
    Calls Tryz.prog 89 #[.agg (coinV c s), .agg (plV p)] w fun e w' => e = .returned (.int .i64 (plC c.place p)) ∧ Below w.heap.size w w' := by
  have hsp : (plV p).size = 33 := plV_size p hp
  have hsc : (coinV c s).size = 36 := coinV_size c s h32
  have HB : Hid (Below w.heap.size w ((w.alloc (.cells (coinV c s) 105)).alloc (.cells (plV p) 97))) := ((Below.refl _ _).alloc (Nat.le_refl _) _).alloc (by simp) _
  have hz1 : (w.alloc (.cells (coinV c s) 105)).heap.size = w.heap.size + 1 := by simp
  have r1 : rowAt ((w.alloc (.cells (coinV c s) 105)).alloc (.cells (plV p) 97)) w.heap.size 0 33 = some (plV c.place) := by
    rw [rowAt_alloc_past _ _ _ _ _ (by simp)]; exact (CoinAt.new w c s h32).p
  have r2 : rowAt ((w.alloc (.cells (coinV c s) 105)).alloc (.cells (plV p) 97)) (w.heap.size + 1) 0 33 = some (plV p) := by
    have := rowAt_whole (heap_alloc_new (w.alloc (.cells (coinV c s) 105)) (.cells (plV p) 97)) 33 hsp.symm
    rwa [hz1] at this
  have hc32 : c.place.tx.length = 32 := h32
  go_enter Tryz.func89, Tryz.ntmps89
  go_upto_region 1 with fail
  change Code.wp _ _ _ _ ((w.alloc (.cells (coinV c s) 105)).alloc (.cells (plV p) 97))
  generalize (w.alloc (.cells (coinV c s) 105)).alloc (.cells (plV p) 97) = wa at HB r1 r2 ⊢
  clear hz1
  go_wp2_with fail
  refine (compare_any c.place p hc32 hp wa).mono ?_
  rintro e w1 ⟨rfl, hb1⟩
  have B1 := Lib.hid (HB.out.trans (hb1.mono HB.out.size)); clear hb1 r1 r2
  go_wp2
  go_ret
  exact ⟨rfl, B1.out⟩
/-- The worlds of a region that reads a coin and a place and calls. -/
structure HeldS (w0 : World) (A ao : Nat) (c : CoinD) (s : Value) (G : Nat) (p : PlaceD) (w : World) : Prop where
  below : Below w0.heap.size w0 w
  a : rowAt w A ao 36 = some (coinV c s)
  p : rowAt w G 0 33 = some (plV p)
theorem HeldS.on {w0 : World} {A ao : Nat} {c : CoinD} {s : Value} {G : Nat} {p : PlaceD} {w w' : World} (h : HeldS w0 A ao c s G p w) (hb : Below w.heap.size w w') : HeldS w0 A ao c s G p w' :=
  ⟨h.below.trans (hb.mono h.below.size), (rowAt_below hb (rowAt_lt h.a) _ _).trans h.a, (rowAt_below hb (rowAt_lt h.p) _ _).trans h.p⟩
/-- What a search answers. -/
def SearchPost (cs : List CoinD) (p : PlaceD) (w : World) (e : Ending) (w' : World) : Prop :=
  ∃ (i : Nat) (b : Bool), e = .returned (.tuple #[.int .i64 i, .bool b]) ∧ foundAt cs p i b ∧ i ≤ cs.length ∧ Below w.heap.size w w'
theorem searchPost_mk {cs : List CoinD} {p : PlaceD} {w : World} {e : Ending} {w' : World} (i : Nat) (b : Bool) (he : e = .returned (.tuple #[.int .i64 i, .bool b])) (h1 : foundAt cs p i b) (h2 : i ≤ cs.length) (h3 : Below w.heap.size w w') : SearchPost cs p w e w' := ⟨i, b, he, h1, h2, h3⟩
set_option maxHeartbeats 4000000 in
set_option maxRecDepth 100000 in
theorem search_any (cs : List CoinD) (ao : Option Addr) (cap : Nat) (p : PlaceD) (hp : p.tx.length = 32) (w : World) (h : rdSl coinR 36 w (.slice ao cs.length cap) cs) (hn : cs.length ≤ 2000) (h32 : all32 cs) (hs : sortedC cs) :
    Calls Tryz.prog 88 #[.slice ao cs.length cap, .agg (plV p), .func (Fn.func 89) #[] #[]] w (SearchPost cs p w) := by
  obtain ⟨_, _, e, hcap, hmax⟩ := sl_bounds h
  cases e
  unfold maxLen at hmax
  have HS := Lib.hid h
  have H32 := Lib.hid h32; have HSO := Lib.hid hs
  clear h h32 hs
  have hsp : (plV p).size = 33 := plV_size p hp
  have hpp := plV_plain p
  have hb0 : Hid (Below w.heap.size w (w.alloc (.cells (plV p) 97))) := (Below.refl _ _).alloc (Nat.le_refl _) _
  have hr0 : Hid (rowAt (w.alloc (.cells (plV p) 97)) w.heap.size 0 33 = some (plV p)) := rowAt_whole (heap_alloc_new w (.cells (plV p) 97)) 33 hsp.symm
  go_enter Tryz.func88, Tryz.ntmps88
  go_wp2_with fail
  change Code.wp _ _ _ _ (w.alloc (.cells (plV p) 97))
  generalize w.alloc (.cells (plV p) 97) = wa at hb0 hr0 ⊢
  go_loopg [9, 10] cs.length (fun t a b wr => ∃ i j : Nat, a = .int .i64 i ∧ b = .int .i64 j ∧ i ≤ j ∧ j ≤ cs.length ∧ j - i ≤ t ∧ Hid (Below w.heap.size w wr) ∧ Hid (rowAt wr w.heap.size 0 33 = some (plV p)) ∧
    Hid (∀ k (hk : k < cs.length), k < i → plC cs[k].place p < 0) ∧ Hid (∀ k (hk : k < cs.length), j ≤ k → ¬ plC cs[k].place p < 0))
  case atStart => exact ⟨0, cs.length, rfl, rfl, by omega, Nat.le_refl _, by omega, hb0, hr0, Lib.hid (fun k _ h => by omega), Lib.hid (fun k hk h => by omega)⟩
  case round =>
    obtain ⟨i, j, rfl, rfl, hij, hjn, hjt, HB, HR, HLO, HHI⟩ := hrel
    by_cases hlt : i < j
    · obtain ⟨s, hs⟩ : ∃ s, i + j = s := ⟨_, rfl⟩
      obtain ⟨m, hm⟩ : ∃ m, s / 2 = m := ⟨_, rfl⟩
      have q1 : (i : Int) + (j : Int) = (s : Int) := by omega
      have q2 : (s : Int) / 2 = (m : Int) := by omega
      have q3 : (s : Int) ≤ 4000 := by omega
      have q4 : i ≤ m := by omega
      have q5 : m < j := by omega
      clear hs hm
      go_upto_region 5 with fail
      have hml : m < cs.length := by omega
      obtain ⟨g, off, so, scap, rfl, -, c32, d1, d2, hlock, hrow⟩ := coin_at (coinR_stays.slB HS.out HB.out (Nat.le_refl _)) m hml
      have HSO1 := Lib.hid (fun k (hk : k < cs.length) (hkm : k < m) => HSO.out k m hk hml hkm)
      have HSO2 := Lib.hid (fun k (hk : k < cs.length) (hkm : m < k) => HSO.out m k hml hk hkm)
      obtain ⟨c, hc⟩ : ∃ c, cs[m] = c := ⟨_, rfl⟩
      rw [hc] at c32 d1 hrow HSO1 HSO2
      have HC := Lib.hid hc
      clear hlock hc
      have HH : Hid (HeldS w g (off + m * 36) c (.slice so c.lock.length scap) w.heap.size p wr) := ⟨HB.out, hrow, HR.out⟩
      clear hrow d1 d2
      have q6 : (0 : Int) ≤ (m : Int) := by omega
      have q7 : (m : Int) < (cs.length : Int) := by omega
      refine wp_region_quiet (C := HeldS w g (off + m * 36) c (.slice so c.lock.length scap) w.heap.size p) (by kernel_rfl) (by kernel_rfl) (HH.out.on (Below.refl _ _).drew) ?_
      iterate 4 quiet_step ((intro _; with_reducible rfl))
      refine wpQuiet_step (fun K hK => ?_)
      rw [if_pos (by rfl)]
      refine quiet_loadC g (off + m * 36) _ rfl (fun w h => h.a) (hK _ ?_)
      clear hK K
      refine wpQuiet_step (fun K hK => ?_)
      rw [if_pos (by rfl)]
      refine quiet_loadP w.heap.size 0 _ rfl (fun w h => h.p) (hK _ ?_)
      clear hK K
      quiet_step ((intro hC; refine (find1_any c _ p c32 hp _).mono ?_; rintro e w9 ⟨rfl, hb9⟩; exact ⟨rfl, hC.on hb9⟩))
      quiet_step ((intro _; with_reducible rfl))
      refine wpQuiet_nil ?_
      intro w3 hw3
      have B3 := Lib.hid hw3.below; have R3 := Lib.hid hw3.p
      clear hw3
      have htr := Lib.hid (fun k (hk : k < cs.length) (h1 : plC cs[k].place c.place < 0) (h2 : plC c.place p < 0) => plC_trans cs[k].place c.place p (H32.out k hk) c32 hp h1 h2)
      have htr2 := Lib.hid (fun k (hk : k < cs.length) (h1 : plC c.place cs[k].place < 0) (h2 : plC cs[k].place p < 0) => plC_trans c.place cs[k].place p c32 (H32.out k hk) hp h1 h2)
      obtain ⟨x, hx⟩ : ∃ x, plC c.place p = x := ⟨_, rfl⟩
      rw [hx] at htr htr2 ⊢
      have HX := Lib.hid hx
      clear hx
      by_cases hneg : x < 0
      · have HLO2 : Hid (∀ k (hk : k < cs.length), k < m + 1 → plC cs[k].place p < 0) := fun k hk hkm => by
          by_cases e : k = m
          · subst e
            rw [HC.out, HX.out]; exact hneg
          · exact htr.out k hk (HSO1.out k hk (by omega)) hneg
        go_wp2_with fail
        go_roundg (j - (m + 1))
        case measure => omega
        case rel => exact ⟨m + 1, j, by go_num, rfl, by omega, by omega, by omega, B3, R3, HLO2, HHI⟩
      · have HHI2 : Hid (∀ k (hk : k < cs.length), m ≤ k → ¬ plC cs[k].place p < 0) := fun k hk hkm => by
          by_cases e : k = m
          · subst e
            rw [HC.out, HX.out]; exact hneg
          · intro h2
            exact hneg (htr2.out k hk (HSO2.out k hk (by omega)) h2)
        go_wp2_with fail
        go_roundg (m - i)
        case measure => omega
        case rel => exact ⟨i, m, rfl, rfl, by omega, by omega, by omega, B3, R3, HLO, HHI2⟩
    · have hji : j = i := by omega
      subst hji
      have HD := Lib.hid (fun (b : Bool) hb => search_done cs p H32.out HSO.out hp j HLO.out HHI.out b hb)
      by_cases hin : j < cs.length
      · obtain ⟨g, off, so, scap, rfl, -, c32, d1, d2, hlock, hrow⟩ := coin_at (coinR_stays.slB HS.out HB.out (Nat.le_refl _)) j hin
        have HD2 : Hid (∀ b : Bool, (b = true ↔ plC cs[j].place p = 0) → foundAt cs p j b) := fun b hb => HD.out b (hb.trans ⟨fun h => ⟨hin, h⟩, fun ⟨_, h⟩ => h⟩)
        obtain ⟨c, hc⟩ : ∃ c, cs[j] = c := ⟨_, rfl⟩
        rw [hc] at c32 d1 hrow HD2
        clear hlock hc
        have HH : Hid (HeldS w g (off + j * 36) c (.slice so c.lock.length scap) w.heap.size p wr) := ⟨HB.out, hrow, HR.out⟩
        clear hrow d1 d2
        have q6 : (0 : Int) ≤ (j : Int) := by omega
        have q7 : (j : Int) < (cs.length : Int) := by omega
        go_upto_region 8 with fail
        refine wp_region_quiet (C := HeldS w g (off + j * 36) c (.slice so c.lock.length scap) w.heap.size p) (by kernel_rfl) (by kernel_rfl) (HH.out.on (Below.refl _ _).drew) ?_
        iterate 9 quiet_step ((intro _; with_reducible rfl))
        refine wpQuiet_step (fun K hK => ?_)
        rw [if_pos (by rfl)]
        refine quiet_loadC g (off + j * 36) _ rfl (fun w h => h.a) (hK _ ?_)
        clear hK K
        refine wpQuiet_step (fun K hK => ?_)
        rw [if_pos (by rfl)]
        refine quiet_loadP w.heap.size 0 _ rfl (fun w h => h.p) (hK _ ?_)
        clear hK K
        quiet_step ((intro hC; refine (find1_any c _ p c32 hp _).mono ?_; rintro e w9 ⟨rfl, hb9⟩; exact ⟨rfl, hC.on hb9⟩))
        iterate 4 quiet_step ((intro _; with_reducible rfl))
        refine wpQuiet_nil ?_
        intro w3 hw3
        have B3 := Lib.hid hw3.below
        clear hw3
        obtain ⟨x, hx⟩ : ∃ x, plC c.place p = x := ⟨_, rfl⟩
        rw [hx] at HD2 ⊢
        clear hx
        go_wp2
        go_ret2
        exact searchPost_mk j (x == 0) rfl (HD2.out _ beq_iff_eq) hjn B3.out
      · have HF := Lib.hid (HD.out false ⟨(fun h => by cases h), (fun h => absurd h.1 hin)⟩)
        have q1 : decide ((j : Int) < (cs.length : Int)) = false := decide_eq_false (by omega)
        have q2 : ¬ ((j : Int) < (cs.length : Int)) := by omega
        go_upto_region 8 with fail
        go_region
        all_goals
          go_wp2
          go_ret2
          exact searchPost_mk j false rfl HF.out hjn HB.out.drew
theorem cfind_any (cs : List CoinD) (ao : Option Addr) (cap : Nat) (p : PlaceD) (hp : p.tx.length = 32) (w : World) (h : rdSl coinR 36 w (.slice ao cs.length cap) cs) (hn : cs.length ≤ 2000) (h32 : all32 cs) (hs : sortedC cs) :
    Calls Tryz.prog 56 #[.slice ao cs.length cap, .agg (plV p)] w (SearchPost cs p w) := by
  have HS := Lib.hid h
  have H32 := Lib.hid h32; have HSO := Lib.hid hs
  clear h h32 hs
  have hsp : (plV p).size = 33 := plV_size p hp
  have hpp := plV_plain p
  have hb0 : Hid (Below w.heap.size w (w.alloc (.cells (plV p) 97))) := (Below.refl _ _).alloc (Nat.le_refl _) _
  have hr0 : rowAt (w.alloc (.cells (plV p) 97)) w.heap.size 0 33 = some (plV p) := rowAt_whole (heap_alloc_new w (.cells (plV p) 97)) 33 hsp.symm
  go_enter Tryz.func56, Tryz.ntmps56
  go_upto_region 1 with fail
  change Code.wp _ _ _ _ (w.alloc (.cells (plV p) 97))
  generalize w.alloc (.cells (plV p) 97) = wa at hb0 hr0 ⊢
  go_wp2_with fail
  refine (search_any cs ao cap p hp wa (coinR_stays.slB HS.out hb0.out (Nat.le_refl _)) hn H32.out HSO.out).mono ?_
  rintro e w1 ⟨i, b, rfl, hf, hin, hb1⟩
  have B1 := Lib.hid (hb0.out.trans (hb1.mono hb0.out.size)); have HF := Lib.hid hf
  clear hb1 hf hr0
  go_wp2
  go_ret2
  exact searchPost_mk i b rfl HF.out hin B1.out
end Go.Proofs.YtljcdkfafknnpaaGreatDoor
namespace Go.Proofs.YtljcdkfafknnpaaGreatDoor
set_option linter.unusedVariables false
set_option linter.unusedSimpArgs false
open Go.RowKit
attribute [local go_sem ↓] run_load_agg run_store_agg run_load_any

/-- The worlds of a region that reads a place and a coin of the call's own, and calls. -/
structure HeldC (w0 : World) (A ao : Nat) (p : PlaceD) (G : Nat) (c : CoinD) (s : Value) (w : World) : Prop where
  below : Below w0.heap.size w0 w
  a : rowAt w A ao 33 = some (plV p)
  c : CoinAt w G c s
theorem HeldC.on {w0 : World} {A ao : Nat} {p : PlaceD} {G : Nat} {c : CoinD} {s : Value} {w w' : World} (h : HeldC w0 A ao p G c s w) (hb : Below w.heap.size w w') : HeldC w0 A ao p G c s w' :=
  ⟨h.below.trans (hb.mono h.below.size), (rowAt_below hb (rowAt_lt h.a) _ _).trans h.a, h.c.on hb⟩
set_option maxHeartbeats 8000000 in
set_option maxRecDepth 100000 in
theorem setFault_any (cs : List CoinD) (ao : Option Addr) (cap : Nat) (w : World) (h : rdSl coinR 36 w (.slice ao cs.length cap) cs) :
    Calls Tryz.prog 48 #[.slice ao cs.length cap] w fun e w' => e = .returned (.int .i64 (setF cs)) ∧ Below w.heap.size w w' := by
  obtain ⟨_, _, e, hcap, hmax⟩ := sl_bounds h
  cases e
  unfold maxLen at hmax
  have HS := Lib.hid h; clear h
  by_cases hn : 1000 < cs.length
  · have hf : setF cs = 4 := by unfold setF; rw [if_pos hn]
    have HF := Lib.hid hf; clear hf
    go_enter Tryz.func48, Tryz.ntmps48
    go_wp2
    go_ret
    exact ⟨by rw [HF.out]; rfl, Below.refl _ _⟩
  have HN := Lib.hid (setF_of cs hn)
  go_enter Tryz.func48, Tryz.ntmps48
  go_wp2_with fail
  go_loopw [3] (fun c wr => ∃ j : Nat, j ≤ cs.length ∧ c = .int .i64 j ∧ Hid (Below w.heap.size w wr) ∧ Hid (setFrom cs cs.length 0 = setFrom cs (cs.length - j) j)) (fun c _ => cs.length - (intOf c).toNat)
  case atStart => exact ⟨0, by omega, rfl, Lib.hid (Below.refl _ _), Lib.hid rfl⟩
  case round =>
    obtain ⟨j, hj, rfl, HB, HF⟩ := hrel
    by_cases hlt : j < cs.length
    · obtain ⟨g, off, so, scap, rfl, -, h32, d1, d2, hlock, hrow⟩ := coin_at (coinR_stays.slB HS.out HB.out (Nat.le_refl _)) j hlt
      have HSA := Lib.hid (setFrom_ahead cs j hlt); have HSH := Lib.hid (setFrom_hit cs j hlt); have HST := Lib.hid (setFrom_step cs j hlt)
      have hgd : cs.getD j default = cs[j] := by rw [List.getD_eq_getElem?_getD, List.getElem?_eq_getElem hlt, Option.getD_some]
      obtain ⟨c, hc⟩ : ∃ c, cs[j] = c := ⟨_, rfl⟩
      rw [hgd] at HSH HST
      rw [hc] at hgd h32 d1 hlock hrow HSH HST
      have HLK := Lib.hid hlock; have HGD := Lib.hid hgd
      obtain ⟨n1, n2, n3, n4⟩ := new_coin wr c so c.lock.length scap h32
      have B0 := Lib.hid (HB.out.alloc HB.out.size (.cells (coinV c (.slice so c.lock.length scap)) 105))
      have BR := Lib.hid ((Below.refl wr.heap.size wr).alloc (Nat.le_refl _) (.cells (coinV c (.slice so c.lock.length scap)) 105))
      have HCA := Lib.hid (CoinAt.new wr c (.slice so c.lock.length scap) h32)
      have hgl := rowAt_lt hrow
      clear hc hlock hgd
      unfold zCoin at n1 n2
      go_upto_region 7 with fail
      clear n1 n2 n3 n4
      obtain ⟨G, hG⟩ : ∃ G, wr.heap.size = G := ⟨_, rfl⟩
      have hB1 := B0.out
      change Code.wp _ _ _ _ (wr.alloc (.cells (coinV c (.slice so c.lock.length scap)) 105))
      have hrow1 : Hid (∀ o n, rowAt (wr.alloc (.cells (coinV c (.slice so c.lock.length scap)) 105)) g o n = rowAt wr g o n) := fun o n => rowAt_alloc_past _ _ _ _ _ hgl
      rw [hG] at HCA hgl ⊢
      generalize wr.alloc (.cells (coinV c (.slice so c.lock.length scap)) 105) = w0 at B0 BR HCA hB1 hrow1 ⊢
      clear hrow hB1
      go_cut [32] (fun s wx => ∃ b : Bool, s = .bool b ∧ Hid (aheadB cs j = b) ∧ Below wr.heap.size wr wx ∧ CoinAt wx G c (.slice so c.lock.length scap))
      case first =>
        by_cases hj0 : 0 < j
        · obtain ⟨g1, off1, so1, scap1, e1, -, p32, -, -, -, prow⟩ := coin_at (coinR_stays.slB HS.out HB.out (Nat.le_refl _)) (j - 1) (by omega)
          cases e1
          have q1 : decide ((0 : Int) < (j : Int)) = true := decide_eq_true (by omega)
          have q2 : (0 : Int) < (j : Int) := by omega
          obtain ⟨P, hP⟩ : ∃ P, cs[j - 1].place = P := ⟨_, rfl⟩
          have hP32 : P.tx.length = 32 := by rw [← hP]; exact p32
          have hpl : rowAt wr g (off + (j - 1) * 36) 33 = some (plV P) := by
            have := rowAt_part prow 0 33 (by omega)
            rw [Nat.add_zero, Nat.zero_add, coinV_place _ _ p32, hP] at this
            exact this
          have hah : aheadB cs j = decide (0 ≤ plC P c.place) := by
            unfold aheadB
            rw [decide_eq_true hj0, Bool.true_and, HGD.out, List.getD_eq_getElem?_getD, List.getElem?_eq_getElem (show j - 1 < cs.length by omega), Option.getD_some, hP]
          have HAH := Lib.hid hah
          have hc32 : c.place.tx.length = 32 := h32
          obtain ⟨i, hi⟩ : ∃ i, j - 1 = i := ⟨_, rfl⟩
          rw [hi] at hpl
          have q3 : (j : Int) - 1 = (i : Int) := by omega
          have q4 : IntKind.i64.wrap (i : Int) = (i : Int) := by rw [IntKind.wrap_i64]; omega
          have q5 : i < cs.length := by omega
          have q6 : (0 : Int) ≤ (i : Int) := by omega
          have q7 : (i : Int) < (cs.length : Int) := by omega
          have HH : Hid (HeldC wr g (off + i * 36) P G c (.slice so c.lock.length scap) w0) := ⟨BR.out, (hrow1.out _ _).trans hpl, HCA.out⟩
          clear hP hpl hah prow hi p32
          refine wp_region_quiet (C := HeldC wr g (off + i * 36) P G c (.slice so c.lock.length scap)) (by kernel_rfl) (by kernel_rfl) (HH.out.on (Below.refl _ _).drew) ?_
          iterate 8 quiet_step ((intro _; with_reducible rfl))
          refine wpQuiet_step (fun K hK => ?_)
          rw [if_pos (by rfl)]
          refine quiet_loadP g (off + i * 36) _ rfl (fun w h => h.a) (hK _ ?_)
          clear hK K
          quiet_step ((intro _; with_reducible rfl))
          refine wpQuiet_step (fun K hK => ?_)
          rw [if_pos (by rfl)]
          refine quiet_loadP G 0 _ rfl (fun w h => h.c.p) (hK _ ?_)
          clear hK K
          quiet_step ((intro hC; refine (places_any P c.place hP32 hc32 _).mono ?_; rintro e w9 ⟨rfl, hb9⟩; exact ⟨rfl, hC.on hb9⟩))
          iterate 2 quiet_step ((intro _; with_reducible rfl))
          refine wpQuiet_nil ?_
          intro w3 hw3
          have HH3 := Lib.hid hw3
          clear hw3
          go_wp2_with fail
          go_meet
          exact ⟨_, rfl, HAH, HH3.out.below, HH3.out.c⟩
        · have HF0 : Hid (aheadB cs j = false) := by show aheadB cs j = false; unfold aheadB; rw [decide_eq_false hj0]; rfl
          have q1 : decide ((0 : Int) < (j : Int)) = false := decide_eq_false (by omega)
          have q2 : ¬ ((0 : Int) < (j : Int)) := by omega
          go_region
          all_goals
            go_wp2_with fail
            go_meet
            exact ⟨false, rfl, HF0, BR.out.drew, HCA.out.on (Below.refl _ _).drew⟩
      case rest =>
        obtain ⟨b, rfl, HA, hB2, hC2⟩ := hcut
        have B2 := Lib.hid (HB.out.trans (hB2.mono HB.out.size))
        obtain ⟨-, c1, c2, c3, c4⟩ := hC2
        have HLK2 := Lib.hid (opR_stays.slB HLK.out hB2 (Nat.le_refl _))
        clear hB2
        cases b
        case true =>
          have HZ := Lib.hid (HN.out 6 (HF.out.trans (HSA.out HA.out)))
          go_wp2
          go_ret
          exact ⟨by rw [HZ.out]; rfl, B2.out⟩
        have HSH2 := Lib.hid (HSH.out HA.out); have HST2 := Lib.hid (HST.out HA.out)
        have hbad : (c.ix < 0 ∨ 40 ≤ c.ix ∨ c.height < 0 ∨ 1073741824 < c.height ∨ c.amount < 0 ∨ 1125899906842624 < c.amount) → setF cs = 2 := fun hb => HN.out 2 (HF.out.trans (HSH2.out 2 (by unfold coinF; rw [if_pos hb]) (by decide)))
        have hgood : ¬ (c.ix < 0 ∨ 40 ≤ c.ix ∨ c.height < 0 ∨ 1073741824 < c.height ∨ c.amount < 0 ∨ 1125899906842624 < c.amount) → coinF c = lockF c.lock := fun hb => by unfold coinF; rw [if_neg hb]
        have HBAD := Lib.hid hbad; have HGOOD := Lib.hid hgood
        clear hbad hgood
        by_cases h1 : c.ix < 0
        · have HZ := Lib.hid (HBAD.out (.inl h1))
          go_wp2
          go_ret
          exact ⟨by rw [HZ.out]; rfl, B2.out⟩
        by_cases h2 : 40 ≤ c.ix
        · have HZ := Lib.hid (HBAD.out (by omega))
          go_wp2
          go_ret
          exact ⟨by rw [HZ.out]; rfl, B2.out⟩
        by_cases h3 : 0 ≤ c.height ∧ c.height ≤ 1073741824
        · by_cases h4 : 0 ≤ c.amount ∧ c.amount ≤ 1125899906842624
          · have hco := HGOOD.out (by omega)
            have d3 : decide (0 ≤ c.height ∧ c.height ≤ 1073741824) = true := decide_eq_true h3
            have d4 : decide (0 ≤ c.amount ∧ c.amount ≤ 1125899906842624) = true := decide_eq_true h4
            have HT := Lib.hid (time_any c.height); have HM := Lib.hid (money_any c.amount)
            rw [d3] at HT
            rw [d4] at HM
            have HCO := Lib.hid hco
            clear h3 h4 d3 d4 hco
            go_wp2_with fail
            refine (HT.out _).mono ?_
            rintro e w' ⟨rfl, hw'⟩
            rw [hw']
            clear hw' w'
            go_wp2_with fail
            refine (HM.out _).mono ?_
            rintro e w' ⟨rfl, hw'⟩
            rw [hw']
            clear hw' w'
            go_wp2_with fail
            refine (lockFault_any c.lock so scap _ HLK2.out).mono ?_
            rintro e w1 ⟨rfl, hb1⟩
            have B3 := Lib.hid (B2.out.trans (hb1.mono B2.out.size)); clear hb1
            obtain ⟨f, hf⟩ : ∃ x, lockF c.lock = x := ⟨_, rfl⟩
            rw [hf] at HCO ⊢
            clear hf
            by_cases hz : f = 0
            · have hst := HF.out.trans (HST2.out (HCO.out.trans hz))
              have HF2 := Lib.hid hst
              subst hz
              clear hst
              go_wp2
              go_roundw
              case rel => exact ⟨j + 1, by omega, by go_num, B3, HF2⟩
              case measure => simp [intOf]; omega
            · have HZ := Lib.hid (HN.out f (HF.out.trans (HSH2.out f HCO.out hz)))
              have q : (f != 0) = true := by rw [bne_iff_ne]; exact hz
              clear hz
              go_wp2
              go_ret
              exact ⟨by rw [HZ.out]; rfl, B3.out⟩
          · have HZ := Lib.hid (HBAD.out (by omega))
            have d3 : decide (0 ≤ c.height ∧ c.height ≤ 1073741824) = true := decide_eq_true h3
            have d4 : decide (0 ≤ c.amount ∧ c.amount ≤ 1125899906842624) = false := decide_eq_false h4
            have HT := Lib.hid (time_any c.height); have HM := Lib.hid (money_any c.amount)
            rw [d3] at HT
            rw [d4] at HM
            clear h3 h4 d3 d4
            go_wp2_with fail
            refine (HT.out _).mono ?_
            rintro e w' ⟨rfl, hw'⟩
            rw [hw']
            clear hw' w'
            go_wp2_with fail
            refine (HM.out _).mono ?_
            rintro e w' ⟨rfl, hw'⟩
            rw [hw']
            clear hw' w'
            go_wp2
            go_ret
            exact ⟨by rw [HZ.out]; rfl, B2.out⟩
        · have HZ := Lib.hid (HBAD.out (by omega))
          have d3 : decide (0 ≤ c.height ∧ c.height ≤ 1073741824) = false := decide_eq_false h3
          have HT := Lib.hid (time_any c.height)
          rw [d3] at HT
          clear h3 d3
          go_wp2_with fail
          refine (HT.out _).mono ?_
          rintro e w' ⟨rfl, hw'⟩
          rw [hw']
          clear hw' w'
          go_wp2
          go_ret
          exact ⟨by rw [HZ.out]; rfl, B2.out⟩
    · have hz := HN.out 0 (by rw [HF.out]; exact setFrom_end cs j (by omega))
      have HZ := Lib.hid hz
      clear hz
      go_wp2
      go_ret
      exact ⟨by rw [HZ.out]; rfl, HB.out⟩
end Go.Proofs.YtljcdkfafknnpaaGreatDoor
namespace Go.Proofs.YtljcdkfafknnpaaGreatDoor
set_option linter.unusedVariables false
set_option linter.unusedSimpArgs false
open Go.RowKit
attribute [local go_sem ↓] run_load_agg run_store_agg run_load_any

set_option maxHeartbeats 8000000 in
set_option maxRecDepth 100000 in
theorem coinCheck_any (cs : List CoinD) (ao : Option Addr) (cap : Nat) (w : World) (h : rdSl coinR 36 w (.slice ao cs.length cap) cs) :
    Calls Tryz.prog 66 #[.slice ao cs.length cap] w fun e w' => e = .returned (errV (setF cs)) ∧ Below w.heap.size w w' := by
  obtain ⟨_, _, e, hcap, hmax⟩ := sl_bounds h
  cases e
  unfold maxLen at hmax
  have HS := Lib.hid h; clear h
  by_cases hn : 1000 < cs.length
  · have hf : setF cs = 4 := by unfold setF; rw [if_pos hn]
    have HF := Lib.hid hf; clear hf
    go_enter Tryz.func66, Tryz.ntmps66
    go_wp2
    go_ret
    exact ⟨by rw [HF.out]; rfl, Below.refl _ _⟩
  have HN := Lib.hid (setF_of cs hn)
  go_enter Tryz.func66, Tryz.ntmps66
  go_wp2_with fail
  go_loopw [13] (fun c wr => ∃ j : Nat, j ≤ cs.length ∧ c = .int .i64 j ∧ Hid (Below w.heap.size w wr) ∧ Hid (setFrom cs cs.length 0 = setFrom cs (cs.length - j) j)) (fun c _ => cs.length - (intOf c).toNat)
  case atStart => exact ⟨0, by omega, rfl, Lib.hid (Below.refl _ _), Lib.hid rfl⟩
  case round =>
    obtain ⟨j, hj, rfl, HB, HF⟩ := hrel
    by_cases hlt : j < cs.length
    · obtain ⟨g, off, so, scap, rfl, -, h32, d1, d2, hlock, hrow⟩ := coin_at (coinR_stays.slB HS.out HB.out (Nat.le_refl _)) j hlt
      have HSA := Lib.hid (setFrom_ahead cs j hlt); have HSH := Lib.hid (setFrom_hit cs j hlt); have HST := Lib.hid (setFrom_step cs j hlt)
      have hgd : cs.getD j default = cs[j] := by rw [List.getD_eq_getElem?_getD, List.getElem?_eq_getElem hlt, Option.getD_some]
      obtain ⟨c, hc⟩ : ∃ c, cs[j] = c := ⟨_, rfl⟩
      rw [hgd] at HSH HST
      rw [hc] at hgd h32 d1 hlock hrow HSH HST
      have HLK := Lib.hid hlock; have HGD := Lib.hid hgd
      obtain ⟨n1, n2, n3, n4⟩ := new_coin wr c so c.lock.length scap h32
      have B0 := Lib.hid (HB.out.alloc HB.out.size (.cells (coinV c (.slice so c.lock.length scap)) 105))
      have BR := Lib.hid ((Below.refl wr.heap.size wr).alloc (Nat.le_refl _) (.cells (coinV c (.slice so c.lock.length scap)) 105))
      have HCA := Lib.hid (CoinAt.new wr c (.slice so c.lock.length scap) h32)
      have hgl := rowAt_lt hrow
      clear hc hlock hgd
      unfold zCoin at n1 n2
      go_upto_region 6 with fail
      clear n1 n2 n3 n4
      obtain ⟨G, hG⟩ : ∃ G, wr.heap.size = G := ⟨_, rfl⟩
      have hB1 := B0.out
      change Code.wp _ _ _ _ (wr.alloc (.cells (coinV c (.slice so c.lock.length scap)) 105))
      have hrow1 : Hid (∀ o n, rowAt (wr.alloc (.cells (coinV c (.slice so c.lock.length scap)) 105)) g o n = rowAt wr g o n) := fun o n => rowAt_alloc_past _ _ _ _ _ hgl
      rw [hG] at HCA hgl ⊢
      generalize wr.alloc (.cells (coinV c (.slice so c.lock.length scap)) 105) = w0 at B0 BR HCA hB1 hrow1 ⊢
      clear hrow hB1
      go_cut [18] (fun s wx => ∃ b : Bool, s = .bool b ∧ Hid (aheadB cs j = b) ∧ Below wr.heap.size wr wx ∧ CoinAt wx G c (.slice so c.lock.length scap))
      case first =>
        by_cases hj0 : 0 < j
        · obtain ⟨g1, off1, so1, scap1, e1, -, p32, -, -, -, prow⟩ := coin_at (coinR_stays.slB HS.out HB.out (Nat.le_refl _)) (j - 1) (by omega)
          cases e1
          have q1 : decide ((0 : Int) < (j : Int)) = true := decide_eq_true (by omega)
          have q2 : (0 : Int) < (j : Int) := by omega
          obtain ⟨P, hP⟩ : ∃ P, cs[j - 1].place = P := ⟨_, rfl⟩
          have hP32 : P.tx.length = 32 := by rw [← hP]; exact p32
          have hpl : rowAt wr g (off + (j - 1) * 36) 33 = some (plV P) := by
            have := rowAt_part prow 0 33 (by omega)
            rw [Nat.add_zero, Nat.zero_add, coinV_place _ _ p32, hP] at this
            exact this
          have hah : aheadB cs j = decide (0 ≤ plC P c.place) := by
            unfold aheadB
            rw [decide_eq_true hj0, Bool.true_and, HGD.out, List.getD_eq_getElem?_getD, List.getElem?_eq_getElem (show j - 1 < cs.length by omega), Option.getD_some, hP]
          have HAH := Lib.hid hah
          have hc32 : c.place.tx.length = 32 := h32
          obtain ⟨i, hi⟩ : ∃ i, j - 1 = i := ⟨_, rfl⟩
          rw [hi] at hpl
          have q3 : (j : Int) - 1 = (i : Int) := by omega
          have q4 : IntKind.i64.wrap (i : Int) = (i : Int) := by rw [IntKind.wrap_i64]; omega
          have q5 : i < cs.length := by omega
          have q6 : (0 : Int) ≤ (i : Int) := by omega
          have q7 : (i : Int) < (cs.length : Int) := by omega
          have HH : Hid (HeldC wr g (off + i * 36) P G c (.slice so c.lock.length scap) w0) := ⟨BR.out, (hrow1.out _ _).trans hpl, HCA.out⟩
          clear hP hpl hah prow hi p32
          refine wp_region_quiet (C := HeldC wr g (off + i * 36) P G c (.slice so c.lock.length scap)) (by kernel_rfl) (by kernel_rfl) (HH.out.on (Below.refl _ _).drew) ?_
          iterate 8 quiet_step ((intro _; with_reducible rfl))
          refine wpQuiet_step (fun K hK => ?_)
          rw [if_pos (by rfl)]
          refine quiet_loadP g (off + i * 36) _ rfl (fun w h => h.a) (hK _ ?_)
          clear hK K
          quiet_step ((intro _; with_reducible rfl))
          refine wpQuiet_step (fun K hK => ?_)
          rw [if_pos (by rfl)]
          refine quiet_loadP G 0 _ rfl (fun w h => h.c.p) (hK _ ?_)
          clear hK K
          quiet_step ((intro hC; refine (compare_any P c.place hP32 hc32 _).mono ?_; rintro e w9 ⟨rfl, hb9⟩; exact ⟨rfl, hC.on hb9⟩))
          iterate 3 quiet_step ((intro _; with_reducible rfl))
          refine wpQuiet_nil ?_
          intro w3 hw3
          have HH3 := Lib.hid hw3
          clear hw3
          go_wp2_with fail
          go_meet
          exact ⟨_, rfl, HAH, HH3.out.below, HH3.out.c⟩
        · have HF0 : Hid (aheadB cs j = false) := by show aheadB cs j = false; unfold aheadB; rw [decide_eq_false hj0]; rfl
          have q1 : decide ((0 : Int) < (j : Int)) = false := decide_eq_false (by omega)
          have q2 : ¬ ((0 : Int) < (j : Int)) := by omega
          go_region
          all_goals
            go_wp2_with fail
            go_meet
            exact ⟨false, rfl, HF0, BR.out.drew, HCA.out.on (Below.refl _ _).drew⟩
      case rest =>
        obtain ⟨b, rfl, HA, hB2, hC2⟩ := hcut
        have B2 := Lib.hid (HB.out.trans (hB2.mono HB.out.size))
        obtain ⟨-, c1, c2, c3, c4⟩ := hC2
        have HLK2 := Lib.hid (opR_stays.slB HLK.out hB2 (Nat.le_refl _))
        clear hB2
        cases b
        case true =>
          have HZ := Lib.hid (HN.out 6 (HF.out.trans (HSA.out HA.out)))
          go_wp2
          go_ret
          exact ⟨by rw [HZ.out]; rfl, B2.out⟩
        have HSH2 := Lib.hid (HSH.out HA.out); have HST2 := Lib.hid (HST.out HA.out)
        have hbad : (c.ix < 0 ∨ 40 ≤ c.ix ∨ c.height < 0 ∨ 1073741824 < c.height ∨ c.amount < 0 ∨ 1125899906842624 < c.amount) → setF cs = 2 := fun hb => HN.out 2 (HF.out.trans (HSH2.out 2 (by unfold coinF; rw [if_pos hb]) (by decide)))
        have hgood : ¬ (c.ix < 0 ∨ 40 ≤ c.ix ∨ c.height < 0 ∨ 1073741824 < c.height ∨ c.amount < 0 ∨ 1125899906842624 < c.amount) → coinF c = lockF c.lock := fun hb => by unfold coinF; rw [if_neg hb]
        have HBAD := Lib.hid hbad; have HGOOD := Lib.hid hgood
        clear hbad hgood
        by_cases h1 : c.ix < 0
        · have HZ := Lib.hid (HBAD.out (.inl h1))
          go_wp2
          go_ret
          exact ⟨by rw [HZ.out]; rfl, B2.out⟩
        by_cases h2 : 40 ≤ c.ix
        · have HZ := Lib.hid (HBAD.out (by omega))
          go_wp2
          go_ret
          exact ⟨by rw [HZ.out]; rfl, B2.out⟩
        by_cases h3 : c.height < 0
        · have HZ := Lib.hid (HBAD.out (by omega))
          go_wp2
          go_ret
          exact ⟨by rw [HZ.out]; rfl, B2.out⟩
        by_cases h4 : 1073741824 < c.height
        · have HZ := Lib.hid (HBAD.out (by omega))
          go_wp2
          go_ret
          exact ⟨by rw [HZ.out]; rfl, B2.out⟩
        by_cases h5 : c.amount < 0 ∨ 1125899906842624 < c.amount
        · have HZ := Lib.hid (HBAD.out (by omega))
          have hm : moneyF c.amount = 2 := by unfold moneyF; rw [if_pos h5]
          have HM := Lib.hid (moneyCheck_any c.amount)
          rw [hm, errV_ne (c := 2) (by decide)] at HM
          clear h5 hm
          go_wp2_with fail
          refine (HM.out _).mono ?_
          rintro e w' ⟨rfl, hw'⟩
          rw [hw']
          clear hw' w'
          go_wp2
          go_ret
          exact ⟨by rw [HZ.out]; rfl, B2.out⟩
        · have hco := HGOOD.out (by omega)
          have HCO := Lib.hid hco
          have hm : moneyF c.amount = 0 := by unfold moneyF; rw [if_neg h5]
          have HM := Lib.hid (moneyCheck_any c.amount)
          rw [hm, errV_0] at HM
          clear h5 hm hco
          go_wp2_with fail
          refine (HM.out _).mono ?_
          rintro e w' ⟨rfl, hw'⟩
          rw [hw']
          clear hw' w'
          go_wp2_with fail
          refine (lockCheck_any c.lock so scap _ HLK2.out).mono ?_
          rintro e w1 ⟨rfl, hb1⟩
          have B3 := Lib.hid (B2.out.trans (hb1.mono B2.out.size)); clear hb1
          obtain ⟨f, hf⟩ : ∃ x, lockF c.lock = x := ⟨_, rfl⟩
          rw [hf] at HCO ⊢
          clear hf
          by_cases hz : f = 0
          · have hst := HF.out.trans (HST2.out (HCO.out.trans hz))
            have HF2 := Lib.hid hst
            subst hz
            clear hst
            rw [errV_0]
            go_wp2
            go_roundw
            case rel => exact ⟨j + 1, by omega, by go_num, B3, HF2⟩
            case measure => simp [intOf]; omega
          · have HZ := Lib.hid (HN.out f (HF.out.trans (HSH2.out f HCO.out hz)))
            have HNZ := Lib.hid hz
            rw [errV_ne hz]
            clear hz
            go_wp2
            go_ret
            exact ⟨by rw [HZ.out, errV_ne HNZ.out]; rfl, B3.out⟩
    · have hz := HN.out 0 (by rw [HF.out]; exact setFrom_end cs j (by omega))
      have HZ := Lib.hid hz
      clear hz
      go_wp2
      go_ret
      exact ⟨by rw [HZ.out]; rfl, HB.out⟩
end Go.Proofs.YtljcdkfafknnpaaGreatDoor
namespace Go.Proofs.YtljcdkfafknnpaaGreatDoor
set_option linter.unusedVariables false
set_option linter.unusedSimpArgs false
open Go.RowKit
attribute [local go_sem ↓] run_load_agg run_store_agg run_load_any

theorem rdSl_one {α : Type} {R : Rd α} {sz : Nat} {w : World} {g off n cap : Nat} {zs : List α} (h : rdSl R sz w (.slice (some ⟨g, off, none⟩) n cap) zs) (hsz : 0 < sz) (i : Nat) (hi : i < zs.length) : rdSl R sz w (.slice (some ⟨g, off + i * sz, none⟩) 1 (cap - i)) [zs[i]] := by
  obtain ⟨xs, ⟨ao, cap', e, h1, h2, h3⟩, h4, h5⟩ := h
  cases e
  have hle : i * sz + sz ≤ zs.length * sz := by
    have := Nat.mul_le_mul_right sz (show i + 1 ≤ zs.length from hi)
    rw [Nat.add_mul] at this; omega
  refine ⟨(xs.drop (i * sz)).take sz, ⟨_, _, rfl, by simp; omega, by omega, ?_⟩, by simp; omega, fun j a ha => ?_⟩
  · rcases h3 with h3 | ⟨g', off', e2, h3⟩
    · subst h3; simp at h4; omega
    · cases e2
      refine .inr ⟨g, off + i * sz, rfl, fun j u hj => ?_⟩
      rw [List.getElem?_take] at hj
      split at hj
      · rw [List.getElem?_drop] at hj
        have := h3 _ _ hj
        rwa [Nat.add_assoc]
      · cases hj
  · have hj0 : j = 0 := by
      have := (List.getElem?_eq_some_iff.1 ha).1
      simp at this; omega
    subst hj0
    have hz : zs[i] = a := by simpa using ha
    subst hz
    have := h5 i zs[i] (List.getElem?_eq_getElem hi)
    rw [Nat.zero_mul, List.drop_zero, List.take_take, Nat.min_self]
    exact this
/-- What Find answers. -/
def FindPost (cs : List CoinD) (p : PlaceD) (w : World) (e : Ending) (w' : World) : Prop :=
  Below w.heap.size w w' ∧
  ((setF cs ≠ 0 ∧ e = .returned (.tuple #[.agg zCoin, errV (setF cs)])) ∨
   (setF cs = 0 ∧ atF p cs 0 = -1 ∧ e = .returned (.tuple #[.agg zCoin, errV 5])) ∨
   (∃ (i : Nat) (hi : i < cs.length) (so : Option Addr) (cap : Nat), setF cs = 0 ∧ atF p cs 0 = i ∧ e = .returned (.tuple #[.agg (coinV cs[i] (.slice so cs[i].lock.length cap)), errV 0]) ∧ rdSl opR 3 w' (.slice so cs[i].lock.length cap) cs[i].lock))
theorem all32_of {cs : List CoinD} {w : World} {ao : Option Addr} {cap : Nat} (h : rdSl coinR 36 w (.slice ao cs.length cap) cs) : all32 cs := fun i hi => by
  obtain ⟨_, _, _, _, _, _, h32, -⟩ := coin_at h i hi
  exact h32
theorem locks_of {cs : List CoinD} (h : setF cs = 0) : ∀ c ∈ cs, lockF c.lock = 0 := by
  intro c hc
  obtain ⟨k, hk, rfl⟩ := List.mem_iff_getElem.1 hc
  obtain ⟨-, h2⟩ := (setF_zero cs h).2 k hk
  rw [List.getD_eq_getElem?_getD, List.getElem?_eq_getElem hk, Option.getD_some] at h2
  unfold coinF at h2
  split at h2
  · cases h2
  · exact h2
theorem opO_kept {w w' : World} {base : Nat} (hk : ∀ k, base ≤ k → k < w.heap.size → w'.heap[k]? = w.heap[k]?) {o : OpD} {cs : List Value} (h : opO base w o cs) : opO base w' o cs := by
  obtain ⟨s, h1, h2⟩ := h
  exact ⟨s, h1, own_kept h2 fun k _ hb hlt => hk k hb hlt⟩
theorem coinO_kept {w w' : World} {base : Nat} (hk : ∀ k, base ≤ k → k < w.heap.size → w'.heap[k]? = w.heap[k]?) {c : CoinD} {cs : List Value} (h : coinO base w c cs) : coinO base w' c cs := by
  obtain ⟨s, ys, h1, h2, h3, h4⟩ := h
  exact ⟨s, ys, h1, h2, own_kept h3 fun k _ hb hlt => hk k hb hlt, rdEach_map h4 (fun a cs ha => opO_kept hk ha)⟩
/-- The one coin that Copy answers: where it lies, and that its lock is of the call's own. -/
theorem one_coin {w : World} {base : Nat} {v : Value} {c : CoinD} {xs : List Value} (h : own w base 105 36 v 1 xs) (he : rdEach (coinO base) 36 w [c] xs) :
    ∃ g off so ocap scap, v = .slice (some ⟨g, off, none⟩) 1 ocap ∧ c.tx.length = 32 ∧ rowAt w g (off + 0 * 36) 36 = some (coinV c (.slice so c.lock.length scap)) ∧ 1 ≤ ocap ∧ ocap ≤ 2 ^ 63 - 1 ∧
      ∀ w' : World, (∀ k, base ≤ k → k < w.heap.size → w'.heap[k]? = w.heap[k]?) → rdSl opR 3 w' (.slice so c.lock.length scap) c.lock := by
  have h' := h
  obtain ⟨-, oo, ocap, rfl, o1, o2, -⟩ := h'
  unfold maxLen at o2
  have hr : rdSl (coinO base) 36 w (.slice oo 1 ocap) [c] := ⟨xs, own_rd h, he⟩
  obtain ⟨g, off, cap', cs, e, hR, hl, hrow⟩ := rdSl_row hr (by decide) 0 c rfl
  cases e
  obtain ⟨s, ys, e1, h2, h3, h4⟩ := hR
  have h3' := h3
  obtain ⟨-, so, scap, rfl, -, -, -⟩ := h3'
  refine ⟨g, off, so, _, scap, rfl, h2, ?_, o1, o2, fun w' hk => ⟨ys, own_rd (own_kept h3 fun k _ hb hlt => hk k hb hlt), rdEach_map h4 (fun a cs ha => opO_rd (opO_kept hk ha))⟩⟩
  rw [hrow, e1]
  congr 1
  simp [coinV, dgV]
end Go.Proofs.YtljcdkfafknnpaaGreatDoor
namespace Go.Proofs.YtljcdkfafknnpaaGreatDoor
set_option linter.unusedVariables false
set_option linter.unusedSimpArgs false
open Go.RowKit
attribute [local go_sem ↓] run_load_agg run_store_agg run_load_any

/-- Worlds that differ by draws alone. -/
def Drawn (w w' : World) : Prop := ∃ m, w' = w.drewN m
theorem Drawn.refl (w : World) : Drawn w w := ⟨0, rfl⟩
theorem Drawn.drewN {w w' : World} (h : Drawn w w') (q : Nat) : Drawn w (w'.drewN q) := by
  obtain ⟨m, rfl⟩ := h
  exact ⟨m + q, by rw [World.drewN_drewN]⟩
theorem Drawn.drew {w w' : World} (h : Drawn w w') : Drawn w w'.drew := h.drewN 1
theorem Drawn.below {w w' : World} (h : Drawn w w') : Below w.heap.size w w' := by
  obtain ⟨m, rfl⟩ := h
  exact below_drewN (Below.refl _ _) m
theorem rd_cells {w : World} {ao : Option Addr} {n cap : Nat} {xs : List Value} (h : rd w (.slice ao n cap) n xs) (j : Nat) (hj : j < xs.length) : ∃ g off, ao = some ⟨g, off, none⟩ ∧ ∀ i (hi : i < xs.length), w.cell? ⟨g, off + i, none⟩ = some xs[i] := by
  obtain ⟨_, _, e, k1, k2, h3⟩ := h
  cases e
  rcases h3 with h3 | ⟨g, off, rfl, h3⟩
  · subst h3; cases hj
  · exact ⟨g, off, rfl, fun i hi => h3 i _ (List.getElem?_eq_getElem hi)⟩
set_option maxHeartbeats 1000000 in
set_option maxRecDepth 100000 in
theorem bytes_same (b : List UInt8) (ao bo : Option Addr) (n c1 c2 : Nat) (w : World) (h1 : rd w (.slice ao n c1) n (b.map vB)) (h2 : rd w (.slice bo n c2) n (b.map vB)) (hl : b.length = n) :
    Calls Tryz.prog 11 #[.slice ao n c1, .slice bo n c2] w fun e w' => e = .returned (.bool true) ∧ Drawn w w' := by
  have h1' := h1
  obtain ⟨_, _, e, k1, k2, -⟩ := h1'
  cases e
  have h2' := h2
  obtain ⟨_, _, e, p1, p2, -⟩ := h2'
  cases e
  unfold maxLen at k2 p2
  have H1 := Lib.hid h1; have H2 := Lib.hid h2; have HL := Lib.hid hl; clear h1 h2 hl
  go_enter Tryz.func11, Tryz.ntmps11
  go_wp2_with fail
  go_loopw [5] (fun c wr => ∃ j : Nat, j ≤ n ∧ c = .int .i64 j ∧ Drawn w wr) (fun c _ => n - (intOf c).toNat)
  case atStart => exact ⟨0, by omega, rfl, Drawn.refl _⟩
  case round =>
    obtain ⟨j, hj, rfl, hB⟩ := hrel
    have B := Lib.hid hB; clear hB
    by_cases hlt : j < n
    · have hjl : j < (b.map vB).length := by have := HL.out; simp; omega
      obtain ⟨ag, aoff, rfl, acs⟩ := rd_cells (rd_belowB H1.out B.out.below (Nat.le_refl _)) j hjl
      obtain ⟨bg, boff, rfl, bcs⟩ := rd_cells (rd_belowB H2.out B.out.below (Nat.le_refl _)) j hjl
      have a1 := acs j hjl
      have b1 := bcs j hjl
      obtain ⟨u, hu⟩ : ∃ u : Int, (b.map vB)[j] = .int .u8 u := ⟨bv (b[j]'(by simpa using hjl)), by simp [vB]⟩
      rw [hu] at a1 b1
      clear acs bcs hu hjl
      go_wp2_with fail
      go_region
      all_goals
        go_wp2
        go_roundw
        case rel => exact ⟨j + 1, by omega, by go_num, B.out.drew⟩
        case measure => simp [intOf]; omega
    · go_wp2
      go_ret
      exact ⟨rfl, B.out⟩
theorem op_cells {w : World} {g o : Nat} {a b d : Value} (h : rowAt w g o 3 = some #[a, b, d]) : w.cell? ⟨g, o, none⟩ = some a ∧ w.cell? ⟨g, o + 1, none⟩ = some b ∧ w.cell? ⟨g, o + 2, none⟩ = some d :=
  ⟨by simpa using cell_of_rowAt h 0 (by omega), by simpa using cell_of_rowAt h 1 (by omega), by simpa using cell_of_rowAt h 2 (by omega)⟩
set_option maxHeartbeats 1600000 in
set_option maxRecDepth 100000 in
theorem lock_same (os : List OpD) (ao bo : Option Addr) (n c1 c2 : Nat) (w : World) (h1 : rdSl opR 3 w (.slice ao n c1) os) (h2 : rdSl opR 3 w (.slice bo n c2) os) (hl : os.length = n) :
    Calls Tryz.prog 62 #[.slice ao n c1, .slice bo n c2] w fun e w' => e = .returned (.bool true) ∧ Drawn w w' := by
  subst hl
  obtain ⟨_, _, e, k1, k2⟩ := sl_bounds h1
  cases e
  obtain ⟨_, _, e, p1, p2⟩ := sl_bounds h2
  cases e
  unfold maxLen at k2 p2
  have H1 := Lib.hid h1; have H2 := Lib.hid h2; clear h1 h2
  go_enter Tryz.func62, Tryz.ntmps62
  go_wp2_with fail
  go_loopw [5] (fun c wr => ∃ j : Nat, j ≤ os.length ∧ c = .int .i64 j ∧ Drawn w wr) (fun c _ => os.length - (intOf c).toNat)
  case atStart => exact ⟨0, by omega, rfl, Drawn.refl _⟩
  case round =>
    obtain ⟨j, hj, rfl, hB⟩ := hrel
    have B := Lib.hid hB; clear hB
    by_cases hlt : j < os.length
    · obtain ⟨ag, aoff, sa, acap, rfl, -, a1, a2, adat, arow⟩ := op_at (opR_stays.slB H1.out B.out.below (Nat.le_refl _)) j hlt
      obtain ⟨bg, boff, sb, bcap, rfl, -, b1, b2, bdat, brow⟩ := op_at (opR_stays.slB H2.out B.out.below (Nat.le_refl _)) j hlt
      obtain ⟨o, ho⟩ : ∃ o, os[j] = o := ⟨_, rfl⟩
      rw [ho] at adat bdat arow brow a1 b1
      have AR := Lib.hid arow; have BR := Lib.hid brow
      obtain ⟨r1, r2, r3⟩ := op_cells arow
      obtain ⟨t1, t2, t3⟩ := op_cells brow
      have HD : Hid (∀ k, Calls Tryz.prog 11 #[.slice sa o.data.length acap, .slice sb o.data.length bcap] (wr.drewN k) fun e w' => e = .returned (.bool true) ∧ Drawn (wr.drewN k) w') :=
        Lib.hid fun k => bytes_same o.data sa sb o.data.length acap bcap (wr.drewN k) (rd_belowB adat (below_drewN (Below.refl _ _) k) (Nat.le_refl _)) (rd_belowB bdat (below_drewN (Below.refl _ _) k) (Nat.le_refl _)) rfl
      clear adat bdat arow brow ho AR BR
      go_wp2_with fail
      go_quiet (first | (go_at_call 11; refine Calls.quiet_of (HD.out _)))
      clear HD
      go_wp2_with fail
      go_region
      all_goals
        go_wp2
        go_roundw
        case rel => exact ⟨j + 1, by omega, by go_num, (B.out.drewN _).drew⟩
        case measure => simp [intOf]; omega
    · go_wp2
      go_ret
      exact ⟨rfl, B.out⟩
theorem plE_self (p : PlaceD) : plE p p = true := by simp [plE]
structure CoinIn (w : World) (g o : Nat) (c : CoinD) (s : Value) : Prop where
  p : rowAt w g o 33 = some (plV c.place)
  amount : w.cell? ⟨g, o + 33, none⟩ = some (.int .i64 c.amount)
  lock : w.cell? ⟨g, o + 34, none⟩ = some s
  height : w.cell? ⟨g, o + 35, none⟩ = some (.int .i64 c.height)
theorem coin_in {w : World} {g o : Nat} {c : CoinD} {s : Value} (h : rowAt w g o 36 = some (coinV c s)) (h32 : c.tx.length = 32) : CoinIn w g o c s := by
  obtain ⟨t1, t2, t3, t4⟩ := coinV_tail c s h32
  refine ⟨?_, (cell_of_rowAt h 33 (by omega)).trans t2, (cell_of_rowAt h 34 (by omega)).trans t3, (cell_of_rowAt h 35 (by omega)).trans t4⟩
  have := rowAt_part h 0 33 (by omega)
  rw [Nat.add_zero, Nat.zero_add, coinV_place _ _ h32] at this
  exact this
set_option maxHeartbeats 1600000 in
set_option maxRecDepth 100000 in
theorem coins_same (cs : List CoinD) (ao bo : Option Addr) (n c1 c2 : Nat) (w : World) (h1 : rdSl coinR 36 w (.slice ao n c1) cs) (h2 : rdSl coinR 36 w (.slice bo n c2) cs) (hl : cs.length = n) :
    Calls Tryz.prog 24 #[.slice ao n c1, .slice bo n c2] w fun e w' => e = .returned (.bool true) ∧ Drawn w w' := by
  subst hl
  obtain ⟨_, _, e, k1, k2⟩ := sl_bounds h1
  cases e
  obtain ⟨_, _, e, p1, p2⟩ := sl_bounds h2
  cases e
  unfold maxLen at k2 p2
  have H1 := Lib.hid h1; have H2 := Lib.hid h2; clear h1 h2
  go_enter Tryz.func24, Tryz.ntmps24
  go_wp2_with fail
  go_loopw [5] (fun c wr => ∃ j : Nat, j ≤ cs.length ∧ c = .int .i64 j ∧ Drawn w wr) (fun c _ => cs.length - (intOf c).toNat)
  case atStart => exact ⟨0, by omega, rfl, Drawn.refl _⟩
  case round =>
    obtain ⟨j, hj, rfl, hB⟩ := hrel
    have B := Lib.hid hB; clear hB
    by_cases hlt : j < cs.length
    · obtain ⟨ag, aoff, sa, acap, rfl, -, a32, a1, a2, adat, arow⟩ := coin_at (coinR_stays.slB H1.out B.out.below (Nat.le_refl _)) j hlt
      obtain ⟨bg, boff, sb, bcap, rfl, -, -, b1, b2, bdat, brow⟩ := coin_at (coinR_stays.slB H2.out B.out.below (Nat.le_refl _)) j hlt
      obtain ⟨c, hc⟩ : ∃ c, cs[j] = c := ⟨_, rfl⟩
      rw [hc] at adat bdat arow brow a1 b1 a32
      have AR := Lib.hid arow; have BR := Lib.hid brow
      obtain ⟨r1, r2, r3, r4⟩ := coin_in arow a32
      obtain ⟨t1, t2, t3, t4⟩ := coin_in brow a32
      have he := run_eql_place c.place c.place a32 a32
      rw [plE_self] at he
      have HD : Hid (∀ k, Calls Tryz.prog 62 #[.slice sa c.lock.length acap, .slice sb c.lock.length bcap] (wr.drewN k) fun e w' => e = .returned (.bool true) ∧ Drawn (wr.drewN k) w') :=
        Lib.hid fun k => lock_same c.lock sa sb c.lock.length acap bcap (wr.drewN k) (opR_stays.slB adat (below_drewN (Below.refl _ _) k) (Nat.le_refl _)) (opR_stays.slB bdat (below_drewN (Below.refl _ _) k) (Nat.le_refl _)) rfl
      clear adat bdat arow brow hc AR BR
      go_wp2_with fail
      go_quiet (first | (go_at_call 62; refine Calls.quiet_of (HD.out _)))
      clear HD
      go_wp2_with fail
      go_region
      all_goals
        go_wp2
        go_roundw
        case rel => exact ⟨j + 1, by omega, by go_num, (B.out.drewN _).drew⟩
        case measure => simp [intOf]; omega
    · go_wp2
      go_ret
      exact ⟨rfl, B.out⟩
end Go.Proofs.YtljcdkfafknnpaaGreatDoor
namespace Go.Proofs.YtljcdkfafknnpaaGreatDoor
set_option linter.unusedVariables false
set_option linter.unusedSimpArgs false
open Go.RowKit

theorem big_key (so : Option Addr) (n cap : Nat) (hn : n ≤ cap) (hc : cap ≤ 2 ^ 63 - 1) (w : World) :
    Calls Tryz.prog 138 #[.slice so n cap] w fun e w' => e = .returned (.bool (decide (3000 < n))) ∧ w' = w := by
  by_cases h : 3000 < n
  all_goals
    go_enter Tryz.func138, Tryz.ntmps138
    go_wp2
    go_ret
    exact ⟨by simp [h]; omega, rfl⟩
theorem txTime_any (n : Int) (w : World) : Calls Tryz.prog 118 #[.int .i64 n] w fun e w' => e = .returned (.bool (decide (0 ≤ n ∧ n ≤ 1073741824))) ∧ w' = w := by
  by_cases h0 : 0 ≤ n <;> by_cases h1 : n ≤ 1073741824
  all_goals
    go_enter Tryz.func118, Tryz.ntmps118
    go_wp2
    go_ret
    exact ⟨by simp [h0, h1], rfl⟩
/-- The first key that is too long. -/
def longF : List (List UInt8) → Nat → Int
  | [], _ => -1
  | k :: ks, j => if 3000 < k.length then (j : Int) else longF ks (j + 1)
theorem bs_at {w : World} {ao : Option Addr} {n cap : Nat} {ks : List (List UInt8)} (h : rdSl bsR 1 w (.slice ao n cap) ks) (j : Nat) (hj : j < ks.length) :
    ∃ g off so scap, ao = some ⟨g, off, none⟩ ∧ n = ks.length ∧ ks[j].length ≤ scap ∧ scap ≤ 2 ^ 63 - 1 ∧ rd w (.slice so ks[j].length scap) ks[j].length (ks[j].map vB) ∧ w.cell? ⟨g, off + j, none⟩ = some (.slice so ks[j].length scap) := by
  obtain ⟨g, off, cap', xs, e, hR, hl, hrow⟩ := rdSl_row h (by decide) j ks[j] (List.getElem?_eq_getElem hj)
  cases e
  obtain ⟨s, rfl, hs⟩ := hR
  have hs' := hs
  obtain ⟨so, scap, rfl, h1, h2, -⟩ := hs'
  unfold maxLen at h2
  refine ⟨g, off, so, scap, rfl, rfl, h1, by omega, hs, ?_⟩
  have := cell_of_rowAt hrow 0 (by omega)
  rw [Nat.mul_one, Nat.add_zero] at this
  rw [this]
  simp
theorem longF_hit (ks : List (List UInt8)) (j : Nat) (hj : j < ks.length) (h : 3000 < ks[j].length) (k : Nat) : longF (ks.drop j) k = k := by
  rw [List.drop_eq_getElem_cons hj]; unfold longF; rw [if_pos h]
theorem longF_step (ks : List (List UInt8)) (j : Nat) (hj : j < ks.length) (h : ¬ 3000 < ks[j].length) (k : Nat) : longF (ks.drop j) k = longF (ks.drop (j + 1)) (k + 1) := by
  rw [List.drop_eq_getElem_cons hj]; conv => lhs; unfold longF
  rw [if_neg h]
set_option maxHeartbeats 1000000 in
set_option maxRecDepth 100000 in
theorem indexKeys_any (ks : List (List UInt8)) (ao : Option Addr) (cap : Nat) (w : World) (h : rdSl bsR 1 w (.slice ao ks.length cap) ks) :
    Calls Tryz.prog 144 #[.slice ao ks.length cap, .func (Fn.func 138) #[] #[]] w fun e w' => e = .returned (.int .i64 (longF ks 0)) ∧ Drawn w w' := by
  obtain ⟨_, _, e, hcap, hmax⟩ := sl_bounds h
  cases e
  unfold maxLen at hmax
  have HS := Lib.hid h; clear h
  go_enter Tryz.func144, Tryz.ntmps144
  go_wp2_with fail
  go_loopw [8] (fun c wr => ∃ j : Nat, j ≤ ks.length ∧ c = .int .i64 j ∧ Drawn w wr ∧ Hid (longF ks 0 = longF (ks.drop j) j)) (fun c _ => ks.length - (intOf c).toNat)
  case atStart => exact ⟨0, by omega, rfl, Drawn.refl _, Lib.hid rfl⟩
  case round =>
    obtain ⟨j, hj, rfl, hB, HF⟩ := hrel
    have B := Lib.hid hB; clear hB
    by_cases hlt : j < ks.length
    · obtain ⟨g, off, so, scap, rfl, -, d1, d2, -, hcell⟩ := bs_at (bsR_stays.slB HS.out B.out.below (Nat.le_refl _)) j hlt
      have hhit := longF_hit ks j hlt
      have hst := longF_step ks j hlt
      have HC := Lib.hid (big_key so ks[j].length scap d1 d2 wr)
      obtain ⟨n, hn⟩ : ∃ n, ks[j].length = n := ⟨_, rfl⟩
      rw [hn] at hhit hst HC d1 hcell
      have HH := Lib.hid hhit; have HT := Lib.hid hst
      clear hhit hst hn
      go_wp2_with fail
      refine Calls.mono HC.out ?_
      rintro e w1 ⟨rfl, hw1⟩
      rw [hw1]
      clear hw1 w1
      by_cases hb : 3000 < n
      · have HR := Lib.hid (HF.out.trans (HH.out hb j))
        rw [decide_eq_true hb]
        go_wp2
        go_ret
        exact ⟨by rw [HR.out]; rfl, B.out⟩
      · have HR := Lib.hid (HF.out.trans (HT.out hb j))
        rw [decide_eq_false hb]
        go_wp2
        go_roundw
        case rel => exact ⟨j + 1, by omega, by go_num, B.out, HR⟩
        case measure => simp [intOf]; omega
    · have hz : longF ks 0 = -1 := by rw [HF.out, List.drop_eq_nil_of_le (by omega)]; rfl
      have HZ := Lib.hid hz
      clear hz
      go_wp2
      go_ret
      exact ⟨by rw [HZ.out]; rfl, B.out⟩
theorem longF_neg : ∀ (ks : List (List UInt8)) (j : Nat), decide (0 ≤ longF ks j) = ks.any fun k => decide (3000 < k.length)
  | [], j => rfl
  | k :: ks, j => by
    unfold longF
    rw [List.any_cons]
    by_cases h : 3000 < k.length
    · rw [if_pos h, decide_eq_true h, decide_eq_true (by omega), Bool.true_or]
    · rw [if_neg h, decide_eq_false h, Bool.false_or, longF_neg ks (j + 1)]
set_option maxHeartbeats 1000000 in
set_option maxRecDepth 100000 in
theorem containsKeys_any (ks : List (List UInt8)) (ao : Option Addr) (cap : Nat) (w : World) (h : rdSl bsR 1 w (.slice ao ks.length cap) ks) :
    Calls Tryz.prog 137 #[.slice ao ks.length cap, .func (Fn.func 138) #[] #[]] w fun e w' => e = .returned (.bool (ks.any fun k => decide (3000 < k.length))) ∧ Drawn w w' := by
  have HI := Lib.hid (indexKeys_any ks ao cap w h)
  have HN := Lib.hid (longF_neg ks 0)
  clear h
  obtain ⟨x, hx⟩ : ∃ x, longF ks 0 = x := ⟨_, rfl⟩
  obtain ⟨b, hb⟩ : ∃ b, (ks.any fun k => decide (3000 < k.length)) = b := ⟨_, rfl⟩
  rw [hx] at HI HN
  rw [hb] at HN ⊢
  clear hx hb
  go_enter Tryz.func137, Tryz.ntmps137
  go_wp2_with fail
  refine Calls.mono HI.out ?_
  rintro e w1 ⟨rfl, hd⟩
  have HD := Lib.hid hd
  clear hd HI
  go_wp2
  go_ret
  exact ⟨by rw [← HN.out]; rfl, HD.out⟩
end Go.Proofs.YtljcdkfafknnpaaGreatDoor
namespace Go.Proofs.YtljcdkfafknnpaaGreatDoor
set_option linter.unusedVariables false
set_option linter.unusedSimpArgs false
/-- What is wrong with one in, with the places of those ahead. -/
def inF (met : List PlaceD) (x : InD) : Int :=
  if x.ix < 0 ∨ 40 ≤ x.ix then 2
  else if met.any (fun p => plE p x.place) then 6
  else if 30 < x.keys.length then 4
  else if x.keys.any (fun k => decide (3000 < k.length)) then 4 else 0
def insF : List PlaceD → List InD → Int
  | _, [] => 0
  | met, x :: xs => if inF met x = 0 then insF (met ++ [x.place]) xs else inF met x
def outF (o : OutD) : Int := if o.amount < 0 ∨ 1125899906842624 < o.amount then 2 else lockF o.lock
def outsF : List OutD → Int
  | [] => 0
  | o :: os => if outF o = 0 then outsF os else outF o
def txF (t : TxD) : Int :=
  if 40 < t.ins.length ∨ 40 < t.outs.length then 4
  else if t.outs.length = 0 then 5
  else if ¬ (0 ≤ t.time ∧ t.time ≤ 1073741824) then 2
  else if insF [] t.ins = 0 then outsF t.outs else insF [] t.ins
theorem insF_step (met : List PlaceD) (xs : List InD) (j : Nat) (hj : j < xs.length) (h : inF (met ++ (xs.take j).map InD.place) xs[j] = 0) :
    insF (met ++ (xs.take j).map InD.place) (xs.drop j) = insF (met ++ (xs.take (j + 1)).map InD.place) (xs.drop (j + 1)) := by
  rw [List.drop_eq_getElem_cons hj, insF, if_pos h, List.take_succ_eq_append_getElem hj, List.map_append, List.append_assoc]
  rfl
theorem insF_stop (met : List PlaceD) (xs : List InD) (j : Nat) (hj : j < xs.length) (h : inF (met ++ (xs.take j).map InD.place) xs[j] ≠ 0) :
    insF (met ++ (xs.take j).map InD.place) (xs.drop j) = inF (met ++ (xs.take j).map InD.place) xs[j] := by
  rw [List.drop_eq_getElem_cons hj, insF, if_neg h]
theorem outsF_step (os : List OutD) (j : Nat) (hj : j < os.length) (h : outF os[j] = 0) : outsF (os.drop j) = outsF (os.drop (j + 1)) := by
  rw [List.drop_eq_getElem_cons hj, outsF, if_pos h]
theorem outsF_stop (os : List OutD) (j : Nat) (hj : j < os.length) (h : outF os[j] ≠ 0) : outsF (os.drop j) = outF os[j] := by
  rw [List.drop_eq_getElem_cons hj, outsF, if_neg h]
end Go.Proofs.YtljcdkfafknnpaaGreatDoor
