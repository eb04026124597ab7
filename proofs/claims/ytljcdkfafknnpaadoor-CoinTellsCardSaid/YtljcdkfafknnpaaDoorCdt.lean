/- Ops and coins, as they lie in memory. Conditions: none beyond each theorem's own. -/
import Derived.Test.YtljcdkfafknnpaaDoorStr
import Derived.Test.YtljcdkfafknnpaaDoorPlc
import Derived.Test.YtljcdkfafknnpaaDoorOps
import Derived.Deep.Strs
namespace Go.Proofs.YtljcdkfafknnpaaDoor
set_option linter.unusedVariables false
set_option linter.unusedSimpArgs false
open Go.RowKit Go.Deep Go.ChangeShapes Go.WideShapes Go.ChangeAt

structure OpD where
  op : Int
  n : Int
  data : List UInt8
instance : Inhabited OpD := ⟨⟨0, 0, []⟩⟩
structure CoinD where
  tx : List UInt8
  ix : Int
  amount : Int
  lock : List OpD
  height : Int
instance : Inhabited CoinD := ⟨⟨[], 0, 0, [], 0⟩⟩
def CoinD.place (c : CoinD) : PlaceD := ⟨c.tx, c.ix⟩
def opR : Rd OpD := fun w o cs => ∃ s, cs = [.int .i64 o.op, .int .i64 o.n, s] ∧ rd w s o.data.length (o.data.map vB)
def coinR : Rd CoinD := fun w c cs => ∃ s, cs = c.tx.map vB ++ [.int .i64 c.ix, .int .i64 c.amount, s, .int .i64 c.height] ∧ c.tx.length = 32 ∧ rdSl opR 3 w s c.lock
theorem opR_stays : Stays opR := fun w w' o cs hk ⟨s, h1, h2⟩ => ⟨s, h1, rd_kept h2 hk⟩
theorem coinR_stays : Stays coinR := fun w w' c cs hk ⟨s, h1, h2, h3⟩ => ⟨s, h1, h2, opR_stays.sl hk h3⟩
@[go_sem] theorem agg_op : aggOf Tryd.prog 101 = true := by kernel_rfl
@[go_sem] theorem cells_op : Tryd.prog.cellsOf 101 = 3 := by kernel_rfl
@[go_sem] theorem agg_coin : aggOf Tryd.prog 59 = true := by kernel_rfl
@[go_sem] theorem cells_coin : Tryd.prog.cellsOf 59 = 36 := by kernel_rfl
@[go_sem] theorem agg_out : aggOf Tryd.prog 57 = true := by kernel_rfl
@[go_sem] theorem cells_out : Tryd.prog.cellsOf 57 = 2 := by kernel_rfl
theorem cells_int : Tryd.prog.cellsOf 3 = 1 := by kernel_rfl
theorem cells_bs : Tryd.prog.cellsOf 39 = 1 := by kernel_rfl
theorem cells_ops : Tryd.prog.cellsOf 55 = 1 := by kernel_rfl
/-- An op of a lock: its cells. -/
theorem op_row {w : World} {v : Value} {os : List OpD} (h : rdSl opR 3 w v os) (j : Nat) (hj : j < os.length) :
    ∃ g off cap ao dcap, v = .slice (some ⟨g, off, none⟩) os.length cap ∧ os[j].data.length ≤ dcap ∧ dcap ≤ maxLen ∧ rd w (.slice ao os[j].data.length dcap) os[j].data.length (os[j].data.map vB) ∧
      rowAt w g (off + j * 3) 3 = some #[.int .i64 os[j].op, .int .i64 os[j].n, .slice ao os[j].data.length dcap] := by
  obtain ⟨g, off, cap, cs, rfl, hR, hl, hrow⟩ := rdSl_row h (by decide) j os[j] (List.getElem?_eq_getElem hj)
  obtain ⟨s, rfl, hs⟩ := hR
  have hs' := hs
  obtain ⟨ao, dcap, rfl, h1, h2, -⟩ := hs'
  exact ⟨g, off, cap, ao, dcap, rfl, h1, h2, hs, hrow⟩
theorem sl_bounds {α : Type} {R : Rd α} {sz : Nat} {w : World} {v : Value} {zs : List α} (h : rdSl R sz w v zs) : ∃ ao cap, v = .slice ao zs.length cap ∧ zs.length ≤ cap ∧ cap ≤ maxLen := by
  obtain ⟨xs, ⟨ao, cap, rfl, h1, h2, -⟩, -⟩ := h
  exact ⟨ao, cap, rfl, h1, h2⟩
theorem cell_of_row3 {w : World} {g o : Nat} {a b c : Value} (h : rowAt w g o 3 = some #[a, b, c]) : w.cell? ⟨g, o, none⟩ = some a ∧ w.cell? ⟨g, o + 1, none⟩ = some b ∧ w.cell? ⟨g, o + 2, none⟩ = some c :=
  ⟨cell_of_rowAt h 0 (by decide), cell_of_rowAt h 1 (by decide), cell_of_rowAt h 2 (by decide)⟩
section
variable {H : Type} {enc : TypeId × Value → H} {w : World} {base : Nat} {spare : Nat → Bool} {held : Bool}
theorem list_three {cs : List Value} (h : cs.length = 3) : ∃ a b c, cs = [a, b, c] := by
  match cs, h with
  | [a, b, c], _ => exact ⟨a, b, c, rfl⟩
theorem open_op (fuel : Nat) (cs : List Value) (x : DataW H × List MemPlace) (h : DataW.trod enc Tryd.prog w base spare held fuel 101 cs = some x) (hl : cs.length = 3) : ∃ o, opR w o cs := by
  obtain ⟨y0, y1, y2, n, -, -, h0, h1, h2⟩ := Go.Deep.trod_struct3 Tryd.underlying101 h
  obtain ⟨a, b, c, rfl⟩ := list_three hl
  rw [cells_int] at h0 h1
  rw [cells_bs] at h2
  simp only [List.drop_zero, List.drop_succ_cons, List.take_succ_cons, List.take_zero] at h0 h1 h2
  obtain ⟨i0, e0, -, -⟩ := DataW.trod_int Tryd.underlying3 h0
  obtain ⟨i1, e1, -, -⟩ := DataW.trod_int Tryd.underlying3 h1
  obtain ⟨m, d, hd, hr, -⟩ := open_byts h2
  subst hd
  injection e0 with e0 _
  injection e1 with e1 _
  exact ⟨⟨i0, i1, d⟩, c, by rw [e0, e1], hr⟩
theorem open_ops {fuel : Nat} {v : Value} {x : DataW H × List MemPlace} (h : DataW.trod enc Tryd.prog w base spare held fuel 55 [v] = some x) : ∃ os, rdSl opR 3 w v os :=
  open_sl Tryd.underlying55 cells_op (by decide) open_op h
end
end Go.Proofs.YtljcdkfafknnpaaDoor
