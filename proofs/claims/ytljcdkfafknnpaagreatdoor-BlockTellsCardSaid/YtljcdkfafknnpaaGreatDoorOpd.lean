/- Merged: Opd. Conditions: none beyond each theorem's own. -/
import Derived.Test.YtljcdkfafknnpaaGreatDoorHeq
import Derived.Test.YtljcdkfafknnpaaGreatDoorBlk
namespace Go.Proofs.YtljcdkfafknnpaaGreatDoor
set_option linter.unusedVariables false
set_option linter.unusedSimpArgs false
open Go.ChangeShapes Go.WideShapes Go.RowKit
theorem fields_block : (Tryz.prog.fieldsOf 29).toList.map (fun f => (f.type, f.offset)) = [(25, 0), (27, 68)] := by kernel_rfl
theorem und_block : Tryz.prog.underlying 29 = some (.struct (Tryz.prog.fieldsOf 29)) := by kernel_rfl
theorem cells_txs : Tryz.prog.cellsOf 27 = 1 := by kernel_rfl
instance : Inhabited TxD := ⟨⟨[], [], 0⟩⟩
theorem list_cut (cs : List Value) (i k : Nat) : cs.drop i = (cs.drop i).take k ++ cs.drop (i + k) := by
  rw [← List.drop_drop]; exact (List.take_append_drop k _).symm
section
variable {H : Type} {enc : TypeId × Value → H} {w : World} {base : Nat} {spare : Nat → Bool} {held : Bool}
theorem open_part {T : TypeId} {fuel : Nat} {cs : List Value} {x : DataW H × List MemPlace} {l : List (TypeId × Nat)} (ht : Tryz.prog.underlying T = some (.struct (Tryz.prog.fieldsOf T))) (hl : (Tryz.prog.fieldsOf T).toList.map (fun f => (f.type, f.offset)) = l)
    (h : DataW.trod enc Tryz.prog w base spare held fuel T cs = some x) : cs.length = Tryz.prog.cellsOf T ∧ ∃ n, ∀ (i : Nat) (t : TypeId) (o : Nat), l[i]? = some (t, o) → ∃ y, DataW.trod enc Tryz.prog w base spare held n t ((cs.drop o).take (Tryz.prog.cellsOf t)) = some y := by
  obtain ⟨xs, n, -, -, hc, hlen, hf⟩ := Go.DataW.trod_struct ht h
  refine ⟨hc, n, fun i t o hi => ?_⟩
  rw [← hl, List.getElem?_map] at hi
  obtain ⟨f, hf1, hf2⟩ := Option.map_eq_some_iff.1 hi
  cases hf2
  have h1 : (Tryz.prog.fieldsOf T)[i]? = some f := by simpa using hf1
  have h2 : i < xs.length := by rw [hlen]; exact (Array.getElem?_eq_some_iff.1 h1).1
  exact ⟨xs[i], by rw [hf i f h1, List.getElem?_eq_getElem h2]⟩
theorem open_i64 {n o : Nat} {cs : List Value} {y : DataW H × List MemPlace} (h : DataW.trod enc Tryz.prog w base spare held n 3 ((cs.drop o).take (Tryz.prog.cellsOf 3)) = some y) : ∃ i : Int, (cs.drop o).take 1 = [.int .i64 i] := by
  rw [cells_int] at h
  obtain ⟨i, e, -, -⟩ := DataW.trod_int Tryz.underlying3 h
  exact ⟨i, e⟩
theorem open_head {fuel : Nat} {cs : List Value} {x : DataW H × List MemPlace} (h : DataW.trod enc Tryz.prog w base spare held fuel 25 cs = some x) : ∃ hd : HeadD, HdOk hd ∧ cs = (hdV hd).toList := by
  obtain ⟨hl, n, hp⟩ := open_part und_head fields_head h
  rw [cells_head] at hl
  obtain ⟨y0, h0⟩ := hp 0 _ _ rfl
  obtain ⟨y1, h1⟩ := hp 1 _ _ rfl
  obtain ⟨y2, h2⟩ := hp 2 _ _ rfl
  obtain ⟨y3, h3⟩ := hp 3 _ _ rfl
  obtain ⟨y4, h4⟩ := hp 4 _ _ rfl
  obtain ⟨y5, h5⟩ := hp 5 _ _ rfl
  rw [cells_dig] at h0 h1
  obtain ⟨p, hp32, e0⟩ := open_dig h0
  obtain ⟨r, hr32, e1⟩ := open_dig h1
  obtain ⟨i2, e2⟩ := open_i64 h2
  obtain ⟨i3, e3⟩ := open_i64 h3
  obtain ⟨i4, e4⟩ := open_i64 h4
  obtain ⟨i5, e5⟩ := open_i64 h5
  refine ⟨⟨p, r, i2, i3, i4, i5⟩, ⟨hp32, hr32⟩, ?_⟩
  have c0 := list_cut cs 0 32
  have c1 := list_cut cs 32 32
  have c2 := list_cut cs 64 1
  have c3 := list_cut cs 65 1
  have c4 := list_cut cs 66 1
  have c5 := list_cut cs 67 1
  have c6 : cs.drop 68 = [] := List.drop_eq_nil_of_le (by omega)
  rw [e0] at c0; rw [e1] at c1; rw [e2] at c2; rw [e3] at c3; rw [e4] at c4; rw [e5] at c5
  rw [List.drop_zero] at c0
  rw [hdV_list, c0, c1, c2, c3, c4, c5, c6]
  rfl
theorem open_block {fuel : Nat} {cs : List Value} {x : DataW H × List MemPlace} (h : DataW.trod enc Tryz.prog w base spare held fuel 29 cs = some x) : ∃ (hd : HeadD) (s : Value) (ts : List TxD), HdOk hd ∧ rdSl txR 3 w s ts ∧ cs = (blV hd s).toList := by
  obtain ⟨hl, n, hp⟩ := open_part und_block fields_block h
  rw [cells_block] at hl
  obtain ⟨y0, h0⟩ := hp 0 _ _ rfl
  obtain ⟨y1, h1⟩ := hp 1 _ _ rfl
  rw [cells_head] at h0
  rw [cells_txs] at h1
  obtain ⟨hd, hk, e0⟩ := open_head h0
  obtain ⟨s, hs⟩ : ∃ s, (cs.drop 68).take 1 = [s] := by
    have : ((cs.drop 68).take 1).length = 1 := by simp; omega
    match hq : (cs.drop 68).take 1, this with
    | [s], _ => exact ⟨s, rfl⟩
  rw [hs] at h1
  obtain ⟨ts, hts⟩ := open_sl (R := txR) Tryz.underlying27 cells_tx (by decide) (fun fuel cs x h _ => open_tx h) h1
  refine ⟨hd, s, ts, hk, hts, ?_⟩
  have c0 := list_cut cs 0 68
  have c1 := list_cut cs 68 1
  have c6 : cs.drop 69 = [] := List.drop_eq_nil_of_le (by omega)
  rw [e0] at c0; rw [hs] at c1
  rw [List.drop_zero] at c0
  unfold blV
  rw [Array.toList_append, c0, c1, c6]
  rfl
end
end Go.Proofs.YtljcdkfafknnpaaGreatDoor
