/- Opening a place, a coin, a list of coins. Conditions: none beyond each theorem's own. -/
import Derived.Test.YtljcdkfafknnpaaDoorCdt
import Derived.Test.YtljcdkfafknnpaaDoorPlc
import Derived.ChangeSame
namespace Go.Proofs.YtljcdkfafknnpaaDoor
set_option linter.unusedVariables false
set_option linter.unusedSimpArgs false
open Go.ChangeShapes Go.WideShapes Go.RowKit
section
variable {H : Type} {enc : TypeId × Value → H} {w : World} {base : Nat} {spare : Nat → Bool} {held : Bool}
theorem split_two {cs : List Value} (h : cs.length = 33) {A B : List Value} (a : cs.take 32 = A) (b : (cs.drop 32).take 1 = B) : cs = A ++ B := by
  have e1 := (List.take_append_drop 32 cs).symm
  rw [List.take_of_length_le (l := cs.drop 32) (by simp; omega)] at b
  rwa [a, b] at e1
theorem split_three {cs : List Value} (h : cs.length = 36) {A B C : List Value} (a : cs.take 33 = A) (b : (cs.drop 33).take 2 = B) (c : (cs.drop 35).take 1 = C) : cs = A ++ (B ++ C) := by
  have e1 := (List.take_append_drop 33 cs).symm
  have e2 := (List.take_append_drop 2 (cs.drop 33)).symm
  rw [List.take_of_length_le (l := cs.drop 35) (by simp; omega)] at c
  rw [List.drop_drop, b, show 33 + 2 = 35 from rfl, c] at e2
  rwa [a, e2] at e1
theorem open_place {fuel : Nat} {cs : List Value} {x : DataW H × List MemPlace} (h : DataW.trod enc Tryd.prog w base spare held fuel 35 cs = some x) : ∃ p : PlaceD, p.tx.length = 32 ∧ cs = p.tx.map vB ++ [.int .i64 p.ix] := by
  obtain ⟨y0, y1, n, -, hl, h0, h1⟩ := Go.ChangeShapes.trod_struct2 Tryd.underlying35 h
  rw [cells_dig] at h0
  rw [cells_int] at h1
  rw [cells_place] at hl
  obtain ⟨D, hD, e⟩ := open_dig h0
  obtain ⟨i, e2, -, -⟩ := DataW.trod_int Tryd.underlying3 h1
  exact ⟨⟨D, i⟩, hD, split_two hl (by simpa using e) (by simpa using e2)⟩
theorem open_coin (fuel : Nat) (cs : List Value) (x : DataW H × List MemPlace) (h : DataW.trod enc Tryd.prog w base spare held fuel 59 cs = some x) (hl : cs.length = 36) : ∃ c, coinR w c cs := by
  obtain ⟨y0, y1, y2, n, -, -, h0, h1, h2⟩ := Go.Deep.trod_struct3 Tryd.underlying59 h
  rw [cells_place] at h0
  rw [cells_out] at h1
  rw [cells_int] at h2
  obtain ⟨p, hp, e0⟩ := open_place h0
  obtain ⟨z0, z1, m, -, hl1, k0, k1⟩ := Go.ChangeShapes.trod_struct2 Tryd.underlying57 h1
  rw [cells_int] at k0
  rw [cells_ops] at k1
  obtain ⟨i2, e2, -, -⟩ := DataW.trod_int Tryd.underlying3 h2
  obtain ⟨a, s, hB⟩ : ∃ a s, (cs.drop 33).take 2 = [a, s] := by
    have : ((cs.drop 33).take 2).length = 2 := by simp; omega
    match hq : (cs.drop 33).take 2, this with
    | [a, s], _ => exact ⟨a, s, rfl⟩
  simp only [hB, List.drop_zero, List.drop_succ_cons, List.take_succ_cons, List.take_zero] at k0 k1
  obtain ⟨i1, e1, -, -⟩ := DataW.trod_int Tryd.underlying3 k0
  obtain ⟨os, ho⟩ := open_ops k1
  have ha : a = .int .i64 i1 := by simpa using e1
  refine ⟨⟨p.tx, p.ix, i1, os, i2⟩, s, ?_, hp, ho⟩
  have := split_three hl (by simpa using e0) hB (by simpa using e2)
  rw [this, ha]
  simp
theorem open_coins {fuel : Nat} {v : Value} {x : DataW H × List MemPlace} (h : DataW.trod enc Tryd.prog w base spare held fuel 44 [v] = some x) : ∃ cs, rdSl coinR 36 w v cs :=
  open_sl Tryd.underlying44 cells_coin (by decide) open_coin h
end
end Go.Proofs.YtljcdkfafknnpaaDoor
