/- Arguments of bytes opened. Conditions: none beyond each theorem's own. -/
import Derived.Test.YtljcdkfafknnpaaDoorOpn
import Derived.ChangeSlices
import Derived.SizedLaws
namespace Go.Proofs.YtljcdkfafknnpaaDoor
set_option linter.unusedVariables false
set_option linter.unusedSimpArgs false
open Go.RowKit Go.Deep Go.ChangeShapes Go.WideShapes Go.ChangeAt
section
variable {H : Type} {enc : TypeId × Value → H} {w : World} {base : Nat} {spare : Nat → Bool} {held : Bool}
theorem open_byts {fuel : Nat} {v : Value} {x : DataW H × List MemPlace} (h : DataW.trod enc Tryd.prog w base spare held fuel 39 [v] = some x) :
    ∃ (n : Nat) (b : List UInt8), b.length = n ∧ rd w v n (b.map vB) ∧ (n = 0 ∨ ∃ es ss, x.1 = .slice es ss ∧ es.length = n) := by
  rcases open_ints Tryd.underlying39 Tryd.underlying5 cells_u8 h with ⟨h1, -⟩ | ⟨a, len, cap, zs, h1, hb, hl, hm, hz, hx, hc, hw⟩
  · cases h1
    exact ⟨0, [], rfl, ⟨none, 0, rfl, Nat.le_refl _, Nat.zero_le _, .inl rfl⟩, .inl rfl⟩
  · cases h1
    have hzl : len ≤ zs.length := by rw [hz]; split <;> omega
    refine ⟨len, (zs.take len).map fun z => UInt8.ofNat z.toNat, by simp; omega, ⟨some a, cap, rfl, hl, hm, ?_⟩, .inr ⟨_, _, by rw [hx], by simp [lits]; omega⟩⟩
    by_cases h0 : len = 0
    · subst h0; exact .inl (by simp)
    · right
      have hs : a.spot = none := by
        have := hc 0 (by omega)
        simpa [Addr.add] using World.cell?_spot this
      obtain ⟨g, off, sp⟩ := a
      simp only at hs
      subst hs
      refine ⟨g, off, rfl, fun j u hj => ?_⟩
      have hjl : j < len := by
        have := (List.getElem?_eq_some_iff.1 hj).1
        simp at this; omega
      have e1 := hc j (by omega)
      rw [Addr.add_lit] at e1
      rw [e1, ← hj]
      have hz0 : zs.getD j 0 = zs[j] := by rw [List.getD_eq_getElem?_getD, List.getElem?_eq_getElem (by omega), Option.getD_some]
      have hwf := hw zs[j] (List.getElem_mem _)
      simp only [Lit.wf, Bool.and_eq_true, decide_eq_true_eq] at hwf
      have m1 : IntKind.u8.min = 0 := by decide
      have m2 : IntKind.u8.max = 255 := by decide
      rw [m1, m2] at hwf
      rw [hz0, List.map_map, List.getElem?_map, List.getElem?_take, if_pos hjl, List.getElem?_eq_getElem (by omega)]
      simp only [Option.map_some, Function.comp, vB]
      have : bv (UInt8.ofNat zs[j].toNat) = zs[j] := by unfold bv; rw [UInt8.toNat_ofNat']; omega
      rw [this]
end
end Go.Proofs.YtljcdkfafknnpaaDoor
