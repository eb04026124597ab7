/- A digest out of its datum. Conditions: none beyond each theorem's own. -/
import Derived.Test.YtljcdkfafknnpaaDoorDv
import Derived.OpenShut
import Derived.Deep.Slices
namespace Go.Proofs.YtljcdkfafknnpaaDoor
set_option linter.unusedVariables false
set_option linter.unusedSimpArgs false
open Go.RowKit Go.Deep

section
variable {H : Type} {enc : TypeId × Value → H} {w : World} {base : Nat} {spare : Nat → Bool} {held : Bool}
theorem cells_dig : Tryd.prog.cellsOf 29 = 32 := by kernel_rfl
theorem cells_u8 : Tryd.prog.cellsOf 5 = 1 := by kernel_rfl
theorem bytes_of (cs : List Value) (h : ∀ i, i < cs.length → ∃ n : Int, cs[i]? = some (.int .u8 n) ∧ 0 ≤ n ∧ n < 256) : ∃ D : List UInt8, D.length = cs.length ∧ cs = D.map vB := by
  induction cs with
  | nil => exact ⟨[], rfl, rfl⟩
  | cons c cs ih =>
    obtain ⟨n, hn, h0, h1⟩ := h 0 (by simp)
    obtain ⟨D, hl, hD⟩ := ih (fun i hi => by have := h (i + 1) (by simpa using hi); simpa using this)
    have hc : c = .int .u8 n := by simpa using hn
    refine ⟨UInt8.ofNat n.toNat :: D, by simp [hl], ?_⟩
    have : bv (UInt8.ofNat n.toNat) = n := by
      unfold bv; rw [UInt8.toNat_ofNat']; omega
    rw [List.map_cons, ← hD, hc, vB, this]
theorem open_dig {fuel : Nat} {cs : List Value} {x : DataW H × List MemPlace} (h : DataW.trod enc Tryd.prog w base spare held fuel 29 cs = some x) : ∃ D : List UInt8, D.length = 32 ∧ cs = D.map vB := by
  obtain ⟨xs, m, -, -, hl, hx, hi⟩ := Go.DataW.trod_array Tryd.underlying29 h
  rw [cells_dig] at hl
  obtain ⟨D, h1, h2⟩ := bytes_of cs (fun i hlt => by
    have := hi i (by omega)
    rw [List.getElem?_eq_getElem (by omega)] at this
    obtain ⟨n, hn, -, hw⟩ := DataW.trod_int Tryd.underlying5 this
    rw [cells_u8, Nat.mul_one] at hn
    refine ⟨n, ?_, ?_⟩
    · rw [List.getElem?_eq_getElem hlt]
      rw [List.drop_eq_getElem_cons hlt, List.take_succ_cons, List.take_zero] at hn
      injection hn with hn _
      rw [hn]
    · simp only [Lit.wf, Bool.and_eq_true, decide_eq_true_eq] at hw
      have e1 : IntKind.u8.min = 0 := by decide
      have e2 : IntKind.u8.max = 255 := by decide
      rw [e1, e2] at hw
      omega)
  exact ⟨D, by omega, h2⟩
end
end Go.Proofs.YtljcdkfafknnpaaDoor
