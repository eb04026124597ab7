/- Arguments of digests opened. Conditions: none beyond each theorem's own. -/
import Derived.Test.YtamjldakllafcaaDoorRoot
import Derived.OpenShut
import Derived.Deep.Slices
namespace Go.Proofs.YtamjldakllafcaaDoor
set_option linter.unusedVariables false
set_option linter.unusedSimpArgs false
open Go.RowKit Go.Deep

section
variable {H : Type} {enc : TypeId × Value → H} {w : World} {base : Nat} {spare : Nat → Bool} {held : Bool}
theorem cells_dig : Tryd.prog.cellsOf 25 = 32 := by kernel_rfl
theorem cells_u8 : Tryd.prog.cellsOf 5 = 1 := by kernel_rfl
theorem bytes_of (cs : List Value) (h : ∀ i, i < cs.length → ∃ n : Int, cs[i]? = some (.int .u8 n) ∧ 0 ≤ n ∧ n < 256) : ∃ D : List UInt8, D.length = cs.length ∧ cs = D.map vB := by
  induction cs with
  | nil => exact ⟨[], rfl, rfl⟩
  | cons c cs ih =>
    obtain ⟨n, hn, h0, h1⟩ := h 0 (by simp)
    obtain ⟨D, hl, hD⟩ := ih (fun i hi => by have := h (i + 1) (by simpa using hi); simpa using this)
    have hc : c = .int .u8 n := by simpa using hn
    refine ⟨UInt8.ofNat n.toNat :: D, by simp [hl], ?_⟩
    have : bv (UInt8.ofNat n.toNat) = n := by
      unfold bv; rw [UInt8.toNat_ofNat']; omega
    rw [List.map_cons, ← hD, hc, vB, this]
theorem open_dig {fuel : Nat} {cs : List Value} {x : DataW H × List MemPlace} (h : DataW.trod enc Tryd.prog w base spare held fuel 25 cs = some x) : ∃ D : List UInt8, D.length = 32 ∧ cs = D.map vB := by
  obtain ⟨xs, m, -, -, hl, hx, hi⟩ := Go.DataW.trod_array Tryd.underlying25 h
  rw [cells_dig] at hl
  obtain ⟨D, h1, h2⟩ := bytes_of cs (fun i hlt => by
    have := hi i (by omega)
    rw [List.getElem?_eq_getElem (by omega)] at this
    obtain ⟨n, hn, -, hw⟩ := DataW.trod_int Tryd.underlying5 this
    rw [cells_u8, Nat.mul_one] at hn
    refine ⟨n, ?_, ?_⟩
    · rw [List.getElem?_eq_getElem hlt]
      rw [List.drop_eq_getElem_cons hlt, List.take_succ_cons, List.take_zero] at hn
      injection hn with hn _
      rw [hn]
    · simp only [Lit.wf, Bool.and_eq_true, decide_eq_true_eq] at hw
      have e1 : IntKind.u8.min = 0 := by decide
      have e2 : IntKind.u8.max = 255 := by decide
      rw [e1, e2] at hw
      omega)
  exact ⟨D, by omega, h2⟩
/-- A slice of digests that came in. -/
theorem open_digs {fuel : Nat} {v : Value} {x : DataW H × List MemPlace} (h : DataW.trod enc Tryd.prog w base spare held fuel 22 [v] = some x) :
    ∃ (n : Nat) (ls : List (List UInt8)), (∀ d ∈ ls, d.length = 32) ∧ ls.length = n ∧ rd w v n (ls.flatten.map vB) := by
  rcases open_slice Tryd.underlying22 h with ⟨h1, -⟩ | ⟨a, len, cap, m, n, D, Pl, h1, hb, hl, hm, hmm, -, hx⟩
  · cases h1
    exact ⟨0, [], by simp, rfl, none, 0, rfl, Nat.le_refl _, Nat.zero_le _, .inl rfl⟩
  · cases h1
    have hlm : len ≤ m := by rw [hmm]; split <;> omega
    have each : ∀ i, i < len → ∃ d : List UInt8, d.length = 32 ∧ ∀ j, j < 32 → w.cell? ((a.add (i * 32)).add j) = (d.map vB)[j]? := fun i hi => by
      obtain ⟨cs', h2, h3⟩ := hx i (by omega)
      rw [cells_dig] at h2
      obtain ⟨d, hd, rfl⟩ := open_dig h3
      obtain ⟨-, -, h4⟩ := World.cells?_some h2
      exact ⟨d, hd, h4⟩
    obtain ⟨y, hy⟩ := choose_lt each
    refine ⟨len, (List.range len).map y, ?_, by simp, some a, cap, rfl, hl, hm, ?_⟩
    · intro d hd
      obtain ⟨i, hi, rfl⟩ := List.mem_map.1 hd
      exact (hy i (List.mem_range.1 hi)).1
    · by_cases h0 : len = 0
      · subst h0; exact .inl rfl
      · right
        have hs : a.spot = none := by
          obtain ⟨e1, e2⟩ := hy 0 (by omega)
          have := e2 0 (by omega)
          rw [List.getElem?_eq_getElem (by simp [e1])] at this
          simpa [Addr.add] using World.cell?_spot this
        obtain ⟨g, off, sp⟩ := a
        simp only at hs
        subst hs
        refine ⟨g, off, rfl, fun j u hj => ?_⟩
        have hlen := flat_length ((List.range len).map y) (fun d hd => by
          obtain ⟨i, hi, rfl⟩ := List.mem_map.1 hd
          exact (hy i (List.mem_range.1 hi)).1)
        have hjl : j < 32 * len := by
          have := (List.getElem?_eq_some_iff.1 hj).1
          rw [List.length_map, hlen, List.length_map, List.length_range] at this
          exact this
        have hi : j / 32 < len := by omega
        obtain ⟨e1, e2⟩ := hy (j / 32) hi
        have e3 := e2 (j % 32) (by omega)
        rw [add_add, Addr.add_lit, show j / 32 * 32 + j % 32 = j from by omega] at e3
        rw [e3]
        rw [List.getElem?_map, show j = 32 * (j / 32) + j % 32 from by omega, flat_get _ (fun d hd => by
          obtain ⟨i, hi, rfl⟩ := List.mem_map.1 hd
          exact (hy i (List.mem_range.1 hi)).1) (j / 32) (by simpa using hi) (j % 32) (by omega)] at hj
        rw [List.getElem?_map]
        rw [show ((List.range len).map y).getD (j / 32) [] = y (j / 32) from by
          rw [List.getD_eq_getElem?_getD, List.getElem?_map, List.getElem?_range hi]; rfl] at hj
        exact hj
end
end Go.Proofs.YtamjldakllafcaaDoor
