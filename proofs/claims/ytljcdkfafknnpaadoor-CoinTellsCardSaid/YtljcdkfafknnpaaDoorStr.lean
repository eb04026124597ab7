/- Rows of structs that came in: what they read zs, and that it stays. Conditions: none beyond each theorem's own. -/
import Derived.Test.YtljcdkfafknnpaaDoorOpenb
namespace Go.Proofs.YtljcdkfafknnpaaDoor
set_option linter.unusedVariables false
set_option linter.unusedSimpArgs false
open Go.RowKit Go.Deep Go.ChangeShapes Go.WideShapes Go.ChangeAt

/-- How one thing reads in a world, out of its cells. -/
abbrev Rd (α : Type) := World → α → List Value → Prop
/-- It reads no block but those that are there. -/
def Stays {α : Type} (R : Rd α) : Prop := ∀ (w w' : World) (a : α) (cs : List Value), (∀ k, k < w.heap.size → w'.heap[k]? = w.heap[k]?) → R w a cs → R w' a cs
/-- Cells that read zs a list, one by one. -/
def rdEach {α : Type} (R : Rd α) (sz : Nat) (w : World) (zs : List α) (xs : List Value) : Prop :=
  xs.length = zs.length * sz ∧ ∀ j a, zs[j]? = some a → R w a ((xs.drop (j * sz)).take sz)
/-- A slice that reads zs a list. -/
def rdSl {α : Type} (R : Rd α) (sz : Nat) (w : World) (v : Value) (zs : List α) : Prop := ∃ xs, rd w v zs.length xs ∧ rdEach R sz w zs xs
theorem Stays.each {α : Type} {R : Rd α} (h : Stays R) {sz : Nat} {w w' : World} {zs : List α} {xs : List Value} (hk : ∀ k, k < w.heap.size → w'.heap[k]? = w.heap[k]?) (hr : rdEach R sz w zs xs) : rdEach R sz w' zs xs :=
  ⟨hr.1, fun j a ha => h w w' a _ hk (hr.2 j a ha)⟩
theorem Stays.sl {α : Type} {R : Rd α} (h : Stays R) {sz : Nat} {w w' : World} {v : Value} {zs : List α} (hk : ∀ k, k < w.heap.size → w'.heap[k]? = w.heap[k]?) (hr : rdSl R sz w v zs) : rdSl R sz w' v zs := by
  obtain ⟨xs, h1, h2⟩ := hr
  exact ⟨xs, rd_kept h1 hk, h.each hk h2⟩
theorem Stays.slB {α : Type} {R : Rd α} (h : Stays R) {sz B : Nat} {w0 w : World} {v : Value} {zs : List α} (hr : rdSl R sz w0 v zs) (h0 : Below B w0 w) (hB : w0.heap.size ≤ B) : rdSl R sz w v zs :=
  h.sl (fun k hk => h0.block k (by omega)) hr
theorem rdEach_nil {α : Type} (R : Rd α) (sz : Nat) (w : World) : rdEach R sz w [] [] := ⟨by simp, fun j a h => by cases h⟩
theorem rdSl_nil {α : Type} (R : Rd α) (sz : Nat) (w : World) : rdSl R sz w (.slice none 0 0) [] := ⟨[], ⟨none, 0, rfl, Nat.le_refl _, Nat.zero_le _, .inl rfl⟩, rdEach_nil R sz w⟩
theorem rdEach_snoc {α : Type} {R : Rd α} {sz : Nat} {w : World} {zs : List α} {xs : List Value} {a : α} {cs : List Value} (h : rdEach R sz w zs xs) (hc : cs.length = sz) (ha : R w a cs) : rdEach R sz w (zs ++ [a]) (xs ++ cs) := by
  obtain ⟨h1, h2⟩ := h
  refine ⟨by simp [h1, hc, Nat.add_mul], fun j b hb => ?_⟩
  by_cases hj : j < zs.length
  · rw [List.getElem?_append_left hj] at hb
    have e := h2 j b hb
    have hle : j * sz + sz ≤ zs.length * sz := by
      have := Nat.mul_le_mul_right sz (show j + 1 ≤ zs.length from hj)
      rw [Nat.add_mul] at this; omega
    rwa [List.drop_append_of_le_length (by omega), List.take_append_of_le_length (by simp; omega)]
  · have hj2 : j = zs.length := by
      have := (List.getElem?_eq_some_iff.1 hb).1
      simp at this; omega
    subst hj2
    have hab : a = b := by simpa using hb
    subst hab
    rw [← h1, List.drop_left, ← hc, List.take_length]
    exact ha
/-- The cells of an element. -/
theorem rdSl_row {α : Type} {R : Rd α} {sz : Nat} {w : World} {v : Value} {zs : List α} (h : rdSl R sz w v zs) (hsz : 0 < sz) (j : Nat) (a : α) (ha : zs[j]? = some a) :
    ∃ g off cap cs, v = .slice (some ⟨g, off, none⟩) zs.length cap ∧ R w a cs ∧ cs.length = sz ∧ rowAt w g (off + j * sz) sz = some cs.toArray := by
  obtain ⟨xs, ⟨ao, cap, rfl, h1, h2, h3⟩, h4, h5⟩ := h
  have hj := (List.getElem?_eq_some_iff.1 ha).1
  have hle : j * sz + sz ≤ zs.length * sz := by
    have := Nat.mul_le_mul_right sz (show j + 1 ≤ zs.length from hj)
    rw [Nat.add_mul] at this; omega
  rcases h3 with h3 | ⟨g, off, rfl, h3⟩
  · subst h3; simp at h4; omega
  · have hl : ((xs.drop (j * sz)).take sz).length = sz := by simp; omega
    refine ⟨g, off, cap, _, rfl, h5 j a ha, hl, ?_⟩
    have := rowAt_of_cells (w := w) (g := g) (off := off + j * sz) (cs := ((xs.drop (j * sz)).take sz).toArray) (by simp; omega) (fun i u hu => by
      simp only [List.getElem?_toArray, List.getElem?_take, List.getElem?_drop] at hu
      split at hu
      · have := h3 (j * sz + i) u hu
        rw [show off + j * sz + i = off + (j * sz + i) from by omega]; exact this
      · cases hu)
    rw [List.size_toArray, hl] at this
    exact this
section
variable {H : Type} {enc : TypeId × Value → H} {w : World} {base : Nat} {spare : Nat → Bool} {held : Bool}
/-- A slice that came in, its elements read so. -/
theorem open_sl {α : Type} [Inhabited α] {R : Rd α} {t e : TypeId} {sz : Nat} (ht : Tryd.prog.underlying t = some (.slice e)) (hs : Tryd.prog.cellsOf e = sz) (h0 : 0 < sz)
    (elem : ∀ (fuel : Nat) (cs : List Value) (x : DataW H × List MemPlace), DataW.trod enc Tryd.prog w base spare held fuel e cs = some x → cs.length = sz → ∃ a, R w a cs)
    {fuel : Nat} {v : Value} {x : DataW H × List MemPlace} (h : DataW.trod enc Tryd.prog w base spare held fuel t [v] = some x) : ∃ zs, rdSl R sz w v zs := by
  rcases open_slice ht h with ⟨h1, -⟩ | ⟨a, len, cap, m, n, D, Pl, h1, hb, hl, hm, hmm, -, hx⟩
  · cases h1
    exact ⟨[], rdSl_nil R sz w⟩
  · cases h1
    have hlm : len ≤ m := by rw [hmm]; split <;> omega
    have each : ∀ i, i < len → ∃ p : α × List Value, p.2.length = sz ∧ R w p.1 p.2 ∧ ∀ j, j < sz → w.cell? ((a.add (i * sz)).add j) = p.2[j]? := fun i hi => by
      obtain ⟨cs', h2, h3⟩ := hx i (by omega)
      rw [hs] at h2
      obtain ⟨-, h5, h4⟩ := World.cells?_some h2
      obtain ⟨r, hr⟩ := elem n cs' _ h3 h5
      exact ⟨(r, cs'), h5, hr, h4⟩
    obtain ⟨y, hy⟩ := choose_lt each
    have hfl : ∀ (l : List Nat), (∀ i ∈ l, i < len) → ((l.map fun i => (y i).2).flatten).length = l.length * sz := by
      intro l
      induction l with
      | nil => intro _; simp
      | cons i l ih =>
        intro hl
        have := ih (fun k hk => hl k (by simp [hk]))
        simp only [List.map_cons, List.flatten_cons, List.length_append, List.length_cons, this, (hy i (hl i (by simp))).1, Nat.add_mul]
        omega
    have hget : ∀ (n0 k : Nat), n0 + k ≤ len → ∀ i j, i < k → j < sz → ((((List.range' n0 k).map fun i => (y i).2).flatten))[i * sz + j]? = (y (n0 + i)).2[j]? := by
      intro n0 k
      induction k generalizing n0 with
      | zero => intro _ i j hi; omega
      | succ k ih =>
        intro hk i j hi hj
        rw [List.range'_succ, List.map_cons, List.flatten_cons]
        cases i with
        | zero =>
          rw [List.getElem?_append_left (by rw [(hy n0 (by omega)).1]; omega)]
          simp
        | succ i =>
          rw [List.getElem?_append_right (by rw [(hy n0 (by omega)).1, Nat.add_mul]; omega), (hy n0 (by omega)).1, show (i + 1) * sz + j - sz = i * sz + j from by rw [Nat.add_mul]; omega,
            ih (n0 + 1) (by omega) i j (by omega) hj, show n0 + 1 + i = n0 + (i + 1) from by omega]
    have hrl : (List.range' 0 len) = List.range len := by rw [List.range_eq_range']
    have hg0 := hget 0 len (by omega)
    have hL := hfl (List.range len) (fun i hi => List.mem_range.1 hi)
    rw [hrl] at hg0
    simp only [Nat.zero_add, List.length_range] at hg0 hL
    refine ⟨(List.range len).map fun i => (y i).1, ((List.range len).map fun i => (y i).2).flatten, ?_, by simp only [List.length_map, List.length_range]; exact hL, fun j r hr => ?_⟩
    · simp only [List.length_map, List.length_range]
      refine ⟨some a, cap, rfl, hl, hm, ?_⟩
      by_cases hz : len = 0
      · subst hz; exact .inl rfl
      · right
        have hsp : a.spot = none := by
          obtain ⟨e1, -, e2⟩ := hy 0 (by omega)
          have := e2 0 (by omega)
          rw [List.getElem?_eq_getElem (by omega)] at this
          simpa [Addr.add] using World.cell?_spot this
        obtain ⟨g, off, sp⟩ := a
        simp only at hsp
        subst hsp
        refine ⟨g, off, rfl, fun j u hj => ?_⟩
        have hjl : j < len * sz := by
          have := (List.getElem?_eq_some_iff.1 hj).1
          omega
        have hi : j / sz < len := Nat.div_lt_of_lt_mul (by rw [Nat.mul_comm]; exact hjl)
        have hmod := Nat.mod_lt j h0
        have hdm : j / sz * sz + j % sz = j := by rw [Nat.mul_comm]; exact Nat.div_add_mod j sz
        have e3 := (hy (j / sz) hi).2.2 (j % sz) hmod
        rw [add_add, Addr.add_lit, hdm] at e3
        rw [e3, ← hg0 (j / sz) (j % sz) hi hmod, hdm]
        exact hj
    · have hj : j < len := by
        have := (List.getElem?_eq_some_iff.1 hr).1
        simpa using this
      have hrr : (y j).1 = r := by
        rw [List.getElem?_map, List.getElem?_range hj] at hr
        simpa using hr
      have hcs : ((((List.range len).map fun i => (y i).2).flatten).drop (j * sz)).take sz = (y j).2 := by
        apply List.ext_getElem?
        intro i
        rw [List.getElem?_take]
        split
        · rename_i hi
          rw [List.getElem?_drop, hg0 j i hj hi]
        · rename_i hi
          rw [List.getElem?_eq_none (by rw [(hy j hj).1]; omega)]
      rw [hcs, ← hrr]
      exact (hy j hj).2.1
end
end Go.Proofs.YtljcdkfafknnpaaDoor
