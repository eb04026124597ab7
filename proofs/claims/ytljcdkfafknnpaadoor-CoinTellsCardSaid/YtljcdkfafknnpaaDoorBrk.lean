/- The plain law of brackets: a stack of open Ifs against the document's Ended. Conditions: none. -/
import Derived.WalkKit
namespace Go.Proofs.YtljcdkfafknnpaaDoor
set_option linter.unusedVariables false
set_option linter.unusedSimpArgs false

/-- An op by its number alone: 11 If, 12 Else, 13 End. -/
def scanM : List Bool → List Int → Option (List Bool)
  | st, [] => some st
  | st, k :: s =>
    if k = 11 then scanM (false :: st) s
    else if k ≠ 12 ∧ k ≠ 13 then scanM st s
    else match st with
      | [] => none
      | b :: st' => if k = 12 then (if b then none else scanM (true :: st') s) else scanM st' s
theorem scan_if (st : List Bool) (k : Int) (s : List Int) (h : k = 11) : scanM st (k :: s) = scanM (false :: st) s := by subst h; cases st <;> simp [scanM]
theorem scan_other (st : List Bool) (k : Int) (s : List Int) (h : ¬ k = 11) (h2 : ¬ (k = 12 ∨ k = 13)) : scanM st (k :: s) = scanM st s := by
  have h3 : k ≠ 12 ∧ k ≠ 13 := by omega
  cases st <;> simp [scanM, h, h3]
/-- What is left at the end of the ops that are within one If. -/
def endM : Nat → List Int → Option (List Int)
  | 0, _ => none
  | _ + 1, [] => some []
  | f + 1, k :: s =>
    if k = 12 ∨ k = 13 then some (k :: s)
    else if k ≠ 11 then endM f s
    else match endM f s with
      | some (13 :: r) => endM f r
      | some (12 :: r) => (match endM f r with
        | some (13 :: r') => endM f r'
        | _ => none)
      | _ => none
/-- What stands at an end. -/
def atEnd : List Int → Prop
  | [] => True
  | k :: _ => k = 12 ∨ k = 13
theorem endM_at : ∀ (f : Nat) (s r : List Int), endM f s = some r → atEnd r ∧ r.length ≤ s.length := by
  intro f
  induction f with
  | zero => intro s r h; cases h
  | succ f ih =>
    intro s r h
    cases s with
    | nil => cases h; exact ⟨trivial, Nat.le_refl _⟩
    | cons k s =>
      unfold endM at h
      split at h
      · rename_i hk; cases h; exact ⟨hk, Nat.le_refl _⟩
      · split at h
        · obtain ⟨a, b⟩ := ih s r h; exact ⟨a, by simp; omega⟩
        · split at h
          · rename_i r1 h1
            obtain ⟨-, c⟩ := ih s _ h1
            obtain ⟨a, b⟩ := ih r1 r h
            simp only [List.length_cons] at c ⊢
            exact ⟨a, by omega⟩
          · rename_i r1 h1
            obtain ⟨-, c⟩ := ih s _ h1
            split at h
            · rename_i r2 h2
              obtain ⟨-, d⟩ := ih r1 _ h2
              obtain ⟨a, b⟩ := ih r2 r h
              simp only [List.length_cons] at c d ⊢
              exact ⟨a, by omega⟩
            · cases h
          · cases h
theorem endM_scan : ∀ (f : Nat) (s r : List Int), endM f s = some r → ∀ st, scanM st s = scanM st r := by
  intro f
  induction f with
  | zero => intro s r h; cases h
  | succ f ih =>
    intro s r h st
    cases s with
    | nil => cases h; rfl
    | cons k s =>
      unfold endM at h
      split at h
      · cases h; rfl
      · rename_i hk
        split at h
        · rename_i h11
          rw [scan_other _ _ _ h11 hk]
          exact ih s r h st
        · rename_i h11
          have h11' : k = 11 := by omega
          rw [scan_if _ _ _ h11']
          split at h
          · rename_i r1 h1
            rw [ih s _ h1, ← ih r1 r h st]
            simp [scanM]
          · rename_i r1 h1
            split at h
            · rename_i r2 h2
              rw [ih s _ h1, ← ih r2 r h st]
              have e : scanM [true] r1 = scanM [true] (13 :: r2) := ih r1 _ h2 _
              have e2 := ih r1 _ h2 (true :: st)
              simp [scanM] at e2
              simp [scanM, e2]
            · cases h
          · cases h
theorem endM_none : ∀ (f : Nat) (s : List Int), s.length < f → endM f s = none → ∀ st t, scanM st s = some t → st.length < t.length := by
  intro f
  induction f with
  | zero => intro s hf; omega
  | succ f ih =>
    intro s hf h st t ht
    cases s with
    | nil => cases h
    | cons k s =>
      simp only [List.length_cons] at hf
      unfold endM at h
      split at h
      · cases h
      · rename_i hk
        split at h
        · rename_i h11
          rw [scan_other _ _ _ h11 hk] at ht
          exact ih s (by omega) h st t ht
        · rename_i h11
          have h11' : k = 11 := by omega
          rw [scan_if _ _ _ h11'] at ht
          cases h1 : endM f s with
          | none =>
            have := ih s (by omega) h1 _ t ht
            simp only [List.length_cons] at this; omega
          | some r1 =>
            rw [h1] at h
            obtain ⟨a1, b1⟩ := endM_at f s r1 h1
            rw [endM_scan f s r1 h1] at ht
            cases r1 with
            | nil => simp only [scanM] at ht; cases ht; simp
            | cons k1 r1 =>
              simp only [List.length_cons] at b1
              rcases a1 with rfl | rfl
              · simp only at h
                rw [scanM] at ht
                simp only [show ¬ ((12 : Int) = 11) from by decide, if_false, show ¬ ((12 : Int) ≠ 12 ∧ (12 : Int) ≠ 13) from by decide, if_true, Bool.false_eq_true] at ht
                cases h2 : endM f r1 with
                | none =>
                  have := ih r1 (by omega) h2 _ t ht
                  simp only [List.length_cons] at this; omega
                | some r2 =>
                  rw [h2] at h
                  obtain ⟨a2, b2⟩ := endM_at f r1 r2 h2
                  rw [endM_scan f r1 r2 h2] at ht
                  cases r2 with
                  | nil => simp only [scanM] at ht; cases ht; simp
                  | cons k2 r2 =>
                    simp only [List.length_cons] at b2
                    rcases a2 with rfl | rfl
                    · simp [scanM] at ht
                    · simp only at h
                      simp [scanM] at ht
                      exact ih r2 (by omega) h st t ht
              · simp only at h
                simp [scanM] at ht
                exact ih r1 (by omega) h st t ht
/-- ALL STAND IN PAIRS: as the stack says, as Ended says. -/
theorem pairs_iff (f : Nat) (s : List Int) (hf : s.length < f) : scanM [] s = some [] ↔ endM f s = some [] := by
  constructor
  · intro h
    cases he : endM f s with
    | none => have := endM_none f s hf he [] [] h; simp at this
    | some r =>
      obtain ⟨a, -⟩ := endM_at f s r he
      rw [endM_scan f s r he] at h
      cases r with
      | nil => rfl
      | cons k r =>
        rcases a with rfl | rfl <;> simp [scanM] at h
  · intro h
    rw [endM_scan f s [] h]
    rfl
/-- More fuel is no other answer. -/
theorem endM_fuel : ∀ (f : Nat) (s : List Int), s.length < f → ∀ g, f ≤ g → endM g s = endM f s := by
  intro f
  induction f with
  | zero => intro s hf; omega
  | succ f ih =>
    intro s hf g hg
    obtain ⟨g, rfl⟩ : ∃ k, g = k + 1 := ⟨g - 1, by omega⟩
    cases s with
    | nil => rfl
    | cons k s =>
      simp only [List.length_cons] at hf
      have e1 := ih s (by omega) g (by omega)
      rw [endM, endM, e1]
      split
      · rfl
      · split
        · rfl
        · cases h1 : endM f s with
          | none => rfl
          | some r1 =>
            obtain ⟨-, b1⟩ := endM_at f s r1 h1
            cases r1 with
            | nil => rfl
            | cons k1 r1 =>
              simp only [List.length_cons] at b1
              have e2 := ih r1 (by omega) g (by omega)
              by_cases c13 : k1 = 13
              · subst c13; simp only; exact e2
              · by_cases c12 : k1 = 12
                · subst c12
                  simp only [e2]
                  cases h2 : endM f r1 with
                  | none => rfl
                  | some r2 =>
                    obtain ⟨-, b2⟩ := endM_at f r1 r2 h2
                    cases r2 with
                    | nil => rfl
                    | cons k2 r2 =>
                      simp only [List.length_cons] at b2
                      by_cases d13 : k2 = 13
                      · subst d13; simp only; exact ih r2 (by omega) g (by omega)
                      · split <;> simp_all
                · split <;> simp_all
end Go.Proofs.YtljcdkfafknnpaaDoor
