/- Ended and Behind, as plain functions of what is left. Conditions: none. -/
import Derived.Test.YtljcdkfafknnpaaDoorBrk
namespace Go.Proofs.YtljcdkfafknnpaaDoor
set_option linter.unusedVariables false
set_option linter.unusedSimpArgs false

def endK (s : List Int) : Option (List Int) := endM (s.length + 1) s
def behK (s : List Int) : Option (List Int) :=
  match endK s with
  | some (13 :: r) => some r
  | some (12 :: r) => (match endK r with
    | some (13 :: r') => some r'
    | _ => none)
  | _ => none
theorem endK_fuel (s : List Int) (f : Nat) (h : s.length < f) : endM f s = endK s := endM_fuel (s.length + 1) s (by omega) f (by omega)
theorem endK_nil : endK [] = some [] := rfl
theorem endK_stop (k : Int) (s : List Int) (h : k = 12 ∨ k = 13) : endK (k :: s) = some (k :: s) := by
  unfold endK; rw [endM, if_pos h]
theorem endK_other (k : Int) (s : List Int) (h : ¬ (k = 12 ∨ k = 13)) (h2 : ¬ k = 11) : endK (k :: s) = endK s := by
  unfold endK; rw [endM, if_neg h, if_pos h2]; exact endM_fuel (s.length + 1) s (by omega) _ (by simp)
theorem endK_at {s r : List Int} (h : endK s = some r) : atEnd r ∧ r.length ≤ s.length := endM_at _ _ _ h
theorem endM_suffix : ∀ (f : Nat) (s r : List Int), endM f s = some r → r <:+ s := by
  intro f
  induction f with
  | zero => intro s r h; cases h
  | succ f ih =>
    intro s r h
    cases s with
    | nil => cases h; exact List.suffix_refl _
    | cons k s =>
      unfold endM at h
      split at h
      · cases h; exact List.suffix_refl _
      · split at h
        · exact (ih s r h).trans (List.suffix_cons _ _)
        · split at h
          · rename_i r1 h1
            exact (((ih r1 r h).trans (List.suffix_cons _ _)).trans (ih s _ h1)).trans (List.suffix_cons _ _)
          · rename_i r1 h1
            split at h
            · rename_i r2 h2
              exact (((((ih r2 r h).trans (List.suffix_cons _ _)).trans (ih r1 _ h2)).trans (List.suffix_cons _ _)).trans (ih s _ h1)).trans (List.suffix_cons _ _)
            · cases h
          · cases h
theorem endK_suffix {s r : List Int} (h : endK s = some r) : r <:+ s := endM_suffix _ _ _ h
theorem suffix_drop {r s : List Int} (h : r <:+ s) : s.drop (s.length - r.length) = r := by
  obtain ⟨t, rfl⟩ := h
  rw [List.length_append, show t.length + r.length - r.length = t.length from by omega, List.drop_left]
theorem behK_suffix {s r : List Int} (h : behK s = some r) : r <:+ s ∧ r.length < s.length := by
  unfold behK at h
  split at h
  · rename_i r1 h1
    cases h
    have := endK_suffix h1
    exact ⟨(List.suffix_cons _ _).trans this, by have := this.length_le; simp only [List.length_cons] at this; omega⟩
  · rename_i r1 h1
    split at h
    · rename_i r2 h2
      cases h
      have e1 := endK_suffix h1; have e2 := endK_suffix h2
      exact ⟨(((List.suffix_cons _ _).trans e2).trans (List.suffix_cons _ _)).trans e1, by have a := e1.length_le; have b := e2.length_le; simp only [List.length_cons] at a b; omega⟩
    · cases h
  · cases h
theorem endK_if (k : Int) (s : List Int) (h : k = 11) : endK (k :: s) = match behK s with | none => none | some r => endK r := by
  subst h
  unfold endK
  rw [endM, if_neg (by omega), if_neg (by omega), List.length_cons, show endM (s.length + 1) s = endK s from rfl]
  unfold behK
  cases h1 : endK s with
  | none => rfl
  | some r1 =>
    have hl1 := (endK_suffix h1).length_le
    cases r1 with
    | nil => rfl
    | cons k1 r1 =>
      simp only [List.length_cons] at hl1
      by_cases c13 : k1 = 13
      · subst c13; simp only; exact endK_fuel r1 _ (by omega)
      · by_cases c12 : k1 = 12
        · subst c12
          simp only
          rw [endK_fuel r1 _ (by omega)]
          cases h2 : endK r1 with
          | none => rfl
          | some r2 =>
            have hl2 := (endK_suffix h2).length_le
            cases r2 with
            | nil => rfl
            | cons k2 r2 =>
              simp only [List.length_cons] at hl2
              by_cases d13 : k2 = 13
              · subst d13; simp only; exact endK_fuel r2 _ (by omega)
              · split <;> simp_all
        · split <;> simp_all
/-- The place that Ended tells, of n ops. -/
def endI (n : Nat) (s : List Int) : Int := match endK s with | none => -1 | some r => ((n - r.length : Nat) : Int)
def behI (n : Nat) (s : List Int) : Int := match behK s with | none => -1 | some r => ((n - r.length : Nat) : Int)
theorem pairs_endI (s : List Int) : scanM [] s = some [] ↔ endI s.length s = (s.length : Int) := by
  rw [pairs_iff (s.length + 1) s (by omega), show endM (s.length + 1) s = endK s from rfl]
  unfold endI
  cases h : endK s with
  | none => simp
  | some r =>
    have hl := (endK_suffix h).length_le
    simp only [Option.some.injEq]
    constructor
    · rintro rfl; simp
    · intro he
      exact List.eq_nil_of_length_eq_zero (by
        by_cases h0 : r.length = 0
        · exact h0
        · exfalso
          have : 0 < s.length := by omega
          omega)
end Go.Proofs.YtljcdkfafknnpaaDoor
