/- The plain law of tree's paths. Conditions: none beyond each theorem's own. -/
import Derived.Test.YtamjldakllafcaaDoorRoot
namespace Go.Proofs.YtamjldakllafcaaDoor
set_option linter.unusedVariables false
set_option linter.unusedSimpArgs false
open Go.RowKit

/-- What lies beside a leaf's way, from the root down. -/
def downM (ls : List (List UInt8)) (i : Nat) : List (List UInt8) :=
  if 2 ≤ ls.length ∧ 0 < halfM ls.length ∧ halfM ls.length < ls.length then
    if i < halfM ls.length then rootM (ls.drop (halfM ls.length)) :: downM (ls.take (halfM ls.length)) i
    else rootM (ls.take (halfM ls.length)) :: downM (ls.drop (halfM ls.length)) (i - halfM ls.length)
  else []
termination_by ls.length
decreasing_by
  · simp; omega
  · simp; omega
/-- .. is it on the left? -/
def sidesM (i n : Nat) : List Bool :=
  if 2 ≤ n ∧ 0 < halfM n ∧ halfM n < n then
    if i < halfM n then true :: sidesM i (halfM n) else false :: sidesM (i - halfM n) (n - halfM n)
  else []
termination_by n
/-- A leaf and what lies beside its way, from the leaf up. -/
def foldM (l : List UInt8) : List Bool → List (List UInt8) → List UInt8
  | b :: bs, p :: ps => foldM (if b then nodeM l p else nodeM p l) bs ps
  | _, _ => l
theorem downM_one (ls : List (List UInt8)) (i : Nat) (h : ls.length ≤ 1) : downM ls i = [] := by
  rw [downM, if_neg (by omega)]
theorem downM_left (ls : List (List UInt8)) (i : Nat) (h : 2 ≤ ls.length) (h2 : ls.length ≤ 256) (hi : i < halfM ls.length) :
    downM ls i = rootM (ls.drop (halfM ls.length)) :: downM (ls.take (halfM ls.length)) i := by
  obtain ⟨h3, h4, -⟩ := halfM_bounds _ h h2
  rw [downM, if_pos ⟨h, h3, h4⟩, if_pos hi]
theorem downM_right (ls : List (List UInt8)) (i : Nat) (h : 2 ≤ ls.length) (h2 : ls.length ≤ 256) (hi : ¬ i < halfM ls.length) :
    downM ls i = rootM (ls.take (halfM ls.length)) :: downM (ls.drop (halfM ls.length)) (i - halfM ls.length) := by
  obtain ⟨h3, h4, -⟩ := halfM_bounds _ h h2
  rw [downM, if_pos ⟨h, h3, h4⟩, if_neg hi]
theorem sidesM_one (i n : Nat) (h : n ≤ 1) : sidesM i n = [] := by
  rw [sidesM, if_neg (by omega)]
theorem sidesM_left (i n : Nat) (h : 2 ≤ n) (h2 : n ≤ 256) (hi : i < halfM n) : sidesM i n = true :: sidesM i (halfM n) := by
  obtain ⟨h3, h4, -⟩ := halfM_bounds _ h h2
  rw [sidesM, if_pos ⟨h, h3, h4⟩, if_pos hi]
theorem sidesM_right (i n : Nat) (h : 2 ≤ n) (h2 : n ≤ 256) (hi : ¬ i < halfM n) : sidesM i n = false :: sidesM (i - halfM n) (n - halfM n) := by
  obtain ⟨h3, h4, -⟩ := halfM_bounds _ h h2
  rw [sidesM, if_pos ⟨h, h3, h4⟩, if_neg hi]
theorem foldM_snoc (l : List UInt8) (bs : List Bool) (ps : List (List UInt8)) (b : Bool) (p : List UInt8) (h : bs.length = ps.length) :
    foldM l (bs ++ [b]) (ps ++ [p]) = if b then nodeM (foldM l bs ps) p else nodeM p (foldM l bs ps) := by
  induction bs generalizing l ps with
  | nil =>
    obtain rfl : ps = [] := List.eq_nil_of_length_eq_zero h.symm
    simp [foldM]
  | cons c cs ih =>
    cases ps with
    | nil => simp at h
    | cons q qs =>
      simp only [List.cons_append, foldM]
      exact ih _ qs (by simpa using h)
theorem downM_length : ∀ (N : Nat) (ls : List (List UInt8)) (i : Nat), ls.length ≤ N → ls.length ≤ 256 → (downM ls i).length = (sidesM i ls.length).length := by
  intro N
  induction N with
  | zero => intro ls i h _; rw [downM_one _ _ (by omega), sidesM_one _ _ (by omega)]; rfl
  | succ N ih =>
    intro ls i h h2
    by_cases h1 : 2 ≤ ls.length
    · obtain ⟨h3, h4, -⟩ := halfM_bounds _ h1 h2
      by_cases hi : i < halfM ls.length
      · rw [downM_left _ _ h1 h2 hi, sidesM_left _ _ h1 h2 hi]
        have := ih (ls.take (halfM ls.length)) i (by simp; omega) (by simp; omega)
        rw [List.length_take, show min (halfM ls.length) ls.length = halfM ls.length from by omega] at this
        simp only [List.length_cons, this]
      · rw [downM_right _ _ h1 h2 hi, sidesM_right _ _ h1 h2 hi]
        have := ih (ls.drop (halfM ls.length)) (i - halfM ls.length) (by simp; omega) (by simp; omega)
        rw [List.length_drop] at this
        simp only [List.length_cons, this]
    · rw [downM_one _ _ (by omega), sidesM_one _ _ (by omega)]; rfl
theorem fold_root : ∀ (N : Nat) (ls : List (List UInt8)) (i : Nat), ls.length ≤ N → ls.length ≤ 256 → i < ls.length → foldM (ls.getD i []) (sidesM i ls.length).reverse (downM ls i).reverse = rootM ls := by
  intro N
  induction N with
  | zero => intro ls i h _ hi; omega
  | succ N ih =>
    intro ls i h h2 hlt
    by_cases h1 : 2 ≤ ls.length
    · obtain ⟨h3, h4, -⟩ := halfM_bounds _ h1 h2
      rw [rootM_two ls h1 h2]
      by_cases hi : i < halfM ls.length
      · have e := ih (ls.take (halfM ls.length)) i (by simp; omega) (by simp; omega) (by simp; omega)
        have el := downM_length _ (ls.take (halfM ls.length)) i (Nat.le_refl _) (by simp; omega)
        rw [List.length_take, show min (halfM ls.length) ls.length = halfM ls.length from by omega] at e el
        rw [downM_left _ _ h1 h2 hi, sidesM_left _ _ h1 h2 hi, List.reverse_cons, List.reverse_cons, foldM_snoc _ _ _ _ _ (by simp [el])]
        have eg : (ls.take (halfM ls.length)).getD i [] = ls.getD i [] := by
          rw [List.getD_eq_getElem?_getD, List.getD_eq_getElem?_getD, List.getElem?_take, if_pos hi]
        rw [eg] at e
        rw [if_pos rfl, e]
      · have e := ih (ls.drop (halfM ls.length)) (i - halfM ls.length) (by simp; omega) (by simp; omega) (by simp; omega)
        have el := downM_length _ (ls.drop (halfM ls.length)) (i - halfM ls.length) (Nat.le_refl _) (by simp; omega)
        rw [List.length_drop] at e el
        rw [downM_right _ _ h1 h2 hi, sidesM_right _ _ h1 h2 hi, List.reverse_cons, List.reverse_cons, foldM_snoc _ _ _ _ _ (by simp [el])]
        have eg : (ls.drop (halfM ls.length)).getD (i - halfM ls.length) [] = ls.getD i [] := by
          rw [List.getD_eq_getElem?_getD, List.getD_eq_getElem?_getD, List.getElem?_drop, show halfM ls.length + (i - halfM ls.length) = i from by omega]
        rw [eg] at e
        rw [if_neg (by simp), e]
    · obtain ⟨d, rfl⟩ := List.length_eq_one_iff.1 (show ls.length = 1 by omega)
      obtain rfl : i = 0 := by simpa using hlt
      rw [sidesM_one _ _ (by simp), rootM_one]
      rfl
theorem downM_32 : ∀ (N : Nat) (ls : List (List UInt8)) (i : Nat), ls.length ≤ N → ls.length ≤ 256 → (∀ d ∈ ls, d.length = 32) → ∀ d ∈ downM ls i, d.length = 32 := by
  intro N
  induction N with
  | zero => intro ls i h _ _ d hd; rw [downM_one _ _ (by omega)] at hd; cases hd
  | succ N ih =>
    intro ls i h h2 h32 d hd
    by_cases h1 : 2 ≤ ls.length
    · obtain ⟨h3, h4, -⟩ := halfM_bounds _ h1 h2
      have m1 : ∀ d ∈ ls.take (halfM ls.length), d.length = 32 := fun d hd => h32 d (List.mem_of_mem_take hd)
      have m2 : ∀ d ∈ ls.drop (halfM ls.length), d.length = 32 := fun d hd => h32 d (List.mem_of_mem_drop hd)
      by_cases hi : i < halfM ls.length
      · rw [downM_left _ _ h1 h2 hi] at hd
        rcases List.mem_cons.1 hd with rfl | hd
        · exact rootM_length _ m2
        · exact ih _ i (by simp; omega) (by simp; omega) m1 d hd
      · rw [downM_right _ _ h1 h2 hi] at hd
        rcases List.mem_cons.1 hd with rfl | hd
        · exact rootM_length _ m1
        · exact ih _ _ (by simp; omega) (by simp; omega) m2 d hd
    · rw [downM_one _ _ (by omega)] at hd; cases hd
/-- So often a number below 256 is halved till it is 0. -/
def halvings (n : Nat) : Nat := Lib.bitLen n
theorem halvings_facts : ∀ n : Fin 257, 2 ≤ n.val → halvings (halfM n.val - 1) + 1 = halvings (n.val - 1) ∧ halvings (n.val - halfM n.val - 1) + 1 ≤ halvings (n.val - 1) := by decide +kernel
theorem halvings_step : ∀ n : Fin 257, 0 < n.val → halvings n.val = 1 + halvings (n.val / 2) := by decide +kernel
theorem sidesM_most : ∀ (N i n : Nat), n ≤ N → n ≤ 256 → (sidesM i n).length ≤ halvings (n - 1) := by
  intro N
  induction N with
  | zero => intro i n h _; rw [sidesM_one _ _ (by omega)]; simp
  | succ N ih =>
    intro i n h h2
    by_cases h1 : 2 ≤ n
    · obtain ⟨h3, h4, -⟩ := halfM_bounds _ h1 h2
      obtain ⟨f1, f2⟩ := halvings_facts ⟨n, by omega⟩ h1
      simp only at f1 f2
      by_cases hi : i < halfM n
      · rw [sidesM_left _ _ h1 h2 hi]
        have := ih i (halfM n) (by omega) (by omega)
        simp only [List.length_cons]; omega
      · rw [sidesM_right _ _ h1 h2 hi]
        have := ih (i - halfM n) (n - halfM n) (by omega) (by omega)
        simp only [List.length_cons]; omega
    · rw [sidesM_one _ _ (by omega)]; simp
end Go.Proofs.YtamjldakllafcaaDoor
