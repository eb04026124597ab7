/- The order of places; a set without a fault is in order; what a search in it finds. Conditions: none. -/
import Derived.Test.YtljcdkfafknnpaaDoorEqp
namespace Go.Proofs.YtljcdkfafknnpaaDoor
set_option linter.unusedVariables false
set_option linter.unusedSimpArgs false

theorem cmpB_vals : ∀ (a b : List UInt8), Lib.compareBytes a b = -1 ∨ Lib.compareBytes a b = 0 ∨ Lib.compareBytes a b = 1
  | [], [] => by simp [Lib.compareBytes]
  | [], _ :: _ => by simp [Lib.compareBytes]
  | _ :: _, [] => by simp [Lib.compareBytes]
  | x :: a, y :: b => by
    unfold Lib.compareBytes
    split
    · exact .inl rfl
    · split
      · exact .inr (.inr rfl)
      · exact cmpB_vals a b
theorem cmpB_trans : ∀ (a b c : List UInt8), Lib.compareBytes a b < 0 → Lib.compareBytes b c < 0 → Lib.compareBytes a c < 0
  | [], [], c, h, _ => by simp [Lib.compareBytes] at h
  | [], _ :: _, [], _, h => by simp [Lib.compareBytes] at h
  | [], _ :: _, _ :: _, _, _ => by simp [Lib.compareBytes]
  | _ :: _, [], _, h, _ => by simp [Lib.compareBytes] at h
  | _ :: _, _ :: _, [], _, h => by simp [Lib.compareBytes] at h
  | x :: a, y :: b, z :: c, h1, h2 => by
    simp only [Lib.compareBytes, UInt8.lt_iff_toNat_lt] at h1 h2 ⊢
    by_cases hxy : x.toNat < y.toNat
    · by_cases hyz : y.toNat < z.toNat
      · rw [if_pos (by omega)]; omega
      · rw [if_neg hyz] at h2
        by_cases hzy : z.toNat < y.toNat
        · rw [if_pos hzy] at h2; omega
        · rw [if_pos (by omega)]; omega
    · rw [if_neg hxy] at h1
      by_cases hyx : y.toNat < x.toNat
      · rw [if_pos hyx] at h1; omega
      · rw [if_neg hyx] at h1
        by_cases hyz : y.toNat < z.toNat
        · rw [if_pos (by omega)]; omega
        · rw [if_neg hyz] at h2
          by_cases hzy : z.toNat < y.toNat
          · rw [if_pos hzy] at h2; omega
          · rw [if_neg hzy] at h2
            rw [if_neg (by omega), if_neg (by omega)]
            exact cmpB_trans a b c h1 h2
theorem plC_zero (p q : PlaceD) (h : p.tx.length = q.tx.length) : plC p q = 0 ↔ plE p q = true := by
  unfold plC plE
  rw [Bool.and_eq_true, decide_eq_true_eq, decide_eq_true_eq]
  constructor
  · intro e
    by_cases hz : Lib.compareBytes p.tx q.tx = 0
    · rw [if_pos hz] at e
      refine ⟨cmpB_same _ _ h hz, ?_⟩
      split at e
      · omega
      · split at e <;> omega
    · rw [if_neg hz] at e; exact absurd e hz
  · rintro ⟨e1, e2⟩
    rw [e1, cmpB_refl, if_pos rfl, e2, if_neg (by omega), if_neg (by omega)]
theorem plE_eq {p q : PlaceD} (h : plE p q = true) : p = q := by
  unfold plE at h
  rw [Bool.and_eq_true, decide_eq_true_eq, decide_eq_true_eq] at h
  cases p; cases q
  simp_all
theorem plC_trans (p q r : PlaceD) (h1 : p.tx.length = 32) (h2 : q.tx.length = 32) (h3 : r.tx.length = 32) (a : plC p q < 0) (b : plC q r < 0) : plC p r < 0 := by
  unfold plC at a b ⊢
  by_cases z1 : Lib.compareBytes p.tx q.tx = 0
  · rw [if_pos z1] at a
    have e1 := cmpB_same _ _ (by omega) z1
    rw [e1]
    by_cases z2 : Lib.compareBytes q.tx r.tx = 0
    · rw [if_pos z2] at b ⊢
      split at a
      · split at b
        · rw [if_pos (by omega)]; omega
        · split at b <;> omega
      · split at a <;> omega
    · rw [if_neg z2] at b ⊢; exact b
  · rw [if_neg z1] at a
    by_cases z2 : Lib.compareBytes q.tx r.tx = 0
    · have e2 := cmpB_same _ _ (by omega) z2
      rw [← e2, if_neg z1]; exact a
    · rw [if_neg z2] at b
      have := cmpB_trans _ _ _ a b
      rw [if_neg (by omega)]; exact this
/-- In order. -/
def sortedC (cs : List CoinD) : Prop := ∀ i j (hi : i < cs.length) (hj : j < cs.length), i < j → plC cs[i].place cs[j].place < 0
def all32 (cs : List CoinD) : Prop := ∀ i (hi : i < cs.length), cs[i].tx.length = 32
theorem setFrom_zero (cs : List CoinD) : ∀ (m j : Nat), cs.length - j = m → setFrom cs m j = 0 → ∀ k, j ≤ k → k < cs.length → aheadB cs k = false ∧ coinF (cs.getD k default) = 0 := by
  intro m
  induction m with
  | zero => intro j hj _ k h1 h2; omega
  | succ m ih =>
    intro j hj h k h1 h2
    unfold setFrom at h
    split at h
    · cases h
    · rename_i ha
      split at h
      · rename_i hc
        by_cases hk : k = j
        · subst hk; exact ⟨by simpa using ha, hc⟩
        · exact ih (j + 1) (by omega) h k (by omega) h2
      · rename_i hc; exact absurd h hc
theorem setF_zero (cs : List CoinD) (h : setF cs = 0) : cs.length ≤ 1000 ∧ ∀ k, k < cs.length → aheadB cs k = false ∧ coinF (cs.getD k default) = 0 := by
  unfold setF at h
  split at h
  · cases h
  · exact ⟨by omega, fun k hk => setFrom_zero cs cs.length 0 (by omega) h k (by omega) hk⟩
theorem sorted_of (cs : List CoinD) (h32 : all32 cs) (h : setF cs = 0) : sortedC cs := by
  obtain ⟨-, h2⟩ := setF_zero cs h
  have hstep : ∀ j (hj : j + 1 < cs.length), plC cs[j].place cs[j + 1].place < 0 := fun j hj => by
    obtain ⟨ha, -⟩ := h2 (j + 1) hj
    unfold aheadB at ha
    rw [decide_eq_true (by omega), Bool.true_and, decide_eq_false_iff_not, Nat.add_sub_cancel, List.getD_eq_getElem?_getD, List.getD_eq_getElem?_getD, List.getElem?_eq_getElem hj, List.getElem?_eq_getElem (show j < cs.length by omega)] at ha
    simp only [Option.getD_some] at ha
    omega
  intro i j hi hj hij
  obtain ⟨d, rfl⟩ : ∃ d, j = i + 1 + d := ⟨j - i - 1, by omega⟩
  induction d with
  | zero => exact hstep i hj
  | succ d ih => exact plC_trans _ _ _ (h32 _ _) (h32 _ _) (h32 _ _) (ih (by omega) (by omega)) (hstep (i + 1 + d) hj)
/-- Where a search stops. -/
def foundAt (cs : List CoinD) (p : PlaceD) (i : Nat) (b : Bool) : Prop :=
  (b = true → ∃ hi : i < cs.length, plE cs[i].place p = true) ∧ (b = false → ∀ k (hk : k < cs.length), plE cs[k].place p = false)
theorem atF_none (p : PlaceD) : ∀ (cs : List CoinD) (j : Nat), (∀ k (hk : k < cs.length), plE cs[k].place p = false) → atF p cs j = -1
  | [], _, _ => rfl
  | c :: cs, j, h => by
    have h0 : plE c.place p = false := h 0 (by simp)
    rw [atF, if_neg (by rw [h0]; decide)]
    exact atF_none p cs (j + 1) (fun k hk => h (k + 1) (by simpa using hk))
theorem atF_some (p : PlaceD) : ∀ (cs : List CoinD) (j i : Nat) (hi : i < cs.length), plE cs[i].place p = true → (∀ k (hk : k < cs.length), k < i → plE cs[k].place p = false) → atF p cs j = ((j + i : Nat) : Int)
  | c :: cs, j, 0, _, h, _ => by
    have h0 : plE c.place p = true := h
    rw [atF, if_pos h0]; simp
  | c :: cs, j, i + 1, hi, h, hb => by
    have h0 : plE c.place p = false := hb 0 (by simp) (by omega)
    rw [atF, if_neg (by rw [h0]; decide), atF_some p cs (j + 1) i (by simpa using hi) h (fun k hk hki => hb (k + 1) (by simpa using hk) (by omega))]
    congr 1; omega
theorem found_atF (cs : List CoinD) (p : PlaceD) (h32 : all32 cs) (hs : sortedC cs) (hp : p.tx.length = 32) (i : Nat) (b : Bool) (h : foundAt cs p i b) : atF p cs 0 = if b = true then (i : Int) else -1 := by
  cases b
  · exact atF_none p cs 0 (h.2 rfl)
  · obtain ⟨hi, he⟩ := h.1 rfl
    have := atF_some p cs 0 i hi he (fun k hk hki => by
      cases hq : plE cs[k].place p with
      | false => rfl
      | true =>
        have e1 := plE_eq he; have e2 := plE_eq hq
        have hlt := hs k i hk hi hki
        rw [e1, e2] at hlt
        have := (plC_zero p p rfl).2 (by unfold plE; simp)
        omega)
    simpa using this
theorem search_done (cs : List CoinD) (p : PlaceD) (h32 : all32 cs) (hs : sortedC cs) (hp : p.tx.length = 32) (i : Nat) (hlo : ∀ k (hk : k < cs.length), k < i → plC cs[k].place p < 0) (hhi : ∀ k (hk : k < cs.length), i ≤ k → ¬ plC cs[k].place p < 0)
    (b : Bool) (hb : b = true ↔ ∃ hi : i < cs.length, plC cs[i].place p = 0) : foundAt cs p i b := by
  constructor
  · intro h
    obtain ⟨hi, he⟩ := hb.1 h
    exact ⟨hi, (plC_zero _ _ ((h32 i hi).trans hp.symm)).1 he⟩
  · intro h k hk
    cases hq : plE cs[k].place p with
    | false => rfl
    | true =>
      have hz := (plC_zero cs[k].place p ((h32 k hk).trans hp.symm)).2 hq
      by_cases hki : k < i
      · have := hlo k hk hki; omega
      · by_cases he : k = i
        · subst he
          have := hb.2 ⟨hk, hz⟩
          rw [h] at this; cases this
        · have h1 := hs i k (by omega) hk (by omega)
          have e2 := plE_eq hq
          rw [e2] at h1
          exact absurd h1 (hhi i (by omega) (Nat.le_refl _))
end Go.Proofs.YtljcdkfafknnpaaDoor
