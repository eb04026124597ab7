/- Merged: Mrg. Conditions: none beyond each theorem's own. -/
import Derived.Test.YtljcdkfafknnpaaGreatDoorMd
namespace Go.Proofs.YtljcdkfafknnpaaGreatDoor
set_option linter.unusedVariables false
set_option linter.unusedSimpArgs false
def ltB (n c : CoinD) : Bool := decide (plC c.place n.place < 0)
/-- Those ahead of each of the others, and it, and so on. -/
def mergeC : List CoinD → List CoinD → List CoinD
  | us, [] => us
  | us, b :: bs => us.takeWhile (ltB b) ++ b :: mergeC (us.dropWhile (ltB b)) bs
theorem mergeC_nil (us : List CoinD) : mergeC us [] = us := by cases us <;> rfl
theorem mergeC_empty (b : CoinD) (bs : List CoinD) : mergeC [] (b :: bs) = b :: mergeC [] bs := rfl
theorem mergeC_lo (a b : CoinD) (us bs : List CoinD) (h : plC a.place b.place < 0) : mergeC (a :: us) (b :: bs) = a :: mergeC us (b :: bs) := by
  have : ltB b a = true := decide_eq_true h
  rw [mergeC, mergeC, List.takeWhile_cons_of_pos this, List.dropWhile_cons_of_pos this]; rfl
theorem mergeC_hi (a b : CoinD) (us bs : List CoinD) (h : ¬ plC a.place b.place < 0) : mergeC (a :: us) (b :: bs) = b :: mergeC (a :: us) bs := by
  have : ¬ ltB b a = true := by rw [show ltB b a = false from decide_eq_false h]; decide
  rw [mergeC, List.takeWhile_cons_of_neg this, List.dropWhile_cons_of_neg this]; rfl
theorem insC_while (n : CoinD) : ∀ (cs : List CoinD), insC n cs = cs.takeWhile (ltB n) ++ n :: cs.dropWhile (ltB n)
  | [] => rfl
  | c :: cs => by
    rw [insC]
    split
    · rename_i h
      have : ltB n c = true := decide_eq_true h
      rw [List.takeWhile_cons_of_pos this, List.dropWhile_cons_of_pos this, insC_while n cs]; rfl
    · rename_i h
      have : ¬ ltB n c = true := by rw [show ltB n c = false from decide_eq_false h]; decide
      rw [List.takeWhile_cons_of_neg this, List.dropWhile_cons_of_neg this]; rfl
theorem merge_one (n : CoinD) (cs : List CoinD) : mergeC cs [n] = insC n cs := by rw [mergeC, mergeC_nil, insC_while]
theorem insC_pass (m : CoinD) : ∀ (l r : List CoinD), (∀ x ∈ l, plC x.place m.place < 0) → insC m (l ++ r) = l ++ insC m r
  | [], r, _ => rfl
  | x :: l, r, h => by
    rw [List.cons_append, insC, if_pos (h x (by simp)), insC_pass m l r (fun y hy => h y (by simp [hy]))]; rfl
theorem withC_pass : ∀ (ns l r : List CoinD), (∀ m ∈ ns, ∀ x ∈ l, plC x.place m.place < 0) → withC (l ++ r) ns = l ++ withC r ns
  | [], l, r, _ => rfl
  | m :: ns, l, r, h => by
    rw [withC, insC_pass m l r (h m (by simp)), withC_pass ns l (insC m r) (fun k hk => h k (by simp [hk]))]; rfl
theorem takeWhile_lt (n : CoinD) : ∀ (cs : List CoinD), ∀ x ∈ cs.takeWhile (ltB n), x ∈ cs ∧ plC x.place n.place < 0
  | [], x, h => by cases h
  | c :: cs, x, h => by
    by_cases hc : ltB n c = true
    · rw [List.takeWhile_cons_of_pos hc] at h
      rcases List.mem_cons.1 h with rfl | h
      · exact ⟨by simp, of_decide_eq_true hc⟩
      · obtain ⟨h1, h2⟩ := takeWhile_lt n cs x h
        exact ⟨by simp [h1], h2⟩
    · rw [List.takeWhile_cons_of_neg hc] at h; cases h
theorem dropWhile_mem (n : CoinD) : ∀ (cs : List CoinD), ∀ x ∈ cs.dropWhile (ltB n), x ∈ cs
  | [], x, h => by cases h
  | c :: cs, x, h => by
    by_cases hc : ltB n c = true
    · rw [List.dropWhile_cons_of_pos hc] at h
      exact List.mem_cons_of_mem _ (dropWhile_mem n cs x h)
    · rw [List.dropWhile_cons_of_neg hc] at h; exact h
/-- Merged, and put in one by one: the same, if those that are put in are in order. -/
theorem mergeC_with : ∀ (bs us : List CoinD), all32' us → all32' bs → sortedP bs → mergeC us bs = withC us bs
  | [], us, _, _, _ => mergeC_nil us
  | b :: bs, us, ha, hb, hs => by
    obtain ⟨s1, s2⟩ := List.pairwise_cons.1 hs
    have hb32 := hb b (by simp)
    have e : us.takeWhile (ltB b) ++ b :: us.dropWhile (ltB b) = (us.takeWhile (ltB b) ++ [b]) ++ us.dropWhile (ltB b) := by rw [List.append_assoc]; rfl
    rw [mergeC, withC, insC_while, mergeC_with bs _ (fun x hx => ha x (dropWhile_mem b us x hx)) (fun x hx => hb x (by simp [hx])) s2, e, withC_pass bs (us.takeWhile (ltB b) ++ [b]) _ (fun m hm x hx => ?_), List.append_assoc]
    · rfl
    · rcases List.mem_append.1 hx with hx | hx
      · obtain ⟨h1, h2⟩ := takeWhile_lt b us x hx
        exact ltC_trans (ha x h1) hb32 (hb m (by simp [hm])) h2 (s1 m hm)
      · rw [List.mem_singleton.1 hx]; exact s1 m hm
theorem mergeC_mem {bs us : List CoinD} : ∀ x ∈ mergeC us bs, x ∈ us ∨ x ∈ bs := by
  induction bs generalizing us with
  | nil => intro x hx; rw [mergeC_nil] at hx; exact .inl hx
  | cons b bs ih =>
    intro x hx
    rw [mergeC] at hx
    rcases List.mem_append.1 hx with hx | hx
    · exact .inl (takeWhile_lt b us x hx).1
    · rcases List.mem_cons.1 hx with rfl | hx
      · exact .inr (by simp)
      · rcases ih x hx with h | h
        · exact .inl (dropWhile_mem b us x h)
        · exact .inr (by simp [h])
theorem newsC_sorted (id : List UInt8) (h : Int) : ∀ (os : List OutD) (i : Nat), sortedP (newsC id h i os)
  | [], i => List.Pairwise.nil
  | o :: os, i => by
    rw [newsC]
    refine List.pairwise_cons.2 ⟨fun c hc => ?_, newsC_sorted id h os (i + 1)⟩
    obtain ⟨e1, e2, -⟩ := newsC_mem id h os (i + 1) c hc
    unfold ltC plC
    have h1 : (⟨id, i, o.amount, o.lock, h⟩ : CoinD).place.tx = c.place.tx := e1.symm
    have h2 : (⟨id, i, o.amount, o.lock, h⟩ : CoinD).place.ix < c.place.ix := by show (i : Int) < c.ix; omega
    rw [h1, cmpB_refl, if_pos rfl, if_pos h2]; decide
/-- Where a loop that merges stands. -/
theorem merge_at_lo (us bs : List CoinD) (i j : Nat) (hi : i < us.length) (h : ∀ hj : j < bs.length, plC us[i].place bs[j].place < 0) : mergeC (us.drop i) (bs.drop j) = us[i] :: mergeC (us.drop (i + 1)) (bs.drop j) := by
  rw [List.drop_eq_getElem_cons hi]
  by_cases hj : j < bs.length
  · rw [List.drop_eq_getElem_cons hj, mergeC_lo _ _ _ _ (h hj)]
  · rw [List.drop_eq_nil_of_le (show bs.length ≤ j by omega), mergeC_nil, mergeC_nil]
theorem merge_at_hi (us bs : List CoinD) (i j : Nat) (hj : j < bs.length) (h : ∀ hi : i < us.length, ¬ plC us[i].place bs[j].place < 0) : mergeC (us.drop i) (bs.drop j) = bs[j] :: mergeC (us.drop i) (bs.drop (j + 1)) := by
  rw [List.drop_eq_getElem_cons hj]
  by_cases hi : i < us.length
  · rw [List.drop_eq_getElem_cons hi, mergeC_hi _ _ _ _ (h hi)]
  · rw [List.drop_eq_nil_of_le (show us.length ≤ i by omega), mergeC_empty]
/-- A place is there just if CoinAt tells one. -/
theorem atF_neg (p : PlaceD) (cs : List CoinD) : atF p cs 0 < 0 ↔ atP cs p = false := by
  rcases Bool.eq_false_or_eq_true (atP cs p) with h | h
  · have hh : hasP cs p := (atP_iff cs p).1 h
    constructor
    · intro hl
      obtain ⟨c, hc, he⟩ := hh
      obtain ⟨k, hk, rfl⟩ := List.getElem_of_mem hc
      exfalso
      have : ∀ (cs : List CoinD) (j k : Nat) (hk : k < cs.length), plE cs[k].place p = true → (0 : Int) ≤ atF p cs j := by
        intro cs
        induction cs with
        | nil => intro j k hk; simp at hk
        | cons c cs ih =>
          intro j k hk he
          unfold atF
          split
          · omega
          · rename_i hn
            cases k with
            | zero => exact absurd he hn
            | succ k => exact ih (j + 1) k (by simpa using hk) he
      have := this cs 0 k hk ((plE_iff _ _).2 he)
      omega
    · intro h2; rw [h] at h2; cases h2
  · refine ⟨fun _ => h, fun _ => ?_⟩
    unfold atP at h
    rw [List.any_eq_false] at h
    rw [atF_none p cs 0 (fun k hk => by
      have := h _ (List.getElem_mem hk)
      cases hb : plE cs[k].place p with
      | false => rfl
      | true => exact absurd hb this)]
    decide
theorem goneB_at (gone : List CoinD) (c : CoinD) : goneB gone c = atP gone c.place := rfl
theorem lessC_take (cs gone : List CoinD) (j : Nat) (hj : j < cs.length) : lessC (cs.take (j + 1)) gone = lessC (cs.take j) gone ++ (if atP gone cs[j].place = true then [] else [cs[j]]) := by
  unfold lessC
  rw [List.take_succ_eq_append_getElem hj, List.filter_append]
  congr 1
  rw [List.filter_cons, goneB_at]
  cases atP gone cs[j].place <;> rfl
theorem atF_lt (p : PlaceD) : ∀ (cs : List CoinD) (j : Nat), atF p cs j < (j : Int) + cs.length ∧ (atF p cs j = -1 ∨ (j : Int) ≤ atF p cs j)
  | [], j => ⟨by unfold atF; simp; omega, .inl rfl⟩
  | c :: cs, j => by
    obtain ⟨h1, h2⟩ := atF_lt p cs (j + 1)
    unfold atF
    split
    · exact ⟨by simp; omega, .inr (Int.le_refl _)⟩
    · simp only [List.length_cons]
      exact ⟨by omega, by omega⟩
/-- The coin that CoinAt tells. -/
theorem atF_coin (p : PlaceD) : ∀ (cs : List CoinD) (j : Nat), 0 ≤ atF p cs j → ∃ (i : Nat) (hi : i < cs.length), atF p cs j = ((j + i : Nat) : Int) ∧ cs[i].place = p
  | [], j, h => by unfold atF at h; omega
  | c :: cs, j, h => by
    unfold atF at h
    split at h
    · rename_i hp
      refine ⟨0, by simp, ?_, plE_eq hp⟩
      rw [atF, if_pos hp]; simp
    · rename_i hp
      obtain ⟨i, hi, e, hc⟩ := atF_coin p cs (j + 1) h
      refine ⟨i + 1, by simpa using hi, ?_, hc⟩
      rw [atF, if_neg hp, e]; congr 1; omega
end Go.Proofs.YtljcdkfafknnpaaGreatDoor
