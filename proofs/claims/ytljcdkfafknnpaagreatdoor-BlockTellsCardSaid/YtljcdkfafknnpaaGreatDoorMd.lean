/- Merged: Pst Box. Conditions: none beyond each theorem's own. -/
import Derived.Test.YtljcdkfafknnpaaGreatDoorMc
namespace Go.Proofs.YtljcdkfafknnpaaGreatDoor
set_option linter.unusedVariables false
set_option linter.unusedSimpArgs false
theorem setFrom_ok (cs : List CoinD) (hs : sortedP cs) (ho : ∀ c ∈ cs, coinF c = 0) : ∀ (m j : Nat), cs.length - j = m → j ≤ cs.length → setFrom cs m j = 0
  | 0, j, _, _ => rfl
  | m + 1, j, h, hj => by
    have hlt : j < cs.length := by omega
    have e : cs.getD j default = cs[j] := by rw [List.getD_eq_getElem?_getD, List.getElem?_eq_getElem hlt, Option.getD_some]
    have ha : aheadB cs j = false := by
      unfold aheadB
      by_cases h0 : 0 < j
      · have e2 : cs.getD (j - 1) default = cs[j - 1] := by rw [List.getD_eq_getElem?_getD, List.getElem?_eq_getElem (by omega), Option.getD_some]
        have := (List.pairwise_iff_getElem.1 hs) (j - 1) j (by omega) hlt (by omega)
        unfold ltC at this
        rw [e, e2, Bool.and_eq_false_iff]
        exact .inr (by rw [decide_eq_false_iff_not]; omega)
      · rw [Bool.and_eq_false_iff]
        exact .inl (by rw [decide_eq_false_iff_not]; exact h0)
    have hc : coinF (cs.getD j default) = 0 := by rw [e]; exact ho _ (List.getElem_mem hlt)
    rw [setFrom, if_neg (by rw [ha]; decide), if_pos hc]
    exact setFrom_ok cs hs ho m (j + 1) (by omega) (by omega)
theorem setF_ok {cs : List CoinD} (hn : cs.length ≤ 1000) (hs : sortedP cs) (ho : ∀ c ∈ cs, coinF c = 0) : setF cs = 0 := by
  unfold setF
  rw [if_neg (by omega)]
  exact setFrom_ok cs hs ho _ 0 (by omega) (by omega)
theorem coin_of_set {cs : List CoinD} (h : setF cs = 0) : ∀ c ∈ cs, coinF c = 0 := by
  intro c hc
  obtain ⟨k, hk, rfl⟩ := List.mem_iff_getElem.1 hc
  have h2 := ((setF_zero cs h).2 k hk).2
  rwa [List.getD_eq_getElem?_getD, List.getElem?_eq_getElem hk, Option.getD_some] at h2
theorem ApplyOk.newsOk {cs : List CoinD} {t : TxD} {h : Int} (k : ApplyOk cs t h) (h32 : all32' cs) : NewsOk cs (lessC cs (spC cs t.ins)) (newsT t h) :=
  newsOk_of ((all32_iff cs).2 h32) (sorted_of cs ((all32_iff cs).2 h32) k.set) _ t h
theorem twice_no {old news : List CoinD} (h : twiceB old news = false) : ∀ n ∈ news, atP old n.place = false := by
  intro n hn
  unfold twiceB at h
  rw [List.any_eq_false] at h
  have := h n hn
  cases hb : atP old n.place with
  | false => rfl
  | true => exact absurd hb this
theorem ApplyOk.sorted {cs : List CoinD} {t : TxD} {h : Int} (k : ApplyOk cs t h) (h32 : all32' cs) : sortedP (applyS cs t h) := by
  have := ((k.newsOk h32).fresh _ (Nat.le_refl _) (fun n hn => twice_no k.once n (List.mem_of_mem_take hn))).1
  rwa [List.take_length] at this
theorem ApplyOk.all32 {cs : List CoinD} {t : TxD} {h : Int} (k : ApplyOk cs t h) (h32 : all32' cs) : all32' (applyS cs t h) := all32_with (k.newsOk h32).cs32 (k.newsOk h32).n32
theorem news_ok {t : TxD} {h : Int} (ht : txF t = 0) (h0 : 0 ≤ h) (h1 : h ≤ 1073741824) : ∀ c ∈ newsT t h, coinF c = 0 := by
  intro c hc
  have hk := txOk_of ht
  obtain ⟨e1, e2, e3, e4, o, ho, e5, e6⟩ := newsC_mem _ _ _ _ _ hc
  have hoo := hk.out o ho
  have := hk.outs
  have a0 := hoo.a0; have a1 := hoo.a1
  unfold coinF
  rw [e4, e5, e6, if_neg (by omega)]
  exact hoo.lock
theorem ApplyOk.setS {cs : List CoinD} {t : TxD} {h : Int} (k : ApplyOk cs t h) (h32 : all32' cs) : setF (applyS cs t h) = 0 := by
  refine setF_ok ?_ (k.sorted h32) fun c hc => ?_
  · have := k.fits
    unfold applyS
    rw [withC_length]
    exact this
  · rcases mem_withC.1 hc with hc | hc
    · exact news_ok k.tx k.h0 k.h1 c hc
    · exact coin_of_set k.set c (mem_lessC.1 hc).1
/-- What was spent is not there. -/
theorem ApplyOk.gone {cs : List CoinD} {t : TxD} {h : Int} (k : ApplyOk cs t h) {x : InD} (hx : x ∈ t.ins) : ¬ hasP (applyS cs t h) x.place := by
  obtain ⟨c, hc⟩ := foundB_get k.found hx
  obtain ⟨hm, he⟩ := getC_some hc
  intro hp
  rcases hasP_with.1 hp with hp | hp
  · obtain ⟨n, hn, e⟩ := hp
    have := twice_no k.once n hn
    rw [e] at this
    have h2 := (atP_iff cs x.place).2 ⟨c, hm, he⟩
    rw [this] at h2
    cases h2
  · refine (hasP_less.1 hp).2 ⟨c, ?_, he⟩
    unfold spC
    exact List.mem_filterMap.2 ⟨x, hx, hc⟩
theorem not_at {cs : List CoinD} {p : PlaceD} (h : ¬ hasP cs p) : atP cs p = false := by
  cases hb : atP cs p with
  | false => rfl
  | true => exact absurd ((atP_iff _ _).1 hb) h
theorem apply_gone {cs : List CoinD} {t u : TxD} {h : Int} {x : InD} {y : InD} (k : ApplyOk cs t h) (hx : x ∈ t.ins) (hy : y ∈ u.ins) (e : y.place = x.place) (h2 : Int) : applyE (applyS cs t h) u h2 ≠ 0 := by
  intro hz
  have h1 := foundB_false hy (not_at (e ▸ k.gone hx))
  rw [(applyOk_of hz).found] at h1
  cases h1
theorem applyOk_to {cs : List CoinD} {t : TxD} {h : Int} (k : ApplyOk cs t h) : applyE cs t h = 0 := by
  have h1 : chkF cs t = 0 := by unfold chkF; rw [if_pos k.set]; exact k.tx
  have := k.h0; have := k.h1; have := k.fits
  unfold applyE
  rw [if_neg (by rw [h1]; simp), if_neg (by omega), if_neg (by rw [k.found]; decide), if_neg (by rw [k.had]; simp), if_neg (by rw [k.pays]; simp), if_neg (fun hn => by have := k.left hn.1; omega)]
  unfold withE
  rw [if_neg (by rw [k.once]; decide), if_neg (by omega)]
theorem news_has {t : TxD} {h : Int} (i : Nat) (hi : i < t.outs.length) : hasP (newsT t h) ⟨idD t, i⟩ := by
  obtain ⟨hl, hg⟩ : ∃ hl : i < (newsT t h).length, (newsT t h)[i].place = ⟨idD t, (i : Int)⟩ := by
    have hlen : (newsT t h).length = t.outs.length := newsC_length _ _ _ _
    refine ⟨by omega, ?_⟩
    have : ∀ (os : List OutD) (b i : Nat) (hi : i < (newsC (idD t) h b os).length), (newsC (idD t) h b os)[i].place = ⟨idD t, ((b + i : Nat) : Int)⟩ := by
      intro os
      induction os with
      | nil => intro b i hi; simp [newsC] at hi
      | cons o os ih =>
        intro b i hi
        cases i with
        | zero => rfl
        | succ i =>
          have := ih (b + 1) i (by simpa [newsC] using hi)
          simp only [newsC, List.getElem_cons_succ]
          rw [this]
          congr 1
          omega
    have := this t.outs 0 i (by unfold newsT at hlen; omega)
    rwa [Nat.zero_add] at this
  exact ⟨_, List.getElem_mem hl, hg⟩
theorem getC_eq {cs ds : List CoinD} {p : PlaceD} (h1 : sortedP cs) (h2 : sortedP ds) (h : ∀ c, c.place = p → (c ∈ cs ↔ c ∈ ds)) : getC cs p = getC ds p := by
  cases hg : getC cs p with
  | none =>
    cases hd : getC ds p with
    | none => rfl
    | some d =>
      obtain ⟨m1, m2⟩ := getC_some hd
      rw [getC_of h1 ((h d m2).2 m1) m2] at hg
      cases hg
  | some c =>
    obtain ⟨m1, m2⟩ := getC_some hg
    exact (getC_of h2 ((h c m2).1 m1) m2).symm
theorem spC_eq {cs ds : List CoinD} : ∀ {xs : List InD}, (∀ x ∈ xs, getC cs x.place = getC ds x.place) → spC cs xs = spC ds xs
  | [], _ => rfl
  | x :: xs, h => by
    have h1 := spC_eq (xs := xs) fun y hy => h y (by simp [hy])
    have h2 := h x (by simp)
    unfold spC at h1 ⊢
    rw [List.filterMap_cons, List.filterMap_cons, h2, h1]
theorem getC_has {cs : List CoinD} {p : PlaceD} {c : CoinD} (h : getC cs p = some c) : hasP cs p := ⟨c, getC_some h⟩
theorem foundB_has {cs : List CoinD} {xs : List InD} : foundB cs xs = true ↔ ∀ x ∈ xs, hasP cs x.place := by
  unfold foundB
  rw [List.all_eq_true]
  exact ⟨fun h x hx => (atP_iff _ _).1 (h x hx), fun h x hx => (atP_iff _ _).2 (h x hx)⟩
theorem news_tx {t : TxD} {h : Int} {c : CoinD} (hc : c ∈ newsT t h) : c.tx = idD t := (newsC_mem _ _ _ _ _ hc).1
theorem hasP_news {t : TxD} {h : Int} {p : PlaceD} (hp : hasP (newsT t h) p) : p.tx = idD t := by
  obtain ⟨c, hc, rfl⟩ := hp
  exact news_tx hc
theorem twice_of {old news : List CoinD} (h : ∀ n ∈ news, ¬ hasP old n.place) : twiceB old news = false := twice_take fun n hn => not_at (h n hn)
theorem hasP_sp {cs : List CoinD} {xs : List InD} {p : PlaceD} (h : hasP (spC cs xs) p) : ∃ x ∈ xs, x.place = p := by
  obtain ⟨c, hc, rfl⟩ := h
  exact (spC_mem hc).2
theorem sp_hasP {cs : List CoinD} {xs : List InD} {x : InD} (hx : x ∈ xs) (h : hasP cs x.place) : hasP (spC cs xs) x.place := by
  cases hg : getC cs x.place with
  | some c =>
    refine ⟨c, ?_, (getC_some hg).2⟩
    unfold spC
    exact List.mem_filterMap.2 ⟨x, hx, hg⟩
  | none =>
    obtain ⟨c, hc, he⟩ := h
    unfold getC at hg
    rw [List.find?_eq_none] at hg
    exact absurd ((plE_iff _ _).2 he) (hg c hc)
/-- Two payments that have nothing to do with each other: the second one alone. -/
structure Apart (cs : List CoinD) (t u : TxD) (h : Int) : Prop where
  one : ApplyOk cs u h
  two : ApplyOk (applyS cs u h) t h
  same : applyS (applyS cs u h) t h = applyS (applyS cs t h) u h
  l1 : applyL cs u h = applyL (applyS cs t h) u h
  l2 : applyL (applyS cs u h) t h = applyL cs t h
theorem apart_of {cs : List CoinD} {t u : TxD} {h : Int} (h32 : all32' cs) (k1 : ApplyOk cs t h) (k2 : ApplyOk (applyS cs t h) u h) (hlen : cs.length + t.outs.length + u.outs.length ≤ 1000)
    (a1 : ∀ x ∈ u.ins, x.tx ≠ idD t) (a2 : ∀ x ∈ t.ins, x.tx ≠ idD u) : Apart cs t u h := by
  have s0 := sorted_set h32 k1.set
  have s1 := k1.sorted h32
  have h32a := k1.all32 h32
  have nlt : (newsT t h).length = t.outs.length := newsC_length _ _ _ _
  have nlu : (newsT u h).length = u.outs.length := newsC_length _ _ _ _
  -- what u spends lies in cs, and is not t's
  have hu : ∀ x ∈ u.ins, hasP (applyS cs t h) x.place := foundB_has.1 k2.found
  have ht : ∀ x ∈ t.ins, hasP cs x.place := foundB_has.1 k1.found
  have hul : ∀ x ∈ u.ins, hasP (lessC cs (spC cs t.ins)) x.place := fun x hx => by
    rcases hasP_with.1 (hu x hx) with hp | hp
    · exact absurd (hasP_news hp) (a1 x hx)
    · exact hp
  have mem_a : ∀ c : CoinD, c.tx ≠ idD t → ¬ hasP (spC cs t.ins) c.place → (c ∈ applyS cs t h ↔ c ∈ cs) := fun c h1 h2 => by
    rw [applyS, mem_withC, mem_lessC]
    constructor
    · rintro (hc | hc)
      · exact absurd (news_tx hc) h1
      · exact hc.1
    · exact fun hc => .inr ⟨hc, h2⟩
  have gu : ∀ x ∈ u.ins, getC cs x.place = getC (applyS cs t h) x.place := fun x hx => (getC_eq s1 s0 fun c hc => by
    refine mem_a c ?_ ?_
    · rw [show c.tx = x.tx from congrArg PlaceD.tx hc]; exact a1 x hx
    · rw [hc]; exact (hasP_less.1 (hul x hx)).2).symm
  have spu : spC cs u.ins = spC (applyS cs t h) u.ins := spC_eq gu
  have ids : idD t ≠ idD u := fun e => by
    have h1 : hasP (applyS cs t h) ⟨idD t, ((0 : Nat) : Int)⟩ := hasP_with.2 (.inl (news_has 0 (txOk_of k1.tx).some))
    have h2 : hasP (newsT u h) ⟨idD u, ((0 : Nat) : Int)⟩ := news_has 0 (txOk_of k2.tx).some
    obtain ⟨n, hn, he⟩ := h2
    have h3 := twice_no k2.once n hn
    rw [he, ← e, (atP_iff _ _).2 h1] at h3
    cases h3
  have one : ApplyOk cs u h := by
    refine ⟨k1.set, k2.tx, k1.h0, k1.h1, foundB_has.2 fun x hx => (hasP_less.1 (hul x hx)).1, ?_, k2.pays, ?_, twice_of fun n hn hp => ?_, ?_⟩
    · rw [spu]; exact k2.had
    · rw [spu]; exact k2.left
    · have h1 := twice_no k2.once n hn
      have h2 : ¬ hasP (applyS cs t h) n.place := fun hq => by rw [(atP_iff _ _).2 hq] at h1; cases h1
      apply h2
      refine hasP_with.2 (.inr (hasP_less.2 ⟨hp, fun hs => ?_⟩))
      obtain ⟨x, hx, he⟩ := hasP_sp hs
      exact a2 x hx (by rw [show x.tx = n.tx from congrArg PlaceD.tx he, news_tx hn])
    · have := lessC_length cs (spC cs u.ins)
      omega
  have s2 := one.sorted h32
  have h32c := one.all32 h32
  have htu : ∀ x ∈ t.ins, ¬ hasP (spC cs u.ins) x.place := fun x hx hs => by
    obtain ⟨y, hy, he⟩ := hasP_sp hs
    have := hu y hy
    rw [he] at this
    exact k1.gone hx this
  have mem_c : ∀ c : CoinD, c.tx ≠ idD u → ¬ hasP (spC cs u.ins) c.place → (c ∈ applyS cs u h ↔ c ∈ cs) := fun c h1 h2 => by
    rw [applyS, mem_withC, mem_lessC]
    constructor
    · rintro (hc | hc)
      · exact absurd (news_tx hc) h1
      · exact hc.1
    · exact fun hc => .inr ⟨hc, h2⟩
  have spt : spC (applyS cs u h) t.ins = spC cs t.ins := spC_eq fun x hx => getC_eq s2 s0 fun c hc => by
    refine mem_c c ?_ ?_
    · rw [show c.tx = x.tx from congrArg PlaceD.tx hc]; exact a2 x hx
    · rw [hc]; exact htu x hx
  have lc : (applyS cs u h).length + (spC cs u.ins).length = cs.length + u.outs.length := (one.sums h32).2.1
  have two : ApplyOk (applyS cs u h) t h := by
    refine ⟨one.setS h32, k1.tx, k1.h0, k1.h1, foundB_has.2 fun x hx => ?_, ?_, k1.pays, ?_, twice_of fun n hn hp => ?_, ?_⟩
    · exact hasP_with.2 (.inr (hasP_less.2 ⟨ht x hx, htu x hx⟩))
    · rw [spt]; exact k1.had
    · rw [spt]; exact k1.left
    · rcases hasP_with.1 hp with hp | hp
      · exact ids ((news_tx hn).symm.trans (hasP_news hp))
      · have h1 := twice_no k1.once n hn
        rw [(atP_iff _ _).2 (hasP_less.1 hp).1] at h1
        cases h1
    · have := lessC_length (applyS cs u h) (spC (applyS cs u h) t.ins)
      omega
  refine ⟨one, two, ?_, ?_, ?_⟩
  · refine sorted_ext _ _ (two.sorted h32c) (k2.sorted h32a) fun c => ?_
    have e1 : c ∈ applyS (applyS cs u h) t h ↔ c ∈ newsT t h ∨ ((c ∈ newsT u h ∨ (c ∈ cs ∧ ¬ hasP (spC cs u.ins) c.place)) ∧ ¬ hasP (spC cs t.ins) c.place) := by
      rw [applyS, mem_withC, mem_lessC, spt, applyS, mem_withC, mem_lessC]
    have e2 : c ∈ applyS (applyS cs t h) u h ↔ c ∈ newsT u h ∨ ((c ∈ newsT t h ∨ (c ∈ cs ∧ ¬ hasP (spC cs t.ins) c.place)) ∧ ¬ hasP (spC cs u.ins) c.place) := by
      rw [applyS, mem_withC, mem_lessC, ← spu, applyS, mem_withC, mem_lessC]
    have n1 : c ∈ newsT t h → ¬ hasP (spC cs u.ins) c.place := fun hc hs => by
      obtain ⟨x, hx, he⟩ := hasP_sp hs
      exact a1 x hx (by rw [show x.tx = c.tx from congrArg PlaceD.tx he, news_tx hc])
    have n2 : c ∈ newsT u h → ¬ hasP (spC cs t.ins) c.place := fun hc hs => by
      obtain ⟨x, hx, he⟩ := hasP_sp hs
      exact a2 x hx (by rw [show x.tx = c.tx from congrArg PlaceD.tx he, news_tx hc])
    rw [e1, e2]
    constructor
    · rintro (h1 | ⟨h1 | ⟨h1, h2⟩, h3⟩)
      · exact .inr ⟨.inl h1, n1 h1⟩
      · exact .inl h1
      · exact .inr ⟨.inr ⟨h1, h3⟩, h2⟩
    · rintro (h1 | ⟨h1 | ⟨h1, h2⟩, h3⟩)
      · exact .inr ⟨.inl h1, n2 h1⟩
      · exact .inl h1
      · exact .inr ⟨.inr ⟨h1, h3⟩, h2⟩
  · unfold applyL; rw [spu]
  · unfold applyL; rw [spt]
end Go.Proofs.YtljcdkfafknnpaaGreatDoor
namespace Go.Proofs.YtljcdkfafknnpaaGreatDoor
set_option linter.unusedVariables false
set_option linter.unusedSimpArgs false
open Go.RowKit
/-- A block, its cells, its type. -/
abbrev BoxD := Nat × Array Value × TypeId
def Boxes (bs : List BoxD) (w : World) : Prop := ∀ b ∈ bs, w.heap[b.1]? = some (.cells b.2.1 b.2.2 (0, 0))
structure Kept (w : World) (bs : List BoxD) (w' : World) : Prop where
  below : Below w.heap.size w w'
  at_ : Boxes bs w'
theorem Kept.refl (w : World) : Kept w [] w := ⟨Below.refl _ _, fun b hb => by cases hb⟩
theorem Kept.on {w w1 w2 : World} {bs : List BoxD} (h : Kept w bs w1) (hb : Below w1.heap.size w1 w2) : Kept w bs w2 :=
  ⟨h.below.trans (hb.mono h.below.size), fun b hm => (hb.block b.1 (Array.getElem?_eq_some_iff.1 (h.at_ b hm)).1).trans (h.at_ b hm)⟩
theorem Kept.from_ {w w1 w2 : World} {bs cs : List BoxD} (h : Kept w bs w1) (j : Kept w1 cs w2) : Kept w cs w2 := ⟨h.below.trans (j.below.mono h.below.size), j.at_⟩
theorem Kept.self {w w1 : World} {bs : List BoxD} (h : Kept w bs w1) : Kept w1 bs w1 := ⟨Below.refl _ _, h.at_⟩
theorem Kept.drew {w w1 : World} {bs : List BoxD} (h : Kept w bs w1) : Kept w bs w1.drew := h.on (Below.refl _ _).drew
theorem Kept.alloc {w w1 : World} {bs : List BoxD} (h : Kept w bs w1) (cs : Array Value) (t : TypeId) : Kept w ((w1.heap.size, cs, t) :: bs) (w1.alloc (.cells cs t)) :=
  ⟨h.below.alloc h.below.size _, fun b hm => by
    rcases List.mem_cons.1 hm with rfl | hm
    · exact heap_alloc_new w1 (.cells cs t)
    · exact (Below.heap_alloc w1 _ b.1 (Array.getElem?_eq_some_iff.1 (h.at_ b hm)).1).trans (h.at_ b hm)⟩
theorem Kept.get {w w1 : World} {bs : List BoxD} (h : Kept w bs w1) (i : Nat) (b : BoxD) (hi : bs[i]? = some b) : w1.heap[b.1]? = some (.cells b.2.1 b.2.2 (0, 0)) := h.at_ b (List.mem_of_getElem? hi)
theorem Kept.row {w w1 : World} {bs : List BoxD} (h : Kept w bs w1) (i : Nat) (b : BoxD) (n : Nat) (hi : bs[i]? = some b) (hn : b.2.1.size = n) : rowAt w1 b.1 0 n = some b.2.1 := rowAt_whole (h.get i b hi) n hn.symm
theorem Kept.cell {w w1 : World} {bs : List BoxD} (h : Kept w bs w1) (i k : Nat) (b : BoxD) (v : Value) (hi : bs[i]? = some b) (hv : b.2.1[k]? = some v) : w1.cell? ⟨b.1, k, none⟩ = some v := by
  rw [cell_of_row _ _ _ _ _ _ (h.get i b hi)]; exact hv
/-- A payment's cells. -/
def txV (t : TxD) (ai ao : Option Addr) (ci co : Nat) : Array Value := #[.slice ai t.ins.length ci, .slice ao t.outs.length co, .int .i64 t.time]
theorem txV_size (t : TxD) (ai ao : Option Addr) (ci co : Nat) : (txV t ai ao ci co).size = 3 := rfl
theorem txV_plain (t : TxD) (ai ao : Option Addr) (ci co : Nat) : plainCells (txV t ai ao ci co) = true := rfl
/-- What the walk asks where a digest is laid into a new cell. -/
theorem new_dg (w : World) (D : List UInt8) (hD : D.length = 32) : (rowAt (w.alloc (.cells zD 23)) w.heap.size 0 32).isSome = true ∧ wrAt (w.alloc (.cells zD 23)) w.heap.size = true ∧
    plainCells (dgV D) = true ∧ (dgV D).size = 32 :=
  ⟨by rw [rowAt_whole (heap_alloc_new w _) 32 rfl]; rfl, wrAt_of_heap (heap_alloc_new w _), dgV_plain _, by rw [dgV_size, hD]⟩
/-- Where an in's digest lies. -/
theorem in_dig {w : World} {g o : Nat} {x : InD} {s : Value} (h : rowAt w g o 34 = some (inV x s)) (h32 : x.tx.length = 32) : rowAt w g o 32 = some (dgV x.tx) := by
  have := rowAt_part h 0 32 (by omega)
  rw [Nat.add_zero, Nat.zero_add] at this
  rw [this]
  congr 1
  apply Array.ext
  · simp [inV, dgV_size, h32]
  · intro i h1 h2
    have hi : i < 32 := by simpa [dgV_size, h32] using h2
    have hz : i < (dgV x.tx).size := h2
    simp only [Array.getElem_extract, Nat.zero_add]
    unfold inV
    exact Array.getElem_append_left hz
theorem in_place {w : World} {g o : Nat} {x : InD} {s : Value} (h : rowAt w g o 34 = some (inV x s)) (h32 : x.tx.length = 32) : rowAt w g o 33 = some (plV x.place) := by
  have := rowAt_part h 0 33 (by omega)
  rw [Nat.add_zero, Nat.zero_add, inV_place _ _ h32] at this
  exact this
/-- What coin.Apply tells: no, or the set, what was spent, what is left. -/
theorem applyPost_cases {cs : List CoinD} {t : TxD} {h : Int} {w w' : World} {e : Ending} (hp : ApplyPost cs t h w e w') :
    Below w.heap.size w w' ∧ ((applyE cs t h ≠ 0 ∧ e = .returned (.tuple #[.slice none 0 0, .slice none 0 0, .int .i64 0, errV (applyE cs t h)])) ∨
      (ApplyOk cs t h ∧ ∃ va vcap ua ucap, e = .returned (.tuple #[.slice va (applyS cs t h).length vcap, .slice ua (spC cs t.ins).length ucap, .int .i64 (applyL cs t h), .nilIface]) ∧ rdSl coinR 36 w' (.slice va (applyS cs t h).length vcap) (applyS cs t h) ∧ rdSl coinR 36 w' (.slice ua (spC cs t.ins).length ucap) (spC cs t.ins))) := by
  obtain ⟨hb, h1 | ⟨h0, v, u, he, h2, h3⟩⟩ := hp
  · exact ⟨hb, .inl h1⟩
  · obtain ⟨va, vcap, rfl, -, -⟩ := sl_bounds h2
    obtain ⟨ua, ucap, rfl, -, -⟩ := sl_bounds h3
    rw [errV_0] at he
    exact ⟨hb, .inr ⟨applyOk_of h0, va, vcap, ua, ucap, he, h2, h3⟩⟩
end Go.Proofs.YtljcdkfafknnpaaGreatDoor
