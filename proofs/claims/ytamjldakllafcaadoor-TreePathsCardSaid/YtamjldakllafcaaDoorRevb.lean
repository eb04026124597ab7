/- The walk of slices.Reverse of booleans. Conditions: none beyond each theorem's own. -/
import Derived.Test.YtamjldakllafcaaDoorRev
import Derived.Laws.Rows
namespace Go.Proofs.YtamjldakllafcaaDoor
set_option linter.unusedVariables false
set_option linter.unusedSimpArgs false
open Go.RowKit

def bV (b : Bool) : Value := .bool b
/-- Booleans in a row of the call's own, each told. -/
structure BoolsI (w0 w : World) (g off n : Nat) (t : TypeId) (sz : Nat) (D : Nat → Bool) : Prop where
  blk : ∃ c, w.heap[g]? = some (.cells c t (0, 0)) ∧ off + n ≤ c.size ∧ c.size = sz ∧ ∀ i, i < n → c[off + i]? = some (.bool (D i))
  grown : w0.grownBy w (some g)
theorem BoolsI.drew {w0 w : World} {g off n : Nat} {t : TypeId} {sz : Nat} {D : Nat → Bool} (h : BoolsI w0 w g off n t sz D) : BoolsI w0 w.drew g off n t sz D :=
  ⟨h.blk, let ⟨g1, g2, g3, g4, g5⟩ := h.grown; ⟨g1, g2, g3, g4, g5⟩⟩
theorem BoolsI.at {w0 w : World} {g off n : Nat} {t : TypeId} {sz : Nat} {D : Nat → Bool} (h : BoolsI w0 w g off n t sz D) (i : Nat) (hi : i < n) : w.cell? ⟨g, off + i, none⟩ = some (.bool (D i)) ∧ w.frozen? ⟨g, off + i, none⟩ = false := by
  obtain ⟨c, h1, -, -, h2⟩ := h.blk
  exact ⟨by simp [World.cell?, h1, h2 i hi], by simp [World.frozen?, h1]⟩
theorem setCell_heap {w : World} {g o : Nat} {c : Array Value} {t : TypeId} {fr : Nat × Nat} (h : w.heap[g]? = some (.cells c t fr)) (v : Value) : (w.setCell ⟨g, o, none⟩ v).heap[g]? = some (.cells (c.setIfInBounds o v) t fr) := by
  have := (Array.getElem?_eq_some_iff.1 h).1
  rw [Go.Sort.setCell_eq]
  simp only [Go.Sort.mapBlock]
  rw [Array.getElem?_modify, if_pos rfl, h]
  rfl
theorem BoolsI.put {w0 w : World} {g off n : Nat} {t : TypeId} {sz : Nat} {D : Nat → Bool} (h : BoolsI w0 w g off n t sz D) (i : Nat) (hi : i < n) (x : Bool) :
    BoolsI w0 (w.setCell ⟨g, off + i, none⟩ (.bool x)) g off n t sz (fun m => if m = i then x else D m) := by
  obtain ⟨c, h1, h2, h3, h4⟩ := h.blk
  refine ⟨⟨_, setCell_heap h1 _, by simpa using h2, by simpa using h3, fun m hm => ?_⟩, ?_⟩
  · by_cases e : m = i
    · subst e; rw [if_pos rfl, Array.getElem?_setIfInBounds, if_pos rfl, if_pos (by omega)]
    · rw [if_neg e, Array.getElem?_setIfInBounds, if_neg (by omega)]; exact h4 m hm
  · obtain ⟨g1, g2, g3, g4, g5⟩ := h.grown
    refine ⟨g1, g2, g3, by simpa using g4, fun k hk hne => ?_⟩
    rw [Below.heap_setCell _ _ _ _ (fun e => hne (by simp at e; rw [e]))]
    exact g5 k hk hne
theorem BoolsI.congr {w0 w : World} {g off n : Nat} {t : TypeId} {sz : Nat} {D E : Nat → Bool} (h : BoolsI w0 w g off n t sz D) (he : ∀ i, i < n → D i = E i) : BoolsI w0 w g off n t sz E := by
  obtain ⟨c, h1, h2, h3, h4⟩ := h.blk
  exact ⟨⟨c, h1, h2, h3, fun i hi => by rw [← he i hi]; exact h4 i hi⟩, h.grown⟩
theorem BoolsI.start {w : World} {t : TypeId} {g off n cap : Nat} {cur : Array Value} {bs : List Bool} (hl : bs.length = n)
    (hg : w.heap[g]? = some (.cells cur t (0, 0))) (hn : n ≤ cap) (hs : off + cap * 1 ≤ cur.size) (hx : (cur.toList.drop off).take (n * 1) = bs.map bV) :
    BoolsI w w g off n t cur.size (fun m => bs.getD m false) := by
  refine ⟨⟨cur, hg, by omega, rfl, fun i hi => ?_⟩, World.grownBy.refl _ _⟩
  have e2 : cur[off + i]? = ((cur.toList.drop off).take (n * 1))[i]? := by
    rw [List.getElem?_take, if_pos (by omega), List.getElem?_drop]; simp
  rw [e2, hx, List.getElem?_map, List.getD_eq_getElem?_getD, List.getElem?_eq_getElem (by omega)]
  rfl
theorem BoolsI.own {w0 w : World} {base : Nat} {t : TypeId} {g off n cap sz : Nat} {bs : List Bool} (hl : bs.length = n) (h : BoolsI w0 w g off n t sz (fun m => bs.getD m false))
    (hb : base ≤ g) (hn : n ≤ cap) (hm : cap ≤ maxLen) (hs : off + cap * 1 ≤ sz) : Go.Proofs.YtamjldakllafcaaDoor.own w base t 1 (.slice (some ⟨g, off, none⟩) n cap) n (bs.map bV) := by
  obtain ⟨c, h1, h2, h3, h4⟩ := h.blk
  refine ⟨by rw [List.length_map, hl]; omega, _, _, rfl, hn, hm, .inr ⟨g, off, c, rfl, hb, h1, by omega, ?_⟩⟩
  apply List.ext_getElem?
  intro j
  rw [List.getElem?_take]
  split
  · rename_i hj
    rw [List.getElem?_drop, List.getElem?_map, Array.getElem?_toList, h4 j (by omega), List.getD_eq_getElem?_getD, List.getElem?_eq_getElem (by omega)]
    rfl
  · rw [List.getElem?_eq_none (by rw [List.length_map, hl]; omega)]
theorem getD_reverseb (bs : List Bool) (i : Nat) (hi : i < bs.length) : bs.reverse.getD i false = bs.getD (bs.length - 1 - i) false := by
  rw [List.getD_eq_getElem?_getD, List.getD_eq_getElem?_getD, List.getElem?_reverse hi]
set_option maxHeartbeats 1000000 in
set_option maxRecDepth 100000 in
theorem revb_any (base : Nat) (bs : List Bool) (v : Value) (n : Nat) (w : World) (ho : own w base 4 1 v n (bs.map bV)) (hl : bs.length = n) (hn : n ≤ 1048576) :
    Calls Tryd.prog 53 #[v] w fun e w' => e = .returned (.tuple #[]) ∧ own w' base 4 1 v n (bs.reverse.map bV) ∧ w.grownBy w' (wrow v) := by
  have ho' := ho
  obtain ⟨-, ao, cap, rfl, k1, k2, k3⟩ := ho'
  unfold maxLen at k2
  by_cases h0 : n = 0
  · subst h0
    obtain rfl : bs = [] := List.eq_nil_of_length_eq_zero hl
    have HO := Lib.hid ho; clear ho k3
    go_enter Tryd.func53, Tryd.ntmps53
    go_wp2
    go_loopg [2, 3] 0 (fun _ s2 s3 wr => s2 = .int .i64 0 ∧ s3 = .int .i64 (-1) ∧ wr = w)
    case atStart => exact ⟨rfl, rfl, rfl⟩
    case round =>
      obtain ⟨rfl, rfl, rfl⟩ := hrel
      go_wp2
      go_end0
      exact ⟨rfl, HO.out, World.grownBy.refl _ _⟩
  · rcases k3 with k3 | ⟨g, off, cur, rfl, hb, hg, hs, hx⟩
    · omega
    · have HR := Lib.hid (BoolsI.start hl hg k1 hs hx)
      have HO := Lib.hid ho; clear ho hg hx
      go_enter Tryd.func53, Tryd.ntmps53
      go_wp2
      go_loopg [2, 3] n (fun t s2 s3 wr => ∃ k : Nat, s2 = .int .i64 k ∧ s3 = .int .i64 ((n : Int) - 1 - k) ∧ 2 * k ≤ n ∧ n - k ≤ t ∧ BoolsI w wr g off n 4 cur.size (fun m => if m < k ∨ n - 1 - m < k then bs.getD (n - 1 - m) false else bs.getD m false))
      case atStart => exact ⟨0, rfl, by simp, by omega, by omega, HR.out.congr (fun i hi => by rw [if_neg (by omega)])⟩
      case round =>
        obtain ⟨k, rfl, rfl, h1, h2, hR⟩ := hrel
        by_cases hlt : (k : Int) < (n : Int) - 1 - k
        · obtain ⟨j, hj⟩ : ∃ j : Nat, j = n - 1 - k := ⟨_, rfl⟩
          rw [show (n : Int) - 1 - k = (j : Int) from by omega] at hlt ⊢
          obtain ⟨hA, fA⟩ := hR.at k (by omega)
          obtain ⟨hB, fB⟩ := hR.at j (by omega)
          rw [if_neg (by omega)] at hA hB
          have hR1 := hR.put k (by omega) (bs.getD j false)
          have hR2 := hR1.put j (by omega) (bs.getD k false)
          obtain ⟨A, eA⟩ : ∃ A, bs.getD k false = A := ⟨_, rfl⟩
          obtain ⟨B, eB⟩ : ∃ B, bs.getD j false = B := ⟨_, rfl⟩
          rw [eA] at hA hR2; rw [eB] at hB hR1 hR2
          obtain ⟨hC, fC⟩ := hR1.at j (by omega)
          rw [if_neg (by omega), if_neg (by omega), eB] at hC
          have HR2 := Lib.hid hR2
          have EA := Lib.hid eA; have EB := Lib.hid eB
          have HJ := Lib.hid hj
          have hjn : j < n := by omega
          have hkn : k < n := by omega
          clear eA eB hR hR1 hR2 hj
          go_wp2_with fail
          go_region
          all_goals
            go_wp2
            go_roundg (gk - 1)
            case measure => omega
            case rel =>
              have hj := HJ.out
              refine ⟨k + 1, by simp, by rw [show (j : Int) = (n : Int) - 1 - k from by omega]; go_num, by omega, by omega, ?_⟩
              refine HR2.out.drew.congr (fun m hm => ?_)
              by_cases e1 : m = j
              · subst e1
                rw [if_pos rfl, if_pos (by omega), ← EA.out]; congr 1; omega
              · by_cases e2 : m = k
                · subst e2
                  rw [if_neg e1, if_pos rfl, if_pos (by omega), ← EB.out]; congr 1
                · rw [if_neg e1, if_neg e2]
                  by_cases e3 : m < k ∨ n - 1 - m < k
                  · rw [if_pos e3, if_pos (by omega)]
                  · rw [if_neg e3, if_neg (by omega)]
        · have HR1 := Lib.hid hR; clear hR
          go_wp2
          go_end0
          have hR := HR1.out.congr (E := fun m => bs.reverse.getD m false) (fun i hi => by
            rw [getD_reverseb bs i (by omega), hl]
            by_cases hc : i < k ∨ n - 1 - i < k
            · rw [if_pos hc]
            · rw [if_neg hc]; congr 1; omega)
          have hrow : wrow (.slice (some ⟨g, off, none⟩) n cap) = some g := by
            simp [wrow]; omega
          refine ⟨rfl, ?_, by rw [hrow]; exact hR.grown⟩
          have := hR.own (by simpa using hl) hb k1 k2 hs
          simpa only [List.map_reverse] using this
end Go.Proofs.YtamjldakllafcaaDoor
