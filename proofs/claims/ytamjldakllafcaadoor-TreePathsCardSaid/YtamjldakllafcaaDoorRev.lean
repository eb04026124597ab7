/- The walks of slices.Reverse, of digests and of booleans. Conditions: none beyond each theorem's own. -/
import Derived.Test.YtamjldakllafcaaDoorDig
import Derived.Deep.LoopGhost
import Derived.Sort.WalkB12
import Derived.Lib.SlicesMore
namespace Go.Proofs.YtamjldakllafcaaDoor
set_option linter.unusedVariables false
set_option linter.unusedSimpArgs false
open Go.RowKit
attribute [local go_sem ↓] run_load_agg run_store_agg run_load_any run_store_any

theorem splice_size (c cs : Array Value) (o : Nat) (h : o + cs.size ≤ c.size) : (spliceAt c o cs).size = c.size := by
  unfold spliceAt; simp; omega
theorem splice_get (c cs : Array Value) (o : Nat) (h : o + cs.size ≤ c.size) (j : Nat) : (spliceAt c o cs)[j]? = if o ≤ j ∧ j < o + cs.size then cs[j - o]? else c[j]? := by
  unfold spliceAt
  simp only [List.getElem?_toArray]
  by_cases h1 : j < o
  · rw [if_neg (by omega), List.append_assoc, List.getElem?_append_left (by simp; omega), List.getElem?_take, if_pos h1]; simp
  · by_cases h2 : j < o + cs.size
    · rw [if_pos (by omega), List.append_assoc, List.getElem?_append_right (by simp; omega), List.getElem?_append_left (by simp; omega)]
      simp only [List.length_take, Array.length_toList]
      rw [show min o c.size = o from by omega]; simp
    · rw [if_neg (by omega), List.getElem?_append_right (by simp; omega), List.getElem?_drop]
      simp only [List.length_append, List.length_take, Array.length_toList]
      rw [show o + cs.size + (j - (min o c.size + cs.size)) = j from by omega]; simp
theorem putAt_heap' {w : World} {g : Nat} {c : Array Value} {t : TypeId} {fr : Nat × Nat} (h : w.heap[g]? = some (.cells c t fr)) (o : Nat) (cs : Array Value) : (putAt w g o cs).heap[g]? = some (.cells (spliceAt c o cs) t fr) := by
  rw [putAt_of_heap h]
  exact setRow_heap w g c _ t fr h
theorem extract_get (c : Array Value) (o n j : Nat) : (c.extract o (o + n))[j]? = if j < n then c[o + j]? else none := by
  rw [Array.getElem?_extract]
  split
  · rw [if_pos (by omega)]
  · by_cases hj : j < n
    · rw [if_pos hj, Array.getElem?_eq_none (by omega)]
    · rw [if_neg hj]
theorem rowAt_get {w : World} {g : Nat} {c : Array Value} {t : TypeId} {fr : Nat × Nat} (h : w.heap[g]? = some (.cells c t fr)) (o n : Nat) (hn : o + n ≤ c.size) (cs : Array Value) (hs : cs.size = n) (hc : ∀ j, j < n → c[o + j]? = cs[j]?) : rowAt w g o n = some cs := by
  rw [rowAt_of_heap h o n hn]
  congr 1
  apply Array.ext_getElem?
  intro j
  rw [extract_get]
  split
  · exact hc j ‹_›
  · rw [Array.getElem?_eq_none (by omega)]
theorem rowAt_put_here {w : World} {g : Nat} {c : Array Value} {t : TypeId} {fr : Nat × Nat} (h : w.heap[g]? = some (.cells c t fr)) (o : Nat) (cs : Array Value) (ho : o + cs.size ≤ c.size) (n : Nat) (hn : n = cs.size) : rowAt (putAt w g o cs) g o n = some cs := by
  subst hn
  refine rowAt_get (putAt_heap' h o cs) o _ (by rw [splice_size _ _ _ ho]; exact ho) cs rfl fun j hj => ?_
  rw [splice_get _ _ _ ho, if_pos (by omega)]
  congr 1; omega
theorem rowAt_put_apart {w : World} {g : Nat} {c : Array Value} {t : TypeId} {fr : Nat × Nat} (h : w.heap[g]? = some (.cells c t fr)) (o : Nat) (cs : Array Value) (ho : o + cs.size ≤ c.size) (o2 n : Nat) (hap : o2 + n ≤ o ∨ o + cs.size ≤ o2) : rowAt (putAt w g o cs) g o2 n = rowAt w g o2 n := by
  by_cases hn : o2 + n ≤ c.size
  · rw [rowAt_of_heap h o2 n hn]
    refine rowAt_get (putAt_heap' h o cs) o2 n (by rw [splice_size _ _ _ ho]; exact hn) _ (by simp; omega) fun j hj => ?_
    rw [splice_get _ _ _ ho, if_neg (by omega), extract_get, if_pos hj]
  · unfold rowAt
    rw [putAt_heap' h o cs, h]
    simp only [splice_size _ _ _ ho]
    rw [if_neg hn, if_neg hn]

/-- Digests in a row of the call's own, each told. -/
structure RowsI (w0 w : World) (g off n : Nat) (t : TypeId) (sz : Nat) (D : Nat → List UInt8) : Prop where
  blk : ∃ c, w.heap[g]? = some (.cells c t (0, 0)) ∧ off + 32 * n ≤ c.size ∧ c.size = sz
  row : ∀ i, i < n → rowAt w g (off + i * 32) 32 = some (dgV (D i))
  grown : w0.grownBy w (some g)
theorem RowsI.drew {w0 w : World} {g off n : Nat} {t : TypeId} {sz : Nat} {D : Nat → List UInt8} (h : RowsI w0 w g off n t sz D) : RowsI w0 w.drew g off n t sz D :=
  ⟨h.blk, h.row, let ⟨g1, g2, g3, g4, g5⟩ := h.grown; ⟨g1, g2, g3, g4, g5⟩⟩
theorem RowsI.put {w0 w : World} {g off n : Nat} {t : TypeId} {sz : Nat} {D : Nat → List UInt8} (h : RowsI w0 w g off n t sz D) (i : Nat) (hi : i < n) (X : List UInt8) (hX : X.length = 32) :
    RowsI w0 (putAt w g (off + i * 32) (dgV X)) g off n t sz (fun m => if m = i then X else D m) := by
  obtain ⟨c, h1, h2, h3⟩ := h.blk
  have hs : (dgV X).size = 32 := by rw [dgV_size, hX]
  have hle : (i + 1) * 32 ≤ n * 32 := Nat.mul_le_mul_right _ (by omega)
  refine ⟨⟨_, putAt_heap' h1 _ _, ?_, ?_⟩, fun m hm => ?_, ?_⟩
  · rw [splice_size _ _ _ (by omega)]; exact h2
  · rw [splice_size _ _ _ (by omega)]; exact h3
  · by_cases e : m = i
    · subst e
      rw [rowAt_put_here h1 _ _ (by omega) 32 hs.symm, if_pos rfl]
    · rw [rowAt_put_apart h1 _ _ (by omega) _ _ (by rw [hs]; omega), if_neg e]
      exact h.row m hm
  · obtain ⟨g1, g2, g3, g4, g5⟩ := h.grown
    rw [putAt_of_heap h1]
    exact ⟨g1, g2, g3, by simpa using g4, fun k hk hne => (setRow_other w g k _ (fun e => hne (by rw [e]))).trans (g5 k hk hne)⟩
theorem RowsI.wr {w0 w : World} {g off n : Nat} {t : TypeId} {sz : Nat} {D : Nat → List UInt8} (h : RowsI w0 w g off n t sz D) : wrAt w g = true := by
  obtain ⟨c, h1, -, -⟩ := h.blk
  exact wrAt_of_heap h1
theorem RowsI.congr {w0 w : World} {g off n : Nat} {t : TypeId} {sz : Nat} {D E : Nat → List UInt8} (h : RowsI w0 w g off n t sz D) (he : ∀ i, i < n → D i = E i) : RowsI w0 w g off n t sz E :=
  ⟨h.blk, fun i hi => by rw [← he i hi]; exact h.row i hi, h.grown⟩
theorem getD_reverse (ds : List (List UInt8)) (i : Nat) (hi : i < ds.length) : ds.reverse.getD i [] = ds.getD (ds.length - 1 - i) [] := by
  rw [List.getD_eq_getElem?_getD, List.getD_eq_getElem?_getD, List.getElem?_reverse hi]
theorem getD_len {ds : List (List UInt8)} (h32 : ∀ d ∈ ds, d.length = 32) {i : Nat} (hi : i < ds.length) : (ds.getD i []).length = 32 := by
  rw [List.getD_eq_getElem?_getD, List.getElem?_eq_getElem hi, Option.getD_some]
  exact h32 _ (List.getElem_mem _)
theorem getD_mem {ds : List (List UInt8)} {i : Nat} (hi : i < ds.length) : ds.getD i [] ∈ ds := by
  rw [List.getD_eq_getElem?_getD, List.getElem?_eq_getElem hi, Option.getD_some]
  exact List.getElem_mem _
theorem RowsI.start {w : World} {base : Nat} {t : TypeId} {g off n cap : Nat} {cur : Array Value} {ds : List (List UInt8)} (h32 : ∀ d ∈ ds, d.length = 32) (hl : ds.length = n)
    (hg : w.heap[g]? = some (.cells cur t (0, 0))) (hn : n ≤ cap) (hs : off + cap * 32 ≤ cur.size) (hx : (cur.toList.drop off).take (n * 32) = ds.flatten.map vB) :
    RowsI w w g off n t cur.size (fun m => ds.getD m []) := by
  have hle : n * 32 ≤ cap * 32 := Nat.mul_le_mul_right _ hn
  refine ⟨⟨cur, hg, by omega, rfl⟩, fun i hi => ?_, World.grownBy.refl _ _⟩
  have hd := getD_len h32 (i := i) (by omega)
  have hle2 : (i + 1) * 32 ≤ n * 32 := Nat.mul_le_mul_right _ (by omega)
  refine rowAt_get hg _ 32 (by omega) _ (by rw [dgV_size, hd]) fun j hj => ?_
  have e1 := flat_get ds h32 i (by omega) j hj
  have e2 : cur[off + i * 32 + j]? = ((cur.toList.drop off).take (n * 32))[32 * i + j]? := by
    rw [List.getElem?_take, if_pos (by omega), List.getElem?_drop, show off + (32 * i + j) = off + i * 32 + j from by omega]; simp
  rw [e2, hx, List.getElem?_map, e1]
  simp [dgV]
theorem RowsI.own {w0 w : World} {base : Nat} {t : TypeId} {g off n cap sz : Nat} {ds : List (List UInt8)} (h32 : ∀ d ∈ ds, d.length = 32) (hl : ds.length = n) (h : RowsI w0 w g off n t sz (fun m => ds.getD m []))
    (hb : base ≤ g) (hn : n ≤ cap) (hm : cap ≤ maxLen) (hs : off + cap * 32 ≤ sz) : Go.Proofs.YtamjldakllafcaaDoor.own w base t 32 (.slice (some ⟨g, off, none⟩) n cap) n (ds.flatten.map vB) := by
  obtain ⟨c, h1, h2, h3⟩ := h.blk
  have hfl := flat_length ds h32
  refine ⟨by rw [List.length_map, hfl, hl]; omega, _, _, rfl, hn, hm, .inr ⟨g, off, c, rfl, hb, h1, by omega, ?_⟩⟩
  apply List.ext_getElem?
  intro j
  rw [List.getElem?_take]
  split
  · rename_i hj
    rw [List.getElem?_drop, List.getElem?_map]
    have hi : j / 32 < n := by omega
    have e0 := h.row (j / 32) hi
    have hd := getD_len h32 (i := j / 32) (by omega)
    have hle2 : (j / 32 + 1) * 32 ≤ n * 32 := Nat.mul_le_mul_right _ (by omega)
    rw [rowAt_of_heap h1 _ 32 (by omega)] at e0
    have e1 := congrArg (fun (x : Option (Array Value)) => (x.getD #[])[j % 32]?) e0
    simp only [Option.getD_some, extract_get] at e1
    rw [if_pos (by omega), show off + j / 32 * 32 + j % 32 = off + j from by omega] at e1
    rw [show j = 32 * (j / 32) + j % 32 from by omega, flat_get ds h32 _ (by omega) _ (by omega), show 32 * (j / 32) + j % 32 = j from by omega]
    rw [Array.getElem?_toList, e1]
    simp [dgV]
  · rw [List.getElem?_eq_none (by rw [List.length_map, hfl, hl]; omega)]
theorem mem_reverse32 {ds : List (List UInt8)} (h32 : ∀ d ∈ ds, d.length = 32) : ∀ d ∈ ds.reverse, d.length = 32 := fun d hd => h32 d (List.mem_reverse.1 hd)

set_option maxHeartbeats 1000000 in
set_option maxRecDepth 100000 in
theorem rev_any (base : Nat) (ds : List (List UInt8)) (h32 : ∀ d ∈ ds, d.length = 32) (v : Value) (n : Nat) (w : World) (ho : own w base 25 32 v n (ds.flatten.map vB)) (hl : ds.length = n) (hn : n ≤ 1048576) :
    Calls Tryd.prog 50 #[v] w fun e w' => e = .returned (.tuple #[]) ∧ own w' base 25 32 v n (ds.reverse.flatten.map vB) ∧ w.grownBy w' (wrow v) := by
  have ho' := ho
  obtain ⟨-, ao, cap, rfl, k1, k2, k3⟩ := ho'
  unfold maxLen at k2
  by_cases h0 : n = 0
  · subst h0
    obtain rfl : ds = [] := List.eq_nil_of_length_eq_zero hl
    have HO := Lib.hid ho; clear ho k3
    go_enter Tryd.func50, Tryd.ntmps50
    go_wp2
    go_loopg [2, 3] 0 (fun _ s2 s3 wr => s2 = .int .i64 0 ∧ s3 = .int .i64 (-1) ∧ wr = w)
    case atStart => exact ⟨rfl, rfl, rfl⟩
    case round =>
      obtain ⟨rfl, rfl, rfl⟩ := hrel
      go_wp2
      go_end0
      exact ⟨rfl, HO.out, World.grownBy.refl _ _⟩
  · rcases k3 with k3 | ⟨g, off, cur, rfl, hb, hg, hs, hx⟩
    · omega
    · have HR := Lib.hid (RowsI.start (base := base) h32 hl hg k1 hs hx)
      have HO := Lib.hid ho; clear ho hg hx
      go_enter Tryd.func50, Tryd.ntmps50
      go_wp2
      go_loopg [2, 3] n (fun t s2 s3 wr => ∃ k : Nat, s2 = .int .i64 k ∧ s3 = .int .i64 ((n : Int) - 1 - k) ∧ 2 * k ≤ n ∧ n - k ≤ t ∧ RowsI w wr g off n 25 cur.size (fun m => if m < k ∨ n - 1 - m < k then ds.getD (n - 1 - m) [] else ds.getD m []))
      case atStart => exact ⟨0, rfl, by simp, by omega, by omega, HR.out.congr (fun i hi => by rw [if_neg (by omega)])⟩
      case round =>
        obtain ⟨k, rfl, rfl, h1, h2, hR⟩ := hrel
        by_cases hlt : (k : Int) < (n : Int) - 1 - k
        · obtain ⟨j, hj⟩ : ∃ j : Nat, j = n - 1 - k := ⟨_, rfl⟩
          rw [show (n : Int) - 1 - k = (j : Int) from by omega] at hlt ⊢
          have hA := hR.row k (by omega)
          have hB := hR.row j (by omega)
          rw [if_neg (by omega)] at hA hB
          have lA := getD_len h32 (i := k) (by omega)
          have lB := getD_len h32 (i := j) (by omega)
          have hR1 := hR.put k (by omega) (ds.getD j []) lB
          have hR2 := hR1.put j (by omega) (ds.getD k []) lA
          obtain ⟨A, eA⟩ : ∃ A, ds.getD k [] = A := ⟨_, rfl⟩
          obtain ⟨B, eB⟩ : ∃ B, ds.getD j [] = B := ⟨_, rfl⟩
          rw [eA] at hA lA hR2; rw [eB] at hB lB hR1 hR2
          have hC := hR1.row j (by omega)
          rw [if_neg (by omega), if_neg (by omega), eB] at hC
          have hw0 := hR.wr
          have hw1 := hR1.wr
          have HR2 := Lib.hid hR2
          have EA := Lib.hid eA; have EB := Lib.hid eB
          have HJ := Lib.hid hj
          have hjn : j < n := by omega
          have hkn : k < n := by omega
          clear eA eB hR hR1 hR2 hj
          have pA : plainCells (dgV A) = true := dgV_plain _
          have pB : plainCells (dgV B) = true := dgV_plain _
          have sA : (dgV A).size = 32 := by rw [dgV_size, lA]
          have sB : (dgV B).size = 32 := by rw [dgV_size, lB]
          go_wp2_with fail
          go_region
          all_goals
            go_wp2
            go_roundg (gk - 1)
            case measure => omega
            case rel =>
              have hj := HJ.out
              refine ⟨k + 1, by simp, by rw [show (j : Int) = (n : Int) - 1 - k from by omega]; go_num, by omega, by omega, ?_⟩
              refine HR2.out.drew.congr (fun m hm => ?_)
              by_cases e1 : m = j
              · subst e1
                rw [if_pos rfl, if_pos (by omega), ← EA.out]; congr 1; omega
              · by_cases e2 : m = k
                · subst e2
                  rw [if_neg e1, if_pos rfl, if_pos (by omega), ← EB.out]; congr 1
                · rw [if_neg e1, if_neg e2]
                  by_cases e3 : m < k ∨ n - 1 - m < k
                  · rw [if_pos e3, if_pos (by omega)]
                  · rw [if_neg e3, if_neg (by omega)]
        · have HR1 := Lib.hid hR; clear hR
          go_wp2
          go_end0
          have hR := HR1.out.congr (E := fun m => ds.reverse.getD m []) (fun i hi => by
            rw [getD_reverse ds i (by omega), hl]
            by_cases hc : i < k ∨ n - 1 - i < k
            · rw [if_pos hc]
            · rw [if_neg hc]; congr 1; omega)
          have hrow : wrow (.slice (some ⟨g, off, none⟩) n cap) = some g := by
            simp [wrow]; omega
          refine ⟨rfl, ?_, by rw [hrow]; exact hR.grown⟩
          have := hR.own (mem_reverse32 h32) (by simpa using hl) hb k1 k2 hs
          simpa only [List.map_flatten, List.map_reverse] using this
end Go.Proofs.YtamjldakllafcaaDoor
