/- Slices of the call's own, with an offset: what they hold, appends to them, parts of them. Conditions: none. -/
import Derived.Test.YtljcdkfafknnpaaDoorLib
namespace Go.Proofs.YtljcdkfafknnpaaDoor
set_option linter.unusedVariables false
set_option linter.unusedSimpArgs false
open Go.RowKit

/-- v reads as a slice of n elements, with these cells. -/
def rd (w : World) (v : Value) (n : Nat) (xs : List Value) : Prop :=
  ∃ ao cap, v = .slice ao n cap ∧ n ≤ cap ∧ cap ≤ maxLen ∧ (xs = [] ∨ ∃ g off, ao = some ⟨g, off, none⟩ ∧ ∀ j u, xs[j]? = some u → w.cell? ⟨g, off + j, none⟩ = some u)
/-- v is a slice of the call's own (its row from block base on): n elements of sz cells, with these cells. -/
def own (w : World) (base : Nat) (e : TypeId) (sz : Nat) (v : Value) (n : Nat) (xs : List Value) : Prop :=
  xs.length = n * sz ∧ ∃ ao cap, v = .slice ao n cap ∧ n ≤ cap ∧ cap ≤ maxLen ∧
    (cap = 0 ∨ ∃ g off cur, ao = some ⟨g, off, none⟩ ∧ base ≤ g ∧ w.heap[g]? = some (.cells cur e (0, 0)) ∧ off + cap * sz ≤ cur.size ∧ (cur.toList.drop off).take (n * sz) = xs)

/-- The row that an append to it may write. -/
def wrow : Value → Option Nat
  | .slice (some a) _ cap => if cap = 0 then none else some a.block
  | _ => none
theorem own_nil (w : World) (base : Nat) (e : TypeId) (sz : Nat) : own w base e sz (.slice none 0 0) 0 [] :=
  ⟨by simp, none, 0, rfl, Nat.le_refl _, Nat.zero_le _, .inl rfl⟩
theorem own_rd {w : World} {base : Nat} {e : TypeId} {sz : Nat} {v : Value} {n : Nat} {xs : List Value} (h : own w base e sz v n xs) : rd w v n xs := by
  obtain ⟨hl, ao, cap, rfl, h1, h2, h3⟩ := h
  refine ⟨ao, cap, rfl, h1, h2, ?_⟩
  rcases h3 with h3 | ⟨g, off, cur, rfl, _, hg, hsz, hx⟩
  · left; subst h3; obtain rfl : n = 0 := by omega
    exact List.eq_nil_of_length_eq_zero (by simpa using hl)
  · right
    refine ⟨g, off, rfl, fun j u hj => ?_⟩
    rw [← hx, List.getElem?_take] at hj
    split at hj
    · rw [List.getElem?_drop] at hj
      simpa [World.cell?, hg] using hj
    · cases hj
theorem own_lt {w : World} {base : Nat} {e : TypeId} {sz : Nat} {v : Value} {n : Nat} {xs : List Value} (h : own w base e sz v n xs) {k : Nat} (hk : wrow v = some k) : base ≤ k ∧ k < w.heap.size ∧ ∃ c, w.heap[k]? = some (.cells c e (0, 0)) := by
  obtain ⟨_, ao, cap, rfl, _, _, h3⟩ := h
  rcases h3 with h3 | ⟨g, off, cur, rfl, hb, hg, _⟩
  · subst h3; cases ao <;> simp [wrow] at hk
  · by_cases hc : cap = 0
    · subst hc; simp [wrow] at hk
    · simp [wrow, hc] at hk; subst hk
      exact ⟨hb, (Array.getElem?_eq_some_iff.1 hg).1, cur, hg⟩
/-- A block of another element type is not its row. -/
theorem own_ne {w : World} {base : Nat} {e : TypeId} {sz : Nat} {v : Value} {n : Nat} {xs : List Value} (h : own w base e sz v n xs) {g : Nat} {t : TypeId} {c : Array Value} {fr : Nat × Nat} (hg : w.heap[g]? = some (.cells c t fr)) (hne : e ≠ t) : wrow v ≠ some g := by
  intro hk
  obtain ⟨_, _, c', hc⟩ := own_lt h hk
  rw [hc] at hg
  injection hg with hg
  injection hg with _ ht
  exact hne ht
/-- It stays where no row but others is written. -/
theorem own_kept {w w' : World} {base : Nat} {e : TypeId} {sz : Nat} {v : Value} {n : Nat} {xs : List Value} (h : own w base e sz v n xs)
    (hk : ∀ k, wrow v = some k → base ≤ k → k < w.heap.size → w'.heap[k]? = w.heap[k]?) : own w' base e sz v n xs := by
  obtain ⟨hl, ao, cap, rfl, h1, h2, h3⟩ := h
  refine ⟨hl, ao, cap, rfl, h1, h2, ?_⟩
  rcases h3 with h3 | ⟨g, off, cur, rfl, hb, hg, r⟩
  · exact .inl h3
  · by_cases hc : cap = 0
    · exact .inl hc
    · exact .inr ⟨g, off, cur, rfl, hb, by rw [hk g (by simp [wrow, hc]) hb (Array.getElem?_eq_some_iff.1 hg).1]; exact hg, r⟩
theorem own_alloc {w : World} {base : Nat} {e : TypeId} {sz : Nat} {v : Value} {n : Nat} {xs : List Value} (h : own w base e sz v n xs) (o : Obj) : own (w.alloc o) base e sz v n xs :=
  own_kept h fun k _ _ hk => Below.heap_alloc w o k hk
theorem own_drew {w : World} {base : Nat} {e : TypeId} {sz : Nat} {v : Value} {n : Nat} {xs : List Value} (h : own w base e sz v n xs) : own w.drew base e sz v n xs := h
theorem own_below {B : Nat} {w w' : World} (hb : Below B w w') {base : Nat} {e : TypeId} {sz : Nat} {v : Value} {n : Nat} {xs : List Value} (h : own w base e sz v n xs) (hB : w.heap.size ≤ B) : own w' base e sz v n xs :=
  own_kept h fun k _ _ hk => hb.block k (by omega)
theorem own_base {w : World} {base base' : Nat} {e : TypeId} {sz : Nat} {v : Value} {n : Nat} {xs : List Value} (h : own w base e sz v n xs) (hb : base' ≤ base) : own w base' e sz v n xs := by
  obtain ⟨hl, ao, cap, rfl, h1, h2, h3⟩ := h
  refine ⟨hl, ao, cap, rfl, h1, h2, ?_⟩
  rcases h3 with h3 | ⟨g, off, cur, rfl, hb', r⟩
  · exact .inl h3
  · exact .inr ⟨g, off, cur, rfl, by omega, r⟩
/-- A store into another block. -/
theorem own_setCell {w : World} {base : Nat} {e : TypeId} {sz : Nat} {v : Value} {n : Nat} {xs : List Value} (h : own w base e sz v n xs) (a : Addr) (u : Value) (ha : wrow v ≠ some a.block) : own (w.setCell a u) base e sz v n xs :=
  own_kept h fun k hk _ _ => Below.heap_setCell _ _ _ _ (fun e => ha (by rw [hk, e]))
theorem own_lit {w : World} {base : Nat} {e : TypeId} {sz : Nat} (cs : Array Value) (n : Nat) (hb : base ≤ w.heap.size) (hm : n ≤ maxLen) (hs : cs.size = n * sz) :
    own (w.alloc (.cells cs e)) base e sz (.slice (some ⟨w.heap.size, 0, none⟩) n n) n cs.toList :=
  ⟨by simp [hs], _, _, rfl, Nat.le_refl _, hm, .inr ⟨w.heap.size, 0, cs, rfl, hb, heap_alloc_new w _, by omega, by rw [← hs]; exact List.take_of_length_le (by simp)⟩⟩

/-- A part of it, from an element on. -/
theorem own_cut {w : World} {base : Nat} {e : TypeId} {sz : Nat} {ao : Option Addr} {cap n : Nat} {xs : List Value} (h : own w base e sz (.slice ao n cap) n xs) (k : Nat) (hk : k ≤ n) :
    own w base e sz (.slice (if cap = k then ao else ao.map (·.add (k * sz))) (n - k) (cap - k)) (n - k) (xs.drop (k * sz)) := by
  obtain ⟨hl, ao', cap', hv, h1, h2, h3⟩ := h
  injection hv with hv1 _ hv3
  subst hv1; subst hv3
  have hmul : n * sz - k * sz = (n - k) * sz := (Nat.sub_mul _ _ _).symm
  refine ⟨by rw [List.length_drop, hl, hmul], _, _, rfl, by omega, by omega, ?_⟩
  by_cases hc : cap = k
  · left; omega
  · rcases h3 with h3 | ⟨g, off, cur, rfl, hb, hg, hs, hx⟩
    · left; omega
    · right
      have hle : k * sz ≤ cap * sz := Nat.mul_le_mul_right _ (by omega)
      refine ⟨g, off + k * sz, cur, ?_, hb, hg, ?_, ?_⟩
      · simp [hc, Addr.add_lit]
      · rw [Nat.sub_mul]; omega
      · rw [← hx, List.drop_take, List.drop_drop, hmul]
theorem rd_kept {w w' : World} {v : Value} {n : Nat} {xs : List Value} (h : rd w v n xs) (hk : ∀ k, k < w.heap.size → w'.heap[k]? = w.heap[k]?) : rd w' v n xs := by
  obtain ⟨ao, cap, rfl, h1, h2, h3⟩ := h
  refine ⟨ao, cap, rfl, h1, h2, ?_⟩
  rcases h3 with h3 | ⟨g, off, rfl, h3⟩
  · exact .inl h3
  · refine .inr ⟨g, off, rfl, fun j u hj => ?_⟩
    have := h3 j u hj
    rw [← this]
    exact World.cell?_of_block (hk g (World.block_lt_of_cell? w _ this))
theorem rd_below {w w' : World} {v : Value} {n : Nat} {xs : List Value} (h : rd w v n xs) (hb : Below w.heap.size w w') : rd w' v n xs := rd_kept h hb.block
theorem rd_alloc {w : World} {v : Value} {n : Nat} {xs : List Value} (h : rd w v n xs) (o : Obj) : rd (w.alloc o) v n xs := rd_kept h fun k hk => Below.heap_alloc w o k hk
theorem rd_belowB {B : Nat} {w0 w : World} {v : Value} {n : Nat} {xs : List Value} (h : rd w0 v n xs) (h0 : Below B w0 w) (hB : w0.heap.size ≤ B) : rd w v n xs := rd_kept h fun k hk => h0.block k (by omega)

theorem rd_new1 (w : World) (v : Value) (t : TypeId) (g : Nat) (h : g = w.heap.size) : rd (w.alloc (.cells #[v] t)) (.slice (some ⟨g, 0, none⟩) 1 1) 1 [v] := by
  subst h
  refine ⟨_, 1, rfl, Nat.le_refl _, by unfold maxLen; omega, .inr ⟨w.heap.size, 0, rfl, fun j u hj => ?_⟩⟩
  match j, hj with
  | 0, hj => simp at hj; subst hj; simp [World.cell?_alloc_new]
/-- A store over a cell whose value is none of what is read. -/
theorem rd_setCell_ne {w : World} {v : Value} {n : Nat} {xs : List Value} (h : rd w v n xs) {a : Addr} {old : Value} (u : Value) (hc : w.cell? a = some old) (hne : ∀ x ∈ xs, x ≠ old) : rd (w.setCell a u) v n xs := by
  obtain ⟨ao, cap, rfl, h1, h2, h3⟩ := h
  refine ⟨ao, cap, rfl, h1, h2, ?_⟩
  rcases h3 with h3 | ⟨g, off, rfl, h3⟩
  · exact .inl h3
  · refine .inr ⟨g, off, rfl, fun j x hj => ?_⟩
    have hx := h3 j x hj
    rw [World.cell?_setCell_other w a _ u ?_]
    · exact hx
    · intro e
      rw [← e, hc] at hx
      exact hne x (List.mem_of_getElem? hj) (Option.some.inj hx).symm
theorem vs_oneCell {α : Type} (k : IntKind) (f : α → Int) (l : List α) : ∀ u ∈ l.map (fun x => Value.int k (f x)), u.oneCell' = true := by
  intro u hu
  obtain ⟨x, _, rfl⟩ := List.mem_map.1 hu
  rfl
section
variable {P : Program}
/-- APPEND to a slice of the call's own, of what reads as a slice. -/
theorem run_append_rd (w : World) (base : Nat) (t ty e : TypeId) (i : TypeInfo) (z : Value) (sz bytes : Nat) (ht : P.underlying t = some (.slice e)) (hi : P.info? e = some i) (hz : i.zero = some z)
    (hsz : i.size = sz) (hby : i.bytes = bytes) (hzs : z.cells.size = sz) (h0 : 0 < sz)
    (v : Value) (n : Nat) (xs : List Value) (hown : own w base e sz v n xs)
    (x : Value) (m : Nat) (news : List Value) (hl : news.length = m * sz) (hx : rd w x m news) (h1 : ∀ u ∈ news, u.oneCell' = true)
    (h63 : n + m ≤ maxLen) (hbytes : (n + m) * bytes ≤ 140737488355328) (hbase : base ≤ w.heap.size) :
    ∃ v' w', (Builtin.append_ #[t, t] ty #[v, x]).run P w = .ok v' w' ∧ own w' base e sz v' (n + m) (xs ++ news) ∧ own w' base e sz v n xs ∧ w.grownBy w' (wrow v) := by
  subst hsz
  subst hby
  have hlen : (xs ++ news).length = (n + m) * i.size := by rw [List.length_append, hown.1, hl, Nat.add_mul]
  have hcells : (Builtin.firstCells i.size m x).run P w = .ok news.toArray w ∧ (Builtin.firstCells i.size m x).run P w.drew = .ok news.toArray w.drew := by
    obtain ⟨ao, cap, rfl, c1, c2, c3⟩ := hx
    rcases c3 with c3 | ⟨g, off, rfl, c3⟩
    · subst c3
      obtain rfl : m = 0 := by simp only [List.length_nil] at hl; rcases Nat.mul_eq_zero.1 hl.symm with h | h <;> omega
      cases ao <;> simp [Builtin.firstCells, loadCells, loadCellsFrom]
    · refine ⟨run_firstCells_some (P := P) w i.size m ⟨g, off, none⟩ m cap news hl (fun j u hj => ?_), run_firstCells_some (P := P) w.drew i.size m ⟨g, off, none⟩ m cap news hl (fun j u hj => ?_)⟩
      · rw [Addr.add_lit]; exact c3 j u hj
      · rw [Addr.add_lit]; exact c3 j u hj
  obtain ⟨hxl, ao, cap, rfl, g1, g2, g3⟩ := hown
  obtain ⟨xo, xc, rfl, k1, k2, k3⟩ := hx
  by_cases hroom : n + m ≤ cap
  · rcases g3 with g3 | ⟨g, off, cur, rfl, hbg, hg, hsz, htake⟩
    · subst g3
      obtain rfl : n = 0 := by omega
      obtain rfl : m = 0 := by omega
      obtain rfl : xs = [] := List.eq_nil_of_length_eq_zero (by simpa using hxl)
      obtain rfl : news = [] := List.eq_nil_of_length_eq_zero (by simpa using hl)
      refine ⟨.slice ao 0 0, w, ?_, ⟨by simp, ao, 0, rfl, Nat.le_refl _, Nat.zero_le _, .inl rfl⟩, ⟨by simp, ao, 0, rfl, Nat.le_refl _, Nat.zero_le _, .inl rfl⟩, World.grownBy.refl _ _⟩
      cases ao <;> simp [Builtin.append_, run_underlying ht, sizeOf, typeInfo, hi, Builtin.lenOf, hcells.1, storeCells]
    · by_cases hcap : cap = 0
      · subst hcap
        obtain rfl : n = 0 := by omega
        obtain rfl : m = 0 := by omega
        obtain rfl : xs = [] := List.eq_nil_of_length_eq_zero (by simpa using hxl)
        obtain rfl : news = [] := List.eq_nil_of_length_eq_zero (by simpa using hl)
        refine ⟨.slice (some ⟨g, off, none⟩) 0 0, w, ?_, ⟨by simp, _, 0, rfl, Nat.le_refl _, Nat.zero_le _, .inl rfl⟩, ⟨by simp, _, 0, rfl, Nat.le_refl _, Nat.zero_le _, .inl rfl⟩, World.grownBy.refl _ _⟩
        simp [Builtin.append_, run_underlying ht, sizeOf, typeInfo, hi, Builtin.lenOf, hcells.1, storeCells]
      have hmul : (n + m) * i.size ≤ cap * i.size := Nat.mul_le_mul_right _ hroom
      rw [Nat.add_mul] at hmul
      have hst := run_storeCells_at P g (off + n * i.size) e news 0 cur w hg (by omega) h1
      simp only [Nat.add_zero] at hst
      have hnew : (cur.toList.take (off + n * i.size) ++ news ++ cur.toList.drop (off + n * i.size + news.length)).length = cur.size := by
        simp only [List.length_append, List.length_take, List.length_drop, Array.length_toList]; omega
      have hdrop : ∀ c, c ≤ n * i.size + news.length → ((cur.toList.take (off + n * i.size) ++ news ++ cur.toList.drop (off + n * i.size + news.length)).drop off).take c = (xs ++ news).take c := by
        intro c hc
        have e1 : (cur.toList.take (off + n * i.size) ++ news ++ cur.toList.drop (off + n * i.size + news.length)).drop off = xs ++ news ++ cur.toList.drop (off + n * i.size + news.length) := by
          rw [List.append_assoc, List.drop_append_of_le_length (by simp; omega), List.drop_take, show off + n * i.size - off = n * i.size by omega, htake, List.append_assoc]
        rw [e1, List.take_append_of_le_length (by simp [hxl]; omega)]
      generalize (cur.toList.take (off + n * i.size) ++ news ++ cur.toList.drop (off + n * i.size + news.length)) = C at hst hnew hdrop
      refine ⟨.slice (some ⟨g, off, none⟩) (n + m) cap, w.setRow g C.toArray, ?_, ⟨hlen, _, _, rfl, hroom, g2, .inr ⟨g, off, C.toArray, rfl, hbg, setRow_heap w g cur _ e _ hg, ?_, ?_⟩⟩, ⟨hxl, _, _, rfl, g1, g2, .inr ⟨g, off, C.toArray, rfl, hbg, setRow_heap w g cur _ e _ hg, ?_, ?_⟩⟩,
        ⟨rfl, rfl, rfl, by simp, fun k _ hk => setRow_other w g k _ (fun e => hk (by simp [wrow, e, hcap]))⟩⟩
      · simp [Builtin.append_, run_underlying ht, sizeOf, typeInfo, hi, Builtin.lenOf, hroom, hcells.1, Addr.add_lit, hst]
      · simp only [List.size_toArray]; omega
      · show (C.drop off).take ((n + m) * i.size) = xs ++ news
        rw [hdrop _ (by rw [Nat.add_mul, hl]; exact Nat.le_refl _), ← hlen, List.take_length]
      · simp only [List.size_toArray]; omega
      · show (C.drop off).take (n * i.size) = xs
        rw [hdrop _ (by omega), ← hxl, List.take_left]
  · have hsmall : ¬ (9223372036854775807 < ((n : Int) + (m : Int))) := by simp only [maxLen] at h63; omega
    have hfit : ¬ (281474976710656 < Builtin.nextslicecap (n + m) cap * i.bytes) := by have := growslice_fits (need := n + m) (old := cap) (by omega) hbytes; omega
    have hge := grownCap_ge w (n + m) cap e
    have hcm := grownCap_le_maxLen w (n + m) cap e h63
    have holds : (Builtin.firstCells i.size n (.slice ao n cap)).run P w.drew = .ok xs.toArray w.drew := by
      rcases g3 with g3 | ⟨g, off, cur, rfl, hbg, hg, hsz, htake⟩
      · subst g3
        obtain rfl : n = 0 := by omega
        obtain rfl : xs = [] := List.eq_nil_of_length_eq_zero (by simpa using hxl)
        cases ao <;> simp [Builtin.firstCells, loadCells, loadCellsFrom]
      · refine run_firstCells_some (P := P) w.drew i.size n ⟨g, off, none⟩ n cap xs hxl (fun j u hj => ?_)
        rw [Addr.add_lit]
        rw [← htake, List.getElem?_take] at hj
        split at hj
        · rw [List.getElem?_drop] at hj
          show w.cell? _ = _
          simpa [World.cell?, hg] using hj
        · cases hj
    have hrest : ∀ k, k < w.heap.size → (w.drew.alloc (.cells (xs.toArray ++ news.toArray ++ Builtin.zeroCells z.cells (grownCap w (n + m) cap e - (n + m))) e)).heap[k]? = w.heap[k]? :=
      fun k hk => Below.heap_alloc w.drew _ k hk
    refine ⟨.slice (some ⟨w.heap.size, 0, none⟩) (n + m) (grownCap w (n + m) cap e), w.drew.alloc (.cells (xs.toArray ++ news.toArray ++ Builtin.zeroCells z.cells (grownCap w (n + m) cap e - (n + m))) e), ?_,
      ⟨hlen, _, _, rfl, hge, hcm, .inr ⟨w.heap.size, 0, _, rfl, hbase, heap_alloc_new w.drew _, ?_, ?_⟩⟩, own_kept ⟨hxl, ao, cap, rfl, g1, g2, g3⟩ (fun k _ _ hk => hrest k hk), ⟨rfl, rfl, rfl, by simp, fun k hk _ => hrest k hk⟩⟩
    · simp [Builtin.append_, run_underlying ht, sizeOf, typeInfo, zeroValue, hi, hz, Builtin.lenOf, hroom, hsmall, hfit, Question.forced, holds, hcells.2, newRow, grownCap]
      congr 2
      apply Array.ext'
      simp
    · simp only [Array.size_append, List.size_toArray, size_zeroCells, hzs, hxl, hl, ← Nat.add_mul]
      rw [Nat.zero_add]
      exact Nat.mul_le_mul_right _ (by omega)
    · simp only [Array.toList_append, List.append_assoc, List.drop_zero]
      rw [← List.append_assoc, ← hlen]
      exact List.take_left
/-- 's[k:]'. -/
theorem run_slice_from (t e : TypeId) (sz : Nat) (ht : P.underlying t = some (.slice e)) (hs : (P.info? e).map (·.size) = some sz) (a : Option Addr) (n cap k : Nat) (hk : k ≤ n) (w : World) :
    (Instr.sliceAt t (.slice a n cap) (some (.int .i64 (k : Int))) none none).run P w = .ok (.slice (if cap = k then a else a.map (·.add (k * sz))) (n - k) (cap - k)) w := by
  obtain ⟨i, hi, hsz⟩ : ∃ i, P.info? e = some i ∧ i.size = sz := by
    cases h : P.info? e with
    | none => simp [h] at hs
    | some i => exact ⟨i, rfl, by simpa [h] using hs⟩
  simp [Instr.sliceAt, Instr.slice, run_underlying ht, Instr.sliceBounds, Instr.sliceBound, asIntOf, sizeOf, typeInfo, hi, hsz]
  intro h; omega
/-- For the walk. -/
theorem wpList_append_rd {ops : Array Oper} {rest : List Oper} {o : Oper} {a : Act} {w : World} {Q : Exit → Act → World → Prop} (hgd : o.guard = none) (s x : Operand) (t : TypeId)
    (ho : o.op = .call { callee := .builtin .append, args := #[s, x], argTypes := #[t, t] })
    (e : TypeId) (i : TypeInfo) (z : Value) (sz bytes : Nat) (ht : P.underlying t = some (.slice e)) (hi : P.info? e = some i) (hz : i.zero = some z)
    (hsz : i.size = sz) (hby : i.bytes = bytes) (hzs : z.cells.size = sz) (h0 : 0 < sz)
    (base n : Nat) (xs : List Value) (hown : own w base e sz (a.eval s) n xs)
    (m : Nat) (news : List Value) (hl : news.length = m * sz) (hx : rd w (a.eval x) m news) (h1 : ∀ u ∈ news, u.oneCell' = true)
    (h63 : n + m ≤ maxLen) (hbytes : (n + m) * bytes ≤ 140737488355328) (hbase : base ≤ w.heap.size)
    (h : ∀ v' w', own w' base e sz v' (n + m) (xs ++ news) → own w' base e sz (a.eval s) n xs → w.grownBy w' (wrow (a.eval s)) → wpList P ops Q rest (a.put o.dst v') w') : wpList P ops Q (o :: rest) a w := by
  refine wpList_plain hgd fun K hK => ?_
  obtain ⟨v', w', hrun, r1, r2, r3⟩ := run_append_rd (P := P) w base t o.type e i z sz bytes ht hi hz hsz hby hzs h0 (a.eval s) n xs hown (a.eval x) m news hl hx h1 h63 hbytes hbase
  unfold Oper.wp
  simp [execOp, ho, resolve, invoke, builtin, hrun, Result.andThen]
  exact hK _ _ (h v' w' r1 r2 r3)
end
end Go.Proofs.YtljcdkfafknnpaaDoor
