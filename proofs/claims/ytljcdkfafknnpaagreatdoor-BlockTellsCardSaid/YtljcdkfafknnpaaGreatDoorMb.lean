/- Merged: Txb Led Siz Pkey Pmap Tin Tck Snt Cin ShaW ShaB Hash Hsum Sum Tid Cset Del Ost. Conditions: none beyond each theorem's own. -/
import Derived.Test.YtljcdkfafknnpaaGreatDoorMa
import Derived.Deep.RegionHeld3
import Derived.Deep.LoopGhost
import Derived.Outline
import Derived.Deep.DeepCutAuto
import Derived.Maps.Own
import Derived.Maps.Keyed
import Derived.DeepKeys4
import Derived.Maps.OwnSet
import Derived.Maps.OwnOps
import Derived.Maps.Views
import Derived.Carry
import Derived.Test.YtljcdkfafknnpaaGreatDoorRows
import Derived.BigRegion
import Derived.BigQuiet
import Derived.Deep.QuietTactic
import Derived.StillTailTactics
import Derived.RegionTactic
import Derived.Deep.RegionWith
import Derived.Deep.RegionLaw
import Derived.Deep.AppendLies
import Derived.Laws.CopyOwn
namespace Go.Proofs.YtljcdkfafknnpaaGreatDoor
set_option linter.unusedVariables false
set_option linter.unusedSimpArgs false
def inB (x : InD) : List UInt8 := x.tx ++ szM x.ix.toNat ++ szM 0
def opM (o : OpD) : List UInt8 := szM o.op.toNat ++ szM o.n.toNat ++ packM o.data
def lockM (os : List OpD) : List UInt8 := (os.map opM).flatten
def outM (o : OutD) : List UInt8 := szM o.amount.toNat ++ szM o.lock.length ++ lockM o.lock
def insB (xs : List InD) : List UInt8 := (xs.map inB).flatten
def outsM (xs : List OutD) : List UInt8 := (xs.map outM).flatten
def bareM (t : TxD) : List UInt8 := szM t.ins.length ++ insB t.ins ++ szM t.outs.length ++ outsM t.outs ++ szM t.time.toNat
/-- What an op without a fault has. -/
structure OpOk (o : OpD) : Prop where
  op0 : 1 ≤ o.op
  op1 : o.op ≤ 14
  n0 : 0 ≤ o.n
  n1 : o.n ≤ 1073741824
  d : o.data.length ≤ 300
structure OutOk (o : OutD) : Prop where
  a0 : 0 ≤ o.amount
  a1 : o.amount ≤ 1125899906842624
  lock : lockF o.lock = 0
structure TxOk (t : TxD) : Prop where
  ins : t.ins.length ≤ 40
  outs : t.outs.length ≤ 40
  some : 0 < t.outs.length
  t0 : 0 ≤ t.time
  t1 : t.time ≤ 1073741824
  ix : ∀ x ∈ t.ins, 0 ≤ x.ix ∧ x.ix < 40
  out : ∀ o ∈ t.outs, OutOk o
theorem opOk_of {o : OpD} (h : opF o.op o.n o.data.length = 0) : OpOk o := by
  unfold opF at h
  split at h
  · cases h
  · split at h
    · cases h
    · split at h
      · cases h
      · constructor <;> omega
theorem firstF_all : ∀ (os : List OpD), firstF os = 0 → ∀ o ∈ os, OpOk o
  | [], _, o, ho => by cases ho
  | a :: os, h, o, ho => by
    unfold firstF at h
    split at h
    · rename_i ha
      rcases List.mem_cons.1 ho with rfl | ho
      · exact opOk_of ha
      · exact firstF_all os h o ho
    · rename_i ha; exact absurd h ha
theorem lockF_ok {os : List OpD} (h : lockF os = 0) : os.length ≤ 60 ∧ ∀ o ∈ os, OpOk o := by
  unfold lockF at h
  split at h
  · cases h
  · split at h
    · rename_i hn hf; exact ⟨by omega, firstF_all os hf⟩
    · rename_i hf; exact absurd h hf
theorem outsF_all : ∀ (os : List OutD), outsF os = 0 → ∀ o ∈ os, OutOk o
  | [], _, o, ho => by cases ho
  | a :: os, h, o, ho => by
    unfold outsF at h
    split at h
    · rename_i ha
      rcases List.mem_cons.1 ho with rfl | ho
      · unfold outF at ha
        split at ha
        · cases ha
        · exact ⟨by omega, by omega, ha⟩
      · exact outsF_all os h o ho
    · rename_i ha; exact absurd h ha
theorem insF_all : ∀ (xs : List InD) (met : List PlaceD), insF met xs = 0 → ∀ x ∈ xs, 0 ≤ x.ix ∧ x.ix < 40
  | [], _, _, x, hx => by cases hx
  | a :: xs, met, h, x, hx => by
    unfold insF at h
    split at h
    · rename_i ha
      rcases List.mem_cons.1 hx with rfl | hx
      · unfold inF at ha
        split at ha
        · cases ha
        · omega
      · exact insF_all xs _ h x hx
    · rename_i ha; exact absurd h ha
theorem txOk_of {t : TxD} (h : txF t = 0) : TxOk t := by
  unfold txF at h
  split at h
  · cases h
  · split at h
    · cases h
    · split at h
      · cases h
      · split at h
        · rename_i h1 h2 h3 h4
          exact ⟨by omega, by omega, by omega, by omega, by omega, insF_all t.ins [] h4, outsF_all t.outs h⟩
        · rename_i h1; exact absurd h h1
theorem flat_le {α : Type} (f : α → List UInt8) (B : Nat) : ∀ (l : List α), (∀ x ∈ l, (f x).length ≤ B) → ((l.map f).flatten).length ≤ B * l.length
  | [], _ => by simp
  | a :: l, h => by
    have h1 := h a (by simp)
    have h2 := flat_le f B l (fun x hx => h x (by simp [hx]))
    simp only [List.map_cons, List.flatten_cons, List.length_append, List.length_cons, Nat.mul_add]
    omega
theorem inB_le {x : InD} (h : x.tx.length = 32) : (inB x).length ≤ 50 := by
  have h1 := szM_le x.ix.toNat; have h2 := szM_le 0
  simp only [inB, List.length_append]; omega
theorem packM_le {b : List UInt8} {n : Nat} (h : b.length ≤ n) : (packM b).length ≤ n + 9 := by
  have h1 := szM_le b.length
  simp only [packM, List.length_append]; omega
theorem opM_le {o : OpD} (h : o.data.length ≤ 300) : (opM o).length ≤ 327 := by
  have h1 := szM_le o.op.toNat; have h2 := szM_le o.n.toNat; have h3 := packM_le h
  simp only [opM, List.length_append]; omega
theorem lockM_le {os : List OpD} (h : ∀ o ∈ os, o.data.length ≤ 300) : (lockM os).length ≤ 327 * os.length := flat_le opM 327 os (fun o ho => opM_le (h o ho))
theorem outM_le {o : OutD} (h : lockF o.lock = 0) : (outM o).length ≤ 19638 := by
  obtain ⟨h1, h2⟩ := lockF_ok h
  have h3 := lockM_le (fun o ho => (h2 o ho).d)
  have h4 := szM_le o.amount.toNat; have h5 := szM_le o.lock.length
  simp only [outM, List.length_append]; omega
theorem insB_le {xs : List InD} (h : ∀ x ∈ xs, x.tx.length = 32) : (insB xs).length ≤ 50 * xs.length := flat_le inB 50 xs (fun x hx => inB_le (h x hx))
theorem outsM_le {xs : List OutD} (h : ∀ o ∈ xs, OutOk o) : (outsM xs).length ≤ 19638 * xs.length := flat_le outM 19638 xs (fun o ho => outM_le (h o ho).lock)
theorem insB_take (xs : List InD) (j : Nat) (hj : j < xs.length) : insB (xs.take (j + 1)) = insB (xs.take j) ++ inB xs[j] := by
  unfold insB; rw [List.take_succ_eq_append_getElem hj, List.map_append, List.flatten_append]; simp only [List.map_cons, List.map_nil, List.flatten_cons, List.flatten_nil, List.append_nil]
theorem outsM_take (xs : List OutD) (j : Nat) (hj : j < xs.length) : outsM (xs.take (j + 1)) = outsM (xs.take j) ++ outM xs[j] := by
  unfold outsM; rw [List.take_succ_eq_append_getElem hj, List.map_append, List.flatten_append]; simp only [List.map_cons, List.map_nil, List.flatten_cons, List.flatten_nil, List.append_nil]
theorem lockM_take (xs : List OpD) (j : Nat) (hj : j < xs.length) : lockM (xs.take (j + 1)) = lockM (xs.take j) ++ opM xs[j] := by
  unfold lockM; rw [List.take_succ_eq_append_getElem hj, List.map_append, List.flatten_append]; simp only [List.map_cons, List.map_nil, List.flatten_cons, List.flatten_nil, List.append_nil]
end Go.Proofs.YtljcdkfafknnpaaGreatDoor
namespace Go.Proofs.YtljcdkfafknnpaaGreatDoor
set_option linter.unusedVariables false
set_option linter.unusedSimpArgs false
open Go.RowKit
section
variable {P : Program}
/-- APPEND to a slice of the call's own, of what reads as a slice. -/
theorem run_append_row (w : World) (base : Nat) (t ty e : TypeId) (i : TypeInfo) (z : Value) (sz bytes : Nat) (ht : P.underlying t = some (.slice e)) (hi : P.info? e = some i) (hz : i.zero = some z)
    (hsz : i.size = sz) (hby : i.bytes = bytes) (hzs : z.cells.size = sz) (h0 : 0 < sz)
    (v : Value) (n : Nat) (xs : List Value) (hown : own w base e sz v n xs)
    (x : Value) (m : Nat) (news : List Value) (hl : news.length = m * sz) (hx : rd w x m news) (h1 : ∀ u ∈ news, u.oneCell' = true)
    (h63 : n + m ≤ maxLen) (hbytes : (n + m) * bytes ≤ 140737488355328) (hbase : base ≤ w.heap.size) :
    ∃ v' w', (Builtin.append_ #[t, t] ty #[v, x]).run P w = .ok v' w' ∧ own w' base e sz v' (n + m) (xs ++ news) ∧ own w' base e sz v n xs ∧ w.grownBy w' (wrow v) ∧ (wrow v' = wrow v ∨ ∀ k, wrow v' = some k → w.heap.size ≤ k) := by
  subst hsz
  subst hby
  have hlen : (xs ++ news).length = (n + m) * i.size := by rw [List.length_append, hown.1, hl, Nat.add_mul]
  have hcells : (Builtin.firstCells i.size m x).run P w = .ok news.toArray w ∧ (Builtin.firstCells i.size m x).run P w.drew = .ok news.toArray w.drew := by
    obtain ⟨ao, cap, rfl, c1, c2, c3⟩ := hx
    rcases c3 with c3 | ⟨g, off, rfl, c3⟩
    · subst c3
      obtain rfl : m = 0 := by simp only [List.length_nil] at hl; rcases Nat.mul_eq_zero.1 hl.symm with h | h <;> omega
      cases ao <;> simp [Builtin.firstCells, loadCells, loadCellsFrom]
    · refine ⟨run_firstCells_some (P := P) w i.size m ⟨g, off, none⟩ m cap news hl (fun j u hj => ?_), run_firstCells_some (P := P) w.drew i.size m ⟨g, off, none⟩ m cap news hl (fun j u hj => ?_)⟩
      · rw [Addr.add_lit]; exact c3 j u hj
      · rw [Addr.add_lit]; exact c3 j u hj
  obtain ⟨hxl, ao, cap, rfl, g1, g2, g3⟩ := hown
  obtain ⟨xo, xc, rfl, k1, k2, k3⟩ := hx
  by_cases hroom : n + m ≤ cap
  · rcases g3 with g3 | ⟨g, off, cur, rfl, hbg, hg, hsz, htake⟩
    · subst g3
      obtain rfl : n = 0 := by omega
      obtain rfl : m = 0 := by omega
      obtain rfl : xs = [] := List.eq_nil_of_length_eq_zero (by simpa using hxl)
      obtain rfl : news = [] := List.eq_nil_of_length_eq_zero (by simpa using hl)
      refine ⟨.slice ao 0 0, w, ?_, ⟨by simp, ao, 0, rfl, Nat.le_refl _, Nat.zero_le _, .inl rfl⟩, ⟨by simp, ao, 0, rfl, Nat.le_refl _, Nat.zero_le _, .inl rfl⟩, World.grownBy.refl _ _, .inl rfl⟩
      cases ao <;> simp [Builtin.append_, run_underlying ht, sizeOf, typeInfo, hi, Builtin.lenOf, hcells.1, storeCells]
    · by_cases hcap : cap = 0
      · subst hcap
        obtain rfl : n = 0 := by omega
        obtain rfl : m = 0 := by omega
        obtain rfl : xs = [] := List.eq_nil_of_length_eq_zero (by simpa using hxl)
        obtain rfl : news = [] := List.eq_nil_of_length_eq_zero (by simpa using hl)
        refine ⟨.slice (some ⟨g, off, none⟩) 0 0, w, ?_, ⟨by simp, _, 0, rfl, Nat.le_refl _, Nat.zero_le _, .inl rfl⟩, ⟨by simp, _, 0, rfl, Nat.le_refl _, Nat.zero_le _, .inl rfl⟩, World.grownBy.refl _ _, .inl rfl⟩
        simp [Builtin.append_, run_underlying ht, sizeOf, typeInfo, hi, Builtin.lenOf, hcells.1, storeCells]
      have hmul : (n + m) * i.size ≤ cap * i.size := Nat.mul_le_mul_right _ hroom
      rw [Nat.add_mul] at hmul
      have hst := run_storeCells_at P g (off + n * i.size) e news 0 cur w hg (by omega) h1
      simp only [Nat.add_zero] at hst
      have hnew : (cur.toList.take (off + n * i.size) ++ news ++ cur.toList.drop (off + n * i.size + news.length)).length = cur.size := by
        simp only [List.length_append, List.length_take, List.length_drop, Array.length_toList]; omega
      have hdrop : ∀ c, c ≤ n * i.size + news.length → ((cur.toList.take (off + n * i.size) ++ news ++ cur.toList.drop (off + n * i.size + news.length)).drop off).take c = (xs ++ news).take c := by
        intro c hc
        have e1 : (cur.toList.take (off + n * i.size) ++ news ++ cur.toList.drop (off + n * i.size + news.length)).drop off = xs ++ news ++ cur.toList.drop (off + n * i.size + news.length) := by
          rw [List.append_assoc, List.drop_append_of_le_length (by simp; omega), List.drop_take, show off + n * i.size - off = n * i.size by omega, htake, List.append_assoc]
        rw [e1, List.take_append_of_le_length (by simp [hxl]; omega)]
      generalize (cur.toList.take (off + n * i.size) ++ news ++ cur.toList.drop (off + n * i.size + news.length)) = C at hst hnew hdrop
      refine ⟨.slice (some ⟨g, off, none⟩) (n + m) cap, w.setRow g C.toArray, ?_, ⟨hlen, _, _, rfl, hroom, g2, .inr ⟨g, off, C.toArray, rfl, hbg, setRow_heap w g cur _ e _ hg, ?_, ?_⟩⟩, ⟨hxl, _, _, rfl, g1, g2, .inr ⟨g, off, C.toArray, rfl, hbg, setRow_heap w g cur _ e _ hg, ?_, ?_⟩⟩,
        ⟨rfl, rfl, rfl, by simp, fun k _ hk => setRow_other w g k _ (fun e => hk (by simp [wrow, e, hcap]))⟩, .inl rfl⟩
      · simp [Builtin.append_, run_underlying ht, sizeOf, typeInfo, hi, Builtin.lenOf, hroom, hcells.1, Addr.add_lit, hst]
      · simp only [List.size_toArray]; omega
      · show (C.drop off).take ((n + m) * i.size) = xs ++ news
        rw [hdrop _ (by rw [Nat.add_mul, hl]; exact Nat.le_refl _), ← hlen, List.take_length]
      · simp only [List.size_toArray]; omega
      · show (C.drop off).take (n * i.size) = xs
        rw [hdrop _ (by omega), ← hxl, List.take_left]
  · have hsmall : ¬ (9223372036854775807 < ((n : Int) + (m : Int))) := by simp only [maxLen] at h63; omega
    have hfit : ¬ (281474976710656 < Builtin.nextslicecap (n + m) cap * i.bytes) := by have := growslice_fits (need := n + m) (old := cap) (by omega) hbytes; omega
    have hge := grownCap_ge w (n + m) cap e
    have hcm := grownCap_le_maxLen w (n + m) cap e h63
    have holds : (Builtin.firstCells i.size n (.slice ao n cap)).run P w.drew = .ok xs.toArray w.drew := by
      rcases g3 with g3 | ⟨g, off, cur, rfl, hbg, hg, hsz, htake⟩
      · subst g3
        obtain rfl : n = 0 := by omega
        obtain rfl : xs = [] := List.eq_nil_of_length_eq_zero (by simpa using hxl)
        cases ao <;> simp [Builtin.firstCells, loadCells, loadCellsFrom]
      · refine run_firstCells_some (P := P) w.drew i.size n ⟨g, off, none⟩ n cap xs hxl (fun j u hj => ?_)
        rw [Addr.add_lit]
        rw [← htake, List.getElem?_take] at hj
        split at hj
        · rw [List.getElem?_drop] at hj
          show w.cell? _ = _
          simpa [World.cell?, hg] using hj
        · cases hj
    have hrest : ∀ k, k < w.heap.size → (w.drew.alloc (.cells (xs.toArray ++ news.toArray ++ Builtin.zeroCells z.cells (grownCap w (n + m) cap e - (n + m))) e)).heap[k]? = w.heap[k]? :=
      fun k hk => Below.heap_alloc w.drew _ k hk
    refine ⟨.slice (some ⟨w.heap.size, 0, none⟩) (n + m) (grownCap w (n + m) cap e), w.drew.alloc (.cells (xs.toArray ++ news.toArray ++ Builtin.zeroCells z.cells (grownCap w (n + m) cap e - (n + m))) e), ?_,
      ⟨hlen, _, _, rfl, hge, hcm, .inr ⟨w.heap.size, 0, _, rfl, hbase, heap_alloc_new w.drew _, ?_, ?_⟩⟩, own_kept ⟨hxl, ao, cap, rfl, g1, g2, g3⟩ (fun k _ _ hk => hrest k hk), ⟨rfl, rfl, rfl, by simp, fun k hk _ => hrest k hk⟩, .inr fun k hk => by simp only [wrow] at hk; split at hk <;> simp_all⟩
    · simp [Builtin.append_, run_underlying ht, sizeOf, typeInfo, zeroValue, hi, hz, Builtin.lenOf, hroom, hsmall, hfit, Question.forced, holds, hcells.2, newRow, grownCap]
      congr 2
      apply Array.ext'
      simp
    · simp only [Array.size_append, List.size_toArray, size_zeroCells, hzs, hxl, hl, ← Nat.add_mul]
      rw [Nat.zero_add]
      exact Nat.mul_le_mul_right _ (by omega)
    · simp only [Array.toList_append, List.append_assoc, List.drop_zero]
      rw [← List.append_assoc, ← hlen]
      exact List.take_left

/-- APPEND of what reads as a slice, as one step of a region that draws; where it lies then. -/
theorem step_append_row {ops : Array Oper} {o : Oper} {a : Act} {w : World} {K : Act → World → Prop} {Q : Exit → Act → World → Prop} {E : Prop} (hgd : o.guard = none) (s x : Operand) (t : TypeId)
    (ho : o.op = .call { callee := .builtin .append, args := #[s, x], argTypes := #[t, t] })
    (e : TypeId) (i : TypeInfo) (z : Value) (sz bytes : Nat) (ht : P.underlying t = some (.slice e)) (hi : P.info? e = some i) (hz : i.zero = some z)
    (hsz : i.size = sz) (hby : i.bytes = bytes) (hzs : z.cells.size = sz) (h0 : 0 < sz)
    (base n : Nat) (xs : List Value) (v : Value) (hs : a.eval s = v) (hown : own w base e sz v n xs)
    (m : Nat) (news : List Value) (hl : news.length = m * sz) (u : Value) (hu : a.eval x = u) (hx : rd w u m news) (h1 : ∀ u ∈ news, u.oneCell' = true)
    (h63 : n + m ≤ maxLen) (hbytes : (n + m) * bytes ≤ 140737488355328) (hbase : base ≤ w.heap.size)
    (h : ∀ v' w', own w' base e sz v' (n + m) (xs ++ news) → w.grownBy w' (wrow v) → (wrow v' = wrow v ∨ ∀ k, wrow v' = some k → w.heap.size ≤ k) → K (a.put o.dst v') w') :
    if Region.wanted o (yielded ops a.tmps) = true then Oper.wp P o a w K Q else E := by
  have hw : Region.wanted o (yielded ops a.tmps) = true := by simp [Region.wanted, hgd]
  rw [if_pos hw]
  obtain ⟨v', w', hrun, r1, r2, r3, r4⟩ := run_append_row (P := P) w base t o.type e i z sz bytes ht hi hz hsz hby hzs h0 v n xs hown u m news hl hx h1 h63 hbytes hbase
  unfold Oper.wp
  simp [execOp, ho, resolve, invoke, builtin, hs, hu, hrun, Result.andThen]
  exact h v' w' r1 r3 r4
end
/-- Rows of bytes of the call's own that lie apart. -/
def Led (w : World) (base : Nat) (L : List (Value × List UInt8)) : Prop :=
  (∀ p ∈ L, own w base 5 1 p.1 p.2.length (p.2.map vB)) ∧ L.Pairwise (fun p q => ∀ k, wrow p.1 = some k → wrow q.1 ≠ some k)
theorem Led.push {w w' : World} {base : Nat} {L : List (Value × List UInt8)} {v : Value} {n : Nat} {b : List UInt8} (h : Led w base L) (hb : Below w.heap.size w w') (hbase : base ≤ w.heap.size) (hn : n = b.length) (ho : own w' w.heap.size 5 1 v n (b.map vB)) :
    Led w' base (L ++ [(v, b)]) := by
  subst hn
  refine ⟨fun p hp => ?_, List.pairwise_append.2 ⟨h.2, List.pairwise_singleton _ _, fun p hp q hq k hk he => ?_⟩⟩
  · rcases List.mem_append.1 hp with hp | hp
    · exact own_below hb (h.1 p hp) (Nat.le_refl _)
    · rw [List.mem_singleton.1 hp]; exact own_base ho hbase
  · rw [List.mem_singleton.1 hq] at he
    have h1 := own_lt (h.1 p hp) hk
    have h2 := own_lt ho he
    omega
theorem Led.push1 {w w' : World} {base : Nat} {p : Value × List UInt8} {L : List (Value × List UInt8)} {v : Value} {n : Nat} {b : List UInt8} (h : Led w base (p :: L)) (hb : Below w.heap.size w w') (hbase : base ≤ w.heap.size) (hn : n = b.length) (ho : own w' w.heap.size 5 1 v n (b.map vB)) :
    Led w' base (p :: (v, b) :: L) := by
  obtain ⟨h1, h2⟩ := h.push hb hbase hn ho
  refine ⟨fun q hq => h1 q (by simp at hq ⊢; rcases hq with h | h | h <;> simp [h]), ?_⟩
  rw [List.cons_append, List.pairwise_cons] at h2
  obtain ⟨h3, h4⟩ := h2
  rw [List.pairwise_append] at h4
  obtain ⟨h5, -, h6⟩ := h4
  refine List.pairwise_cons.2 ⟨fun q hq => h3 q (by simp at hq ⊢; rcases hq with h | h <;> simp [h]), List.pairwise_cons.2 ⟨fun q hq k hk he => ?_, h5⟩⟩
  exact h6 q hq _ (List.mem_singleton.2 rfl) k he hk
theorem Led.app {w w' : World} {base : Nat} {L : List (Value × List UInt8)} {v v' : Value} {b c : List UInt8} (h : Led w base ((v, b) :: L)) (ho : own w' base 5 1 v' (b ++ c).length ((b ++ c).map vB)) (hg : w.grownBy w' (wrow v))
    (hr : wrow v' = wrow v ∨ ∀ k, wrow v' = some k → w.heap.size ≤ k) : Led w' base ((v', b ++ c) :: L) := by
  obtain ⟨h1, h2⟩ := h
  obtain ⟨h3, h4⟩ := List.pairwise_cons.1 h2
  refine ⟨fun p hp => ?_, List.pairwise_cons.2 ⟨fun q hq k hk he => ?_, h4⟩⟩
  · rcases List.mem_cons.1 hp with rfl | hp
    · exact ho
    · refine own_kept (h1 p (by simp [hp])) fun k hk _ hlt => hg.block k hlt (fun e => ?_)
      exact h3 p hp k e.symm hk
  · rcases hr with hr | hr
    · rw [hr] at hk; exact h3 q hq k hk he
    · have := (own_lt (h1 q (by simp [hq])) he).2.1
      have := hr k hk
      omega
theorem Led.drop {w : World} {base : Nat} {L : List (Value × List UInt8)} {p : Value × List UInt8} (h : Led w base (p :: L)) : own w base 5 1 p.1 p.2.length (p.2.map vB) := h.1 p (by simp)
theorem Led.one {w : World} {base : Nat} {v : Value} {n : Nat} {b : List UInt8} (hn : n = b.length) (h : own w base 5 1 v n (b.map vB)) : Led w base [(v, b)] := by
  subst hn
  exact ⟨fun p hp => by rw [List.mem_singleton.1 hp]; exact h, List.pairwise_singleton _ _⟩
/-- What stands while a region runs: a box of one's own, the rows. -/
structure Reg (B : Nat) (w0 : World) (base G : Nat) (cs : Array Value) (t : TypeId) (L : List (Value × List UInt8)) (w : World) : Prop where
  below : Below B w0 w
  row : w.heap[G]? = some (.cells cs t (0, 0))
  led : Led w base L
  hB : B ≤ base
  ne : 5 ≠ t
  hbase : base ≤ w.heap.size
theorem Reg.push {B : Nat} {w0 : World} {base G : Nat} {cs : Array Value} {t : TypeId} {L : List (Value × List UInt8)} {w w' : World} {v : Value} {n : Nat} {b : List UInt8} (h : Reg B w0 base G cs t L w) (hb : Below w.heap.size w w') (hn : n = b.length)
    (ho : own w' w.heap.size 5 1 v n (b.map vB)) : Reg B w0 base G cs t (L ++ [(v, b)]) w' :=
  ⟨h.below.trans (hb.mono (Nat.le_trans h.hB h.hbase)), (hb.block G (Array.getElem?_eq_some_iff.1 h.row).1).trans h.row, h.led.push hb h.hbase hn ho, h.hB, h.ne, Nat.le_trans h.hbase hb.size⟩
theorem Reg.push1 {B : Nat} {w0 : World} {base G : Nat} {cs : Array Value} {t : TypeId} {p : Value × List UInt8} {L : List (Value × List UInt8)} {w w' : World} {v : Value} {n : Nat} {b : List UInt8} (h : Reg B w0 base G cs t (p :: L) w) (hb : Below w.heap.size w w') (hn : n = b.length)
    (ho : own w' w.heap.size 5 1 v n (b.map vB)) : Reg B w0 base G cs t (p :: (v, b) :: L) w' :=
  ⟨h.below.trans (hb.mono (Nat.le_trans h.hB h.hbase)), (hb.block G (Array.getElem?_eq_some_iff.1 h.row).1).trans h.row, h.led.push1 hb h.hbase hn ho, h.hB, h.ne, Nat.le_trans h.hbase hb.size⟩
theorem Reg.app {B : Nat} {w0 : World} {base G : Nat} {cs : Array Value} {t : TypeId} {L : List (Value × List UInt8)} {w w' : World} {v v' : Value} {n : Nat} {b c : List UInt8} (h : Reg B w0 base G cs t ((v, b) :: L) w) (hn : n = (b ++ c).length)
    (ho : own w' base 5 1 v' n (b.map vB ++ c.map vB)) (hg : w.grownBy w' (wrow v)) (hr : wrow v' = wrow v ∨ ∀ k, wrow v' = some k → w.heap.size ≤ k) : Reg B w0 base G cs t ((v', b ++ c) :: L) w' := by
  subst hn
  have hv := h.led.drop
  have hB := h.hB
  refine ⟨h.below.grown hg (Nat.le_trans h.hB h.hbase) (fun q hq => Nat.le_trans hB (own_lt hv hq).1), (hg.block G (Array.getElem?_eq_some_iff.1 h.row).1 (fun e => own_ne hv h.row h.ne e.symm)).trans h.row, h.led.app (by rw [List.map_append]; exact ho) hg hr, h.hB, h.ne, Nat.le_trans h.hbase hg.size⟩
theorem Reg.drew {B : Nat} {w0 : World} {base G : Nat} {cs : Array Value} {t : TypeId} {L : List (Value × List UInt8)} {w : World} (h : Reg B w0 base G cs t L w) : Reg B w0 base G cs t L w.drew :=
  ⟨h.below.drew, h.row, h.led, h.hB, h.ne, h.hbase⟩
theorem Reg.cell {B : Nat} {w0 : World} {base G : Nat} {cs : Array Value} {t : TypeId} {L : List (Value × List UInt8)} {w : World} (h : Reg B w0 base G cs t L w) (j : Nat) : w.cell? ⟨G, j, none⟩ = cs[j]? := cell_of_row _ _ _ _ _ _ h.row
theorem Reg.mem {B : Nat} {w0 : World} {base G : Nat} {cs : Array Value} {t : TypeId} {L : List (Value × List UInt8)} {w : World} (h : Reg B w0 base G cs t L w) {v : Value} {b : List UInt8} (hm : (v, b) ∈ L) : rd w v b.length (b.map vB) := own_rd (h.led.1 _ hm)
/-- The step: one of the rows is appended to the first of them. -/
theorem step_reg {ops : Array Oper} {o : Oper} {a : Act} {w : World} {K : Act → World → Prop} {Q : Exit → Act → World → Prop} {E : Prop} {B : Nat} {w0 : World} {base G : Nat} {cs : Array Value} {tt : TypeId} {L : List (Value × List UInt8)} {v : Value} {b : List UInt8} (hgd : o.guard = none) (s x : Operand)
    (ho : o.op = .call { callee := .builtin .append, args := #[s, x], argTypes := #[26, 26] }) (c : List UInt8)
    (hR : Reg B w0 base G cs tt ((v, b) :: L) w) (hs : a.eval s = v) (u : Value) (hu : a.eval x = u) (hx : rd w u c.length (c.map vB)) (hlen : b.length + c.length ≤ 140737488355328)
    (h : ∀ v' w', Reg B w0 base G cs tt ((v', b ++ c) :: L) w' → K (a.put o.dst v') w') :
    if Region.wanted o (yielded ops a.tmps) = true then Oper.wp Tryz.prog o a w K Q else E := by
  obtain ⟨i0, hi0, hz0, hz1, hz2⟩ := info_parts info_u8
  refine step_append_row hgd s x 26 ho 5 i0 (.int .u8 0) 1 1 Tryz.underlying26 hi0 hz0 hz1 hz2 rfl (by decide) base b.length _ v hs hR.led.drop c.length (c.map vB) (by simp) u hu hx (vB_plain _) (by unfold maxLen; omega) (by omega) hR.hbase ?_
  intro v' w' h1 h2 h3
  exact h v' w' (hR.app (by simp) h1 h2 h3)
theorem Led.keep1 {w : World} {base : Nat} {L : List (Value × List UInt8)} {p : Value × List UInt8} (h : Led w base (p :: L)) : Led w base [p] :=
  ⟨fun q hq => h.1 q (by rw [List.mem_singleton.1 hq]; simp), List.pairwise_singleton _ _⟩
theorem Reg.keep1 {B : Nat} {w0 : World} {base G : Nat} {cs : Array Value} {t : TypeId} {p : Value × List UInt8} {L : List (Value × List UInt8)} {w : World} (h : Reg B w0 base G cs t (p :: L) w) : Reg B w0 base G cs t [p] w :=
  ⟨h.below, h.row, h.led.keep1, h.hB, h.ne, h.hbase⟩
/-- In the walk: one of the rows is appended to the first of them. -/
theorem wpList_reg {ops : Array Oper} {rest : List Oper} {o : Oper} {a : Act} {w : World} {Q : Exit → Act → World → Prop} {B : Nat} {w0 : World} {base G : Nat} {cs : Array Value} {tt : TypeId} {L : List (Value × List UInt8)} {v : Value} {b : List UInt8} (hgd : o.guard = none) (s x : Operand)
    (ho : o.op = .call { callee := .builtin .append, args := #[s, x], argTypes := #[26, 26] }) (c : List UInt8)
    (hR : Reg B w0 base G cs tt ((v, b) :: L) w) (hs : a.eval s = v) (u : Value) (hu : a.eval x = u) (hm : (u, c) ∈ L) (hlen : b.length + c.length ≤ 140737488355328)
    (h : ∀ v' w', Reg B w0 base G cs tt ((v', b ++ c) :: L) w' → wpList Tryz.prog ops Q rest (a.put o.dst v') w') : wpList Tryz.prog ops Q (o :: rest) a w := by
  obtain ⟨i0, hi0, hz0, hz1, hz2⟩ := info_parts info_u8
  refine wpList_plain hgd fun K hK => ?_
  obtain ⟨v', w', hrun, r1, r2, r3, r4⟩ := run_append_row (P := Tryz.prog) w base 26 o.type 5 i0 (.int .u8 0) 1 1 Tryz.underlying26 hi0 hz0 hz1 hz2 rfl (by decide) v b.length _ hR.led.drop u c.length (c.map vB) (by simp) (hR.mem (List.mem_cons_of_mem _ hm)) (vB_plain _) (by unfold maxLen; omega) (by omega) hR.hbase
  unfold Oper.wp
  simp [execOp, ho, resolve, invoke, builtin, hs, hu, hrun, Result.andThen]
  exact hK _ _ (h v' w' (hR.app (by simp) r1 r3 r4))
/-- .. one of those that the region made itself. -/
theorem step_reg1 {ops : Array Oper} {o : Oper} {a : Act} {w : World} {K : Act → World → Prop} {Q : Exit → Act → World → Prop} {E : Prop} {B : Nat} {w0 : World} {base G : Nat} {cs : Array Value} {tt : TypeId} {L : List (Value × List UInt8)} {v : Value} {b : List UInt8} (hgd : o.guard = none) (s x : Operand)
    (ho : o.op = .call { callee := .builtin .append, args := #[s, x], argTypes := #[26, 26] }) (c : List UInt8)
    (hR : Reg B w0 base G cs tt ((v, b) :: L) w) (hs : a.eval s = v) (u : Value) (hu : a.eval x = u) (hm : (u, c) ∈ L) (hlen : b.length + c.length ≤ 140737488355328)
    (h : ∀ v' w', Reg B w0 base G cs tt ((v', b ++ c) :: L) w' → K (a.put o.dst v') w') :
    if Region.wanted o (yielded ops a.tmps) = true then Oper.wp Tryz.prog o a w K Q else E :=
  step_reg hgd s x ho c hR hs u hu (hR.mem (List.mem_cons_of_mem _ hm)) hlen h
end Go.Proofs.YtljcdkfafknnpaaGreatDoor
namespace Go.Proofs.YtljcdkfafknnpaaGreatDoor
set_option linter.unusedVariables false
set_option linter.unusedSimpArgs false
open Go.RowKit
set_option maxRecDepth 100000 in
theorem wideS_any (n : Nat) (hn : n < 4611686018427387904) (w : World) :
    Calls Tryz.prog 71 #[.int .i64 n] w fun e w' => e = .returned (.int .i64 (szW n)) ∧ w' = w := by
  by_cases h1 : n < 253
  · have hs : szW n = 0 := by unfold szW; rw [if_pos h1]
    have HS := Lib.hid hs; clear hs
    go_enter Tryz.func71, Tryz.ntmps71
    go_wp2
    go_ret
    exact ⟨by rw [HS.out]; rfl, rfl⟩
  by_cases h2 : n < 65536
  · have hs : szW n = 2 := by unfold szW; rw [if_neg h1, if_pos h2]
    have HS := Lib.hid hs; clear hs
    have q1 : ¬ ((n : Int) < 253) := by omega
    have q2 : (n : Int) < 65536 := by omega
    clear h1 h2 hn
    go_enter Tryz.func71, Tryz.ntmps71
    go_wp2
    go_ret
    exact ⟨by rw [HS.out]; rfl, rfl⟩
  by_cases h3 : n < 4294967296
  · have hs : szW n = 4 := by unfold szW; rw [if_neg h1, if_neg h2, if_pos h3]
    have HS := Lib.hid hs; clear hs
    have q1 : ¬ ((n : Int) < 253) := by omega
    have q2 : ¬ ((n : Int) < 65536) := by omega
    have q3 : (n : Int) < 4294967296 := by omega
    clear h1 h2 h3 hn
    go_enter Tryz.func71, Tryz.ntmps71
    go_wp2
    go_ret
    exact ⟨by rw [HS.out]; rfl, rfl⟩
  · have hs : szW n = 8 := by unfold szW; rw [if_neg h1, if_neg h2, if_neg h3]
    have HS := Lib.hid hs; clear hs
    have q1 : ¬ ((n : Int) < 253) := by omega
    have q2 : ¬ ((n : Int) < 65536) := by omega
    have q3 : ¬ ((n : Int) < 4294967296) := by omega
    clear h1 h2 h3 hn
    go_enter Tryz.func71, Tryz.ntmps71
    go_wp2
    go_ret
    exact ⟨by rw [HS.out]; rfl, rfl⟩
theorem put_shift (n i : Nat) : ((n : Int) / 2 ^ (8 * i)) % 256 = bv (UInt8.ofNat (n / 256 ^ i)) := by
  rw [← put_byte]
  have e : (2 : Int) ^ (8 * i) = ((256 ^ i : Nat) : Int) := by rw [Int.natCast_pow, Int.pow_mul]; rfl
  rw [e]
  simp
set_option maxHeartbeats 2000000 in
set_option maxRecDepth 100000 in
theorem sizeS_any (n : Nat) (hn : n < 4611686018427387904) (w : World) :
    Calls Tryz.prog 33 #[.int .i64 n] w fun e w' => ∃ v, e = .returned v ∧ own w' w.heap.size 5 1 v (szM n).length ((szM n).map vB) ∧ Below w.heap.size w w' := by
  obtain ⟨i0, hi0, hz0, hz1, hz2⟩ := info_parts info_u8
  have HW := Lib.hid (wideS_any n hn w)
  by_cases h1 : n < 253
  · have hs : szW n = 0 := by unfold szW; rw [if_pos h1]
    have hm : szM n = [UInt8.ofNat n] := by unfold szM; rw [if_pos h1]
    have hb := put_byte n
    rw [hs] at HW
    have HB := Lib.hid hb; have HM := Lib.hid hm; clear hs hm hb
    go_enter Tryz.func33, Tryz.ntmps33
    go_wp2_with fail
    refine (HW.out).mono ?_
    rintro e w1 ⟨rfl, rfl⟩
    have HO := Lib.hid (own_lit (w := w1) (base := w1.heap.size) (e := 5) (sz := 1) #[.int .u8 (n : Int)] 1 (Nat.le_refl _) (by decide) rfl)
    have hv : Value.int .u8 (n : Int) = vB (UInt8.ofNat n) := by unfold vB; rw [← HB.out]; congr 1; omega
    have HV := Lib.hid hv; clear hv
    go_wp2
    go_ret
    refine ⟨_, rfl, ?_, (Below.refl _ _).alloc (Nat.le_refl _) _⟩
    have e := HO.out
    rw [HM.out, List.map_singleton, ← HV.out]
    exact e
  have hm : szM n = szH n :: putM n (szW n) := by unfold szM; rw [if_neg h1]
  have HM := Lib.hid hm; clear hm
  obtain ⟨s, hd, hs, hh, hs8⟩ : ∃ (s : Nat) (hd : UInt8), szW n = s ∧ szH n = hd ∧ ((s = 2 ∧ hd = 253) ∨ (s = 4 ∧ hd = 254) ∨ (s = 8 ∧ hd = 255)) := by
    refine ⟨_, _, rfl, rfl, ?_⟩
    unfold szW szH
    rw [if_neg h1]
    by_cases h2 : n < 65536
    · rw [if_pos h2, if_pos h2]; exact .inl ⟨rfl, rfl⟩
    · rw [if_neg h2, if_neg h2]
      by_cases h3 : n < 4294967296
      · rw [if_pos h3, if_pos h3]; exact .inr (.inl ⟨rfl, rfl⟩)
      · rw [if_neg h3, if_neg h3]; exact .inr (.inr ⟨rfl, rfl⟩)
  rw [hs] at HW HM
  rw [hh] at HM
  clear hs hh h1
  rcases hs8 with ⟨rfl, rfl⟩ | ⟨rfl, rfl⟩ | ⟨rfl, rfl⟩
  · go_enter Tryz.func33, Tryz.ntmps33
    go_wp2_with fail
    refine (HW.out).mono ?_
    rintro e w1 ⟨rfl, rfl⟩
    go_wp2_with fail
    have HO0 : Hid (own (w1.alloc (.cells #[vB 253] 5)) w1.heap.size 5 1 (.slice (some ⟨w1.heap.size, 0, none⟩) 1 1) (1 + 0) ((253 :: putP n 2 0).map vB)) := own_lit (w := w1) (base := w1.heap.size) (e := 5) (sz := 1) #[vB 253] 1 (Nat.le_refl _) (by decide) rfl
    have HB0 : Hid (Below w1.heap.size w1 (w1.alloc (.cells #[vB 253] 5))) := (Below.refl _ _).alloc (Nat.le_refl _) _
    change Code.wp _ _ _ _ (w1.alloc (.cells #[vB 253] 5))
    generalize w1.alloc (.cells #[vB 253] 5) = w2 at HO0 HB0 ⊢
    go_loopg [4, 5] 2 (fun tt s4 s5 wr => ∃ k : Nat, k + tt = 2 ∧ s5 = .int .i64 ((tt : Int) - 1) ∧ own wr w1.heap.size 5 1 s4 (1 + k) ((253 :: putP n 2 k).map vB) ∧ Below w1.heap.size w1 wr)
    case atStart => exact ⟨0, by omega, rfl, HO0.out, HB0.out⟩
    case round =>
      obtain ⟨k, hk, rfl, ho, hB⟩ := hrel
      have ho' := ho
      obtain ⟨-, so, scap, rfl, p1, p2, -⟩ := ho'
      unfold maxLen at p2
      have HO1 := Lib.hid ho; have B1 := Lib.hid hB; clear ho hB
      by_cases hlt : 0 < gk
      · obtain ⟨i, rfl⟩ : ∃ i, gk = i + 1 := ⟨gk - 1, by omega⟩
        have e1 : ((i + 1 : Nat) : Int) - 1 = (i : Int) := by omega
        rw [e1]
        have q1 : (0 : Int) ≤ (i : Int) := by omega
        have q2 : (i : Int) ≤ 7 := by omega
        have HBV : Hid (((n : Int) / 2 ^ (8 * i)) % 256 = bv (UInt8.ofNat (n / 256 ^ (2 - 1 - k)))) := by
          show _ = _
          rw [put_shift, show 2 - 1 - k = i from by omega]
        clear e1
        go_upto_region 13 with fail
        go_wp2_with (at_builtin; refine wpList_append_rd rfl (.tmp 35) (.tmp 41) 26 rfl 5 i0 (.int .u8 0) 1 1 Tryz.underlying26 hi0 hz0 hz1 hz2 rfl (by decide) w1.heap.size (1 + k) _ (own_alloc HO1.out _) 1 _ ?g1 (rd_new1 _ _ _ _ rfl) ?g5 ?g2 ?g3 ?g4 ?_)
        case g1 => rfl
        case g5 => intro u hu; simp at hu; subst hu; rfl
        case g2 => unfold maxLen; omega
        case g3 => omega
        case g4 => have := B1.out.size; simp; omega
        intro v3 w3 ho3 _ hg3
        rw [HBV.out] at ho3
        have B3 := Lib.hid ((B1.out.alloc B1.out.size _).grown hg3 (by have := B1.out.size; simp; omega) (fun q hq => (own_lt HO1.out hq).1))
        have HO3 := Lib.hid ho3; clear ho3 hg3
        go_wp2
        go_roundg i
        case measure => omega
        case rel =>
          refine ⟨k + 1, by omega, by rfl, ?_, B3.out⟩
          have e := HO3.out
          have e2 : (253 :: putP n 2 (k + 1)).map vB = (253 :: putP n 2 k).map vB ++ [vB (UInt8.ofNat (n / 256 ^ (2 - 1 - k)))] := by rw [putP_succ]; simp
          rw [e2]
          exact e
      · obtain rfl : gk = 0 := by omega
        obtain rfl : k = 2 := by omega
        have hlen : (szM n).length = 1 + 2 := by rw [HM.out]; simp [putM_length]; done
        have HF2 : Hid (own wr w1.heap.size 5 1 (.slice so (1 + 2) scap) (szM n).length ((szM n).map vB)) := by
          show own _ _ _ _ _ _ _
          rw [hlen, HM.out, ← putP_all]
          exact HO1.out
        clear hlen
        rw [show ((0 : Nat) : Int) - 1 = -1 from by decide]
        go_wp2
        go_ret
        exact ⟨_, rfl, HF2.out, B1.out⟩
  · go_enter Tryz.func33, Tryz.ntmps33
    go_wp2_with fail
    refine (HW.out).mono ?_
    rintro e w1 ⟨rfl, rfl⟩
    go_wp2_with fail
    have HO0 : Hid (own (w1.alloc (.cells #[vB 254] 5)) w1.heap.size 5 1 (.slice (some ⟨w1.heap.size, 0, none⟩) 1 1) (1 + 0) ((254 :: putP n 4 0).map vB)) := own_lit (w := w1) (base := w1.heap.size) (e := 5) (sz := 1) #[vB 254] 1 (Nat.le_refl _) (by decide) rfl
    have HB0 : Hid (Below w1.heap.size w1 (w1.alloc (.cells #[vB 254] 5))) := (Below.refl _ _).alloc (Nat.le_refl _) _
    change Code.wp _ _ _ _ (w1.alloc (.cells #[vB 254] 5))
    generalize w1.alloc (.cells #[vB 254] 5) = w2 at HO0 HB0 ⊢
    go_loopg [4, 5] 4 (fun tt s4 s5 wr => ∃ k : Nat, k + tt = 4 ∧ s5 = .int .i64 ((tt : Int) - 1) ∧ own wr w1.heap.size 5 1 s4 (1 + k) ((254 :: putP n 4 k).map vB) ∧ Below w1.heap.size w1 wr)
    case atStart => exact ⟨0, by omega, rfl, HO0.out, HB0.out⟩
    case round =>
      obtain ⟨k, hk, rfl, ho, hB⟩ := hrel
      have ho' := ho
      obtain ⟨-, so, scap, rfl, p1, p2, -⟩ := ho'
      unfold maxLen at p2
      have HO1 := Lib.hid ho; have B1 := Lib.hid hB; clear ho hB
      by_cases hlt : 0 < gk
      · obtain ⟨i, rfl⟩ : ∃ i, gk = i + 1 := ⟨gk - 1, by omega⟩
        have e1 : ((i + 1 : Nat) : Int) - 1 = (i : Int) := by omega
        rw [e1]
        have q1 : (0 : Int) ≤ (i : Int) := by omega
        have q2 : (i : Int) ≤ 7 := by omega
        have HBV : Hid (((n : Int) / 2 ^ (8 * i)) % 256 = bv (UInt8.ofNat (n / 256 ^ (4 - 1 - k)))) := by
          show _ = _
          rw [put_shift, show 4 - 1 - k = i from by omega]
        clear e1
        go_upto_region 13 with fail
        go_wp2_with (at_builtin; refine wpList_append_rd rfl (.tmp 35) (.tmp 41) 26 rfl 5 i0 (.int .u8 0) 1 1 Tryz.underlying26 hi0 hz0 hz1 hz2 rfl (by decide) w1.heap.size (1 + k) _ (own_alloc HO1.out _) 1 _ ?g1 (rd_new1 _ _ _ _ rfl) ?g5 ?g2 ?g3 ?g4 ?_)
        case g1 => rfl
        case g5 => intro u hu; simp at hu; subst hu; rfl
        case g2 => unfold maxLen; omega
        case g3 => omega
        case g4 => have := B1.out.size; simp; omega
        intro v3 w3 ho3 _ hg3
        rw [HBV.out] at ho3
        have B3 := Lib.hid ((B1.out.alloc B1.out.size _).grown hg3 (by have := B1.out.size; simp; omega) (fun q hq => (own_lt HO1.out hq).1))
        have HO3 := Lib.hid ho3; clear ho3 hg3
        go_wp2
        go_roundg i
        case measure => omega
        case rel =>
          refine ⟨k + 1, by omega, by rfl, ?_, B3.out⟩
          have e := HO3.out
          have e2 : (254 :: putP n 4 (k + 1)).map vB = (254 :: putP n 4 k).map vB ++ [vB (UInt8.ofNat (n / 256 ^ (4 - 1 - k)))] := by rw [putP_succ]; simp
          rw [e2]
          exact e
      · obtain rfl : gk = 0 := by omega
        obtain rfl : k = 4 := by omega
        have hlen : (szM n).length = 1 + 4 := by rw [HM.out]; simp [putM_length]; done
        have HF2 : Hid (own wr w1.heap.size 5 1 (.slice so (1 + 4) scap) (szM n).length ((szM n).map vB)) := by
          show own _ _ _ _ _ _ _
          rw [hlen, HM.out, ← putP_all]
          exact HO1.out
        clear hlen
        rw [show ((0 : Nat) : Int) - 1 = -1 from by decide]
        go_wp2
        go_ret
        exact ⟨_, rfl, HF2.out, B1.out⟩
  · go_enter Tryz.func33, Tryz.ntmps33
    go_wp2_with fail
    refine (HW.out).mono ?_
    rintro e w1 ⟨rfl, rfl⟩
    go_wp2_with fail
    have HO0 : Hid (own (w1.alloc (.cells #[vB 255] 5)) w1.heap.size 5 1 (.slice (some ⟨w1.heap.size, 0, none⟩) 1 1) (1 + 0) ((255 :: putP n 8 0).map vB)) := own_lit (w := w1) (base := w1.heap.size) (e := 5) (sz := 1) #[vB 255] 1 (Nat.le_refl _) (by decide) rfl
    have HB0 : Hid (Below w1.heap.size w1 (w1.alloc (.cells #[vB 255] 5))) := (Below.refl _ _).alloc (Nat.le_refl _) _
    change Code.wp _ _ _ _ (w1.alloc (.cells #[vB 255] 5))
    generalize w1.alloc (.cells #[vB 255] 5) = w2 at HO0 HB0 ⊢
    go_loopg [4, 5] 8 (fun tt s4 s5 wr => ∃ k : Nat, k + tt = 8 ∧ s5 = .int .i64 ((tt : Int) - 1) ∧ own wr w1.heap.size 5 1 s4 (1 + k) ((255 :: putP n 8 k).map vB) ∧ Below w1.heap.size w1 wr)
    case atStart => exact ⟨0, by omega, rfl, HO0.out, HB0.out⟩
    case round =>
      obtain ⟨k, hk, rfl, ho, hB⟩ := hrel
      have ho' := ho
      obtain ⟨-, so, scap, rfl, p1, p2, -⟩ := ho'
      unfold maxLen at p2
      have HO1 := Lib.hid ho; have B1 := Lib.hid hB; clear ho hB
      by_cases hlt : 0 < gk
      · obtain ⟨i, rfl⟩ : ∃ i, gk = i + 1 := ⟨gk - 1, by omega⟩
        have e1 : ((i + 1 : Nat) : Int) - 1 = (i : Int) := by omega
        rw [e1]
        have q1 : (0 : Int) ≤ (i : Int) := by omega
        have q2 : (i : Int) ≤ 7 := by omega
        have HBV : Hid (((n : Int) / 2 ^ (8 * i)) % 256 = bv (UInt8.ofNat (n / 256 ^ (8 - 1 - k)))) := by
          show _ = _
          rw [put_shift, show 8 - 1 - k = i from by omega]
        clear e1
        go_upto_region 13 with fail
        go_wp2_with (at_builtin; refine wpList_append_rd rfl (.tmp 35) (.tmp 41) 26 rfl 5 i0 (.int .u8 0) 1 1 Tryz.underlying26 hi0 hz0 hz1 hz2 rfl (by decide) w1.heap.size (1 + k) _ (own_alloc HO1.out _) 1 _ ?g1 (rd_new1 _ _ _ _ rfl) ?g5 ?g2 ?g3 ?g4 ?_)
        case g1 => rfl
        case g5 => intro u hu; simp at hu; subst hu; rfl
        case g2 => unfold maxLen; omega
        case g3 => omega
        case g4 => have := B1.out.size; simp; omega
        intro v3 w3 ho3 _ hg3
        rw [HBV.out] at ho3
        have B3 := Lib.hid ((B1.out.alloc B1.out.size _).grown hg3 (by have := B1.out.size; simp; omega) (fun q hq => (own_lt HO1.out hq).1))
        have HO3 := Lib.hid ho3; clear ho3 hg3
        go_wp2
        go_roundg i
        case measure => omega
        case rel =>
          refine ⟨k + 1, by omega, by rfl, ?_, B3.out⟩
          have e := HO3.out
          have e2 : (255 :: putP n 8 (k + 1)).map vB = (255 :: putP n 8 k).map vB ++ [vB (UInt8.ofNat (n / 256 ^ (8 - 1 - k)))] := by rw [putP_succ]; simp
          rw [e2]
          exact e
      · obtain rfl : gk = 0 := by omega
        obtain rfl : k = 8 := by omega
        have hlen : (szM n).length = 1 + 8 := by rw [HM.out]; simp [putM_length]; done
        have HF2 : Hid (own wr w1.heap.size 5 1 (.slice so (1 + 8) scap) (szM n).length ((szM n).map vB)) := by
          show own _ _ _ _ _ _ _
          rw [hlen, HM.out, ← putP_all]
          exact HO1.out
        clear hlen
        rw [show ((0 : Nat) : Int) - 1 = -1 from by decide]
        go_wp2
        go_ret
        exact ⟨_, rfl, HF2.out, B1.out⟩
set_option maxHeartbeats 1000000 in
set_option maxRecDepth 100000 in
theorem pack_any (b : List UInt8) (v : Value) (w : World) (h : rd w v b.length (b.map vB)) (hn : b.length ≤ 1000000000) :
    Calls Tryz.prog 120 #[v] w fun e w' => ∃ v', e = .returned v' ∧ own w' w.heap.size 5 1 v' (packM b).length ((packM b).map vB) ∧ Below w.heap.size w w' := by
  obtain ⟨i0, hi0, hz0, hz1, hz2⟩ := info_parts info_u8
  have h' := h
  obtain ⟨ao, cap, rfl, k1, k2, -⟩ := h'
  unfold maxLen at k2
  have HB := Lib.hid h; clear h
  have HS := Lib.hid (sizeS_any b.length (by omega))
  have hle := szM_le b.length
  have HE : Hid ((packM b).length = (szM b.length).length + b.length) := by show (packM b).length = _; simp [packM]
  go_enter Tryz.func120, Tryz.ntmps120
  go_wp2_with fail
  refine (HS.out w).mono ?_
  rintro e w1 ⟨v, rfl, ho, hb⟩
  have ho' := ho
  obtain ⟨-, so, scap, rfl, p1, p2, -⟩ := ho'
  unfold maxLen at p2
  have HO := Lib.hid ho; have B1 := Lib.hid hb; have HR := Lib.hid (rd_below HB.out hb)
  clear ho hb
  go_wp2_with (at_builtin; refine wpList_append_rd rfl (.tmp 5) (.tmp 6) 26 rfl 5 i0 (.int .u8 0) 1 1 Tryz.underlying26 hi0 hz0 hz1 hz2 rfl (by decide) w.heap.size (szM b.length).length _ HO.out b.length _ ?g1 HR.out (vB_plain _) ?g2 ?g3 ?g4 ?_)
  case g1 => simp
  case g2 => unfold maxLen; omega
  case g3 => omega
  case g4 => exact B1.out.size
  intro v3 w3 ho3 _ hg3
  have B3 := Lib.hid (B1.out.grown hg3 B1.out.size (fun q hq => (own_lt HO.out hq).1))
  have HO3 : Hid (own w3 w.heap.size 5 1 v3 (packM b).length ((packM b).map vB)) := by
    show own _ _ _ _ _ _ _
    rw [HE.out, packM, List.map_append]
    exact ho3
  clear ho3 hg3
  go_wp2
  go_ret
  exact ⟨_, rfl, HO3.out, B3.out⟩
end Go.Proofs.YtljcdkfafknnpaaGreatDoor
namespace Go.Proofs.YtljcdkfafknnpaaGreatDoor
set_option linter.unusedVariables false
set_option linter.unusedSimpArgs false
open Go.RowKit Go.Maps
theorem place_keyed : Keyed Tryz.prog 97 :=
  Keyed.of_law (deep_law_laid (m := 3) (by kernel_rfl) (by decide) (of_decide_eq_true (by kernel_rfl)) (by kernel_rfl) (by kernel_rfl))
theorem mapM_ex {α β : Type} (f : α → Option β) : ∀ (l : List α), (∀ a ∈ l, ∃ b, f a = some b) → ∃ bs, l.mapM f = some bs
  | [], _ => ⟨[], rfl⟩
  | a :: l, h => by
    obtain ⟨b, hb⟩ := h a (by simp)
    obtain ⟨bs, hbs⟩ := mapM_ex f l fun x hx => h x (by simp [hx])
    exact ⟨b :: bs, by simp [List.mapM_cons, hb, hbs]⟩
theorem keyLits_u8 (d : Nat) (b : UInt8) : ∃ l, Tryz.prog.keyLits (d + 1) 5 [vB b] = some l := by
  have hw : (Lit.int .u8 (bv b)).wf = true := by
    have := b.toNat_lt
    simp [Lit.wf, bv, IntKind.min, IntKind.max, IntKind.signed, IntKind.bits]
    omega
  refine ⟨[.int .u8 (bv b)], ?_⟩
  unfold Program.keyLits
  rw [Tryz.underlying5]
  simp [vB, hw]
theorem place_key (p : PlaceD) (hp : p.tx.length = 32) (hi : (Lit.int .i64 p.ix).wf = true) : ∃ l, Go.keyOf Tryz.prog 97 (.agg (plV p)) = some l := by
  obtain ⟨d, hd⟩ : ∃ d, Tryz.prog.types.size + 1 = d + 3 := ⟨Tryz.prog.types.size - 2, by have : Tryz.prog.types.size = 245 := (by kernel_rfl); omega⟩
  have hl : (plV p).toList = p.tx.map vB ++ [.int .i64 p.ix] := by simp [plV, dgV]
  have h1 : ∃ l, Tryz.prog.keyLits (d + 2) 23 (p.tx.map vB) = some l := by
    obtain ⟨bs, hbs⟩ := mapM_ex (fun i => Tryz.prog.keyLits (d + 1) 5 (((p.tx.map vB).drop (i * Tryz.prog.cellsOf 5)).take (Tryz.prog.cellsOf 5))) (List.range 32) fun i hi => by
      have hi' : i < p.tx.length := by rw [hp]; simpa using hi
      rw [cells_u8, Nat.mul_one, List.drop_eq_getElem_cons (by simpa using hi'), List.take_succ_cons, List.take_zero]
      simpa using keyLits_u8 d p.tx[i]
    refine ⟨bs.flatten, ?_⟩
    unfold Program.keyLits
    rw [Tryz.underlying23]
    simp only []
    rw [if_pos (by rw [cells_dig]; simp [hp]), hbs]
    rfl
  obtain ⟨l1, h1⟩ := h1
  have h2 : Tryz.prog.keyLits (d + 2) 3 [.int .i64 p.ix] = some [.int .i64 p.ix] := by
    unfold Program.keyLits
    rw [Tryz.underlying3]
    simp [hi]
  have hsz : (plV p).size = 33 := plV_size p hp
  have hk : Tryz.prog.keyType 97 = true := by kernel_rfl
  unfold Go.keyOf
  rw [Tryz.underlying97]
  simp only []
  rw [if_pos (by simp [hk, Value.formed, Tryz.underlying97, hsz, cells_place]), hd]
  unfold Program.keyLits
  rw [Tryz.underlying97]
  have ha : (p.tx.map vB ++ [Value.int .i64 p.ix]).take 32 = p.tx.map vB := by rw [List.take_append_of_le_length (by simp [hp])]; exact List.take_of_length_le (by simp [hp])
  have hb : (p.tx.map vB ++ [Value.int .i64 p.ix]).drop 32 = [Value.int .i64 p.ix] := by rw [List.drop_append_of_le_length (by simp [hp]), List.drop_of_length_le (by simp [hp])]; rfl
  simp [Value.cells, hl, hp, cells_place, cells_dig, cells_int, ha, hb, h1, h2]
end Go.Proofs.YtljcdkfafknnpaaGreatDoor
namespace Go.Proofs.YtljcdkfafknnpaaGreatDoor
set_option linter.unusedVariables false
set_option linter.unusedSimpArgs false
open Go.RowKit Go.Maps
/-- A place as it can be read. -/
def plOk (p : PlaceD) : Prop := p.tx.length = 32 ∧ (Lit.int .i64 p.ix).wf = true
theorem plV_inj {p q : PlaceD} (hp : p.tx.length = 32) (hq : q.tx.length = 32) (h : plV p = plV q) : p = q := by
  have e := congrArg Array.toList h
  simp only [plV, dgV, Array.toList_append, List.toList_toArray] at e
  obtain ⟨e1, e2⟩ := List.append_inj e (by simp [hp, hq])
  have e3 : p.tx = q.tx := by
    refine List.map_inj_right (f := vB) (fun a b hab => ?_) |>.1 e1
    simp only [vB, Value.int.injEq, true_and] at hab
    exact bv_inj hab
  have e4 : p.ix = q.ix := by simpa using e2
  cases p; cases q; simp_all
/-- Block b is a map that holds just these places. -/
def heldPl (w : World) (b : Nat) (ps : List PlaceD) : Prop :=
  ∃ D : DataW Unit, w.ownsMap Tryz.prog 97 (plainElem Tryz.prog 3) b ps.length D ∧ ∀ p l, plOk p → Go.keyOf Tryz.prog 97 (.agg (plV p)) = some l → Maps.has D l = ps.any (fun q => plE q p)
theorem heldPl_made (w : World) : heldPl (w.alloc (.map #[] 0)) w.heap.size [] :=
  ⟨.map [], World.ownsMap_made _ _ _ _, fun p l _ _ => rfl⟩
theorem plE_self' (p : PlaceD) : plE p p = true := by unfold plE; simp
theorem plE_ne {p q : PlaceD} (h : p ≠ q) : plE p q = false := by
  cases hb : plE p q with
  | false => rfl
  | true =>
    unfold plE at hb
    simp only [Bool.and_eq_true, decide_eq_true_eq] at hb
    exact absurd (by cases p; cases q; simp_all) h
/-- Looked up. -/
theorem heldPl_has {w : World} {b : Nat} {ps : List PlaceD} (h : heldPl w b ps) (p : PlaceD) (hp : plOk p) :
    ∃ (D : DataW Unit) (l : Lit), w.ownsMap Tryz.prog 97 (plainElem Tryz.prog 3) b ps.length D ∧ Go.keyOf Tryz.prog 97 (.agg (plV p)) = some l ∧ Maps.has D l = ps.any (fun q => plE q p) ∧
      ∀ (w' : World) (d : DataW Unit), (∀ q ∈ ps, plOk q) → w'.ownsMap Tryz.prog 97 (plainElem Tryz.prog 3) b (ps.length + 1) (D.put l d) → heldPl w' b (ps ++ [p]) := by
  obtain ⟨D, h1, h2⟩ := h
  obtain ⟨l, hl⟩ := place_key p hp.1 hp.2
  refine ⟨D, l, h1, hl, h2 p l hp hl, fun w' d hok hw => ⟨D.put l d, by simpa using hw, fun q lq hq hlq => ?_⟩⟩
  have hkey := place_keyed.key hl
  rw [List.any_append, ← h2 q lq hq hlq]
  by_cases e : lq = l
  · subst e
    have : p = q := plV_inj hp.1 hq.1 (by have := place_keyed.inj hl hlq; injection this)
    subst this
    rw [Maps.has_put_same h1.isMap hkey]
    simp [plE_self']
  · rw [Maps.has_put_other e]
    have hne : p ≠ q := by
      intro hpq
      subst hpq
      rw [hl] at hlq
      exact e (Option.some.inj hlq).symm
    simp [plE_ne hne]
theorem heldPl_kept {w w' : World} {b : Nat} {ps : List PlaceD} {row : Option Nat} (h : heldPl w b ps) (hg : w.grownBy w' row) (hne : some b ≠ row) : heldPl w' b ps := by
  obtain ⟨D, h1, h2⟩ := h
  exact ⟨D, h1.kept hg hne, h2⟩
theorem heldPl_alloc {w : World} {b : Nat} {ps : List PlaceD} (h : heldPl w b ps) (o : Obj) : heldPl (w.alloc o) b ps := by
  obtain ⟨D, h1, h2⟩ := h
  exact ⟨D, h1.alloc o, h2⟩
theorem heldPl_lt {w : World} {b : Nat} {ps : List PlaceD} (h : heldPl w b ps) : b < w.heap.size := by
  obtain ⟨D, h1, h2⟩ := h
  exact h1.lt
theorem heldPl_below {w w' : World} {b : Nat} {ps : List PlaceD} (h : heldPl w b ps) (hb : Below w.heap.size w w') : heldPl w' b ps := by
  obtain ⟨D, ⟨es, clock, h1, h3⟩, h2⟩ := h
  have hlt := (Array.getElem?_eq_some_iff.1 h1).1
  exact ⟨D, ⟨es, clock, (hb.block b hlt).trans h1, h3⟩, h2⟩
end Go.Proofs.YtljcdkfafknnpaaGreatDoor
namespace Go.Proofs.YtljcdkfafknnpaaGreatDoor
set_option linter.unusedVariables false
set_option linter.unusedSimpArgs false
open Go.RowKit
attribute [local go_sem ↓] run_load_agg run_store_agg run_load_any

/-- An in's cells. -/
def inV (x : InD) (s : Value) : Array Value := dgV x.tx ++ #[.int .i64 x.ix, s]
theorem inV_size (x : InD) (s : Value) (h : x.tx.length = 32) : (inV x s).size = 34 := by simp [inV, dgV_size, h]
theorem inV_plain (x : InD) (so : Option Addr) (n cap : Nat) : plainCells (inV x (.slice so n cap)) = true := by
  have := dgV_plain x.tx
  simp only [plainCells, inV, Array.toList_append, List.all_append, Bool.and_eq_true] at this ⊢
  exact ⟨this, rfl⟩
theorem inV_tail (x : InD) (s : Value) (h : x.tx.length = 32) : (inV x s)[32]? = some (.int .i64 x.ix) ∧ (inV x s)[33]? = some s := by
  have hz : (dgV x.tx).size = 32 := by rw [dgV_size, h]
  unfold inV
  refine ⟨?_, ?_⟩ <;> rw [Array.getElem?_append_right (by omega), hz] <;> rfl
theorem inV_place (x : InD) (s : Value) (h : x.tx.length = 32) : (inV x s).extract 0 33 = plV x.place := by
  have hz : (dgV x.tx).size = 32 := by rw [dgV_size, h]
  apply Array.ext
  · simp [inV, plV, InD.place, dgV_size, h]
  · intro i h1 h2
    simp only [Array.getElem_extract, inV, plV, InD.place]
    by_cases hi : i < 32
    · rw [Array.getElem_append_left (by omega), Array.getElem_append_left (by omega)]
      simp
    · have : i = 32 := by simp [inV, hz] at h1; omega
      subst this
      rw [Array.getElem_append_right (by omega), Array.getElem_append_right (by omega)]
      simp [hz]
def zIn : Array Value := #[.int .u8 0, .int .u8 0, .int .u8 0, .int .u8 0, .int .u8 0, .int .u8 0, .int .u8 0, .int .u8 0, .int .u8 0, .int .u8 0, .int .u8 0, .int .u8 0, .int .u8 0, .int .u8 0, .int .u8 0, .int .u8 0, .int .u8 0, .int .u8 0, .int .u8 0, .int .u8 0, .int .u8 0, .int .u8 0, .int .u8 0, .int .u8 0, .int .u8 0, .int .u8 0, .int .u8 0, .int .u8 0, .int .u8 0, .int .u8 0, .int .u8 0, .int .u8 0, .int .i64 0, .slice none 0 0]
theorem new_in (w : World) (x : InD) (so : Option Addr) (n cap : Nat) (h : x.tx.length = 32) : (rowAt (w.alloc (.cells zIn 100)) w.heap.size 0 34).isSome = true ∧ wrAt (w.alloc (.cells zIn 100)) w.heap.size = true ∧
    plainCells (inV x (.slice so n cap)) = true ∧ (inV x (.slice so n cap)).size = 34 :=
  ⟨by rw [rowAt_whole (heap_alloc_new w _) 34 rfl]; rfl, wrAt_of_heap (heap_alloc_new w _), inV_plain x so n cap, inV_size x _ h⟩
/-- An in as it lies in a box. -/
structure InAt (w : World) (G : Nat) (x : InD) (s : Value) : Prop where
  p : rowAt w G 0 33 = some (plV x.place)
  i : w.cell? ⟨G, 32, none⟩ = some (.int .i64 x.ix)
  k : w.cell? ⟨G, 33, none⟩ = some s
theorem zero_int (w : World) : (zeroValue 3).run Tryz.prog w = .ok (.int .i64 0) w := by kernel_rfl
theorem InAt.of {w : World} {G : Nat} {x : InD} {s : Value} {t : TypeId} {fr : Nat × Nat} (h : w.heap[G]? = some (.cells (inV x s) t fr)) (h32 : x.tx.length = 32) : InAt w G x s := by
  have hr : rowAt w G 0 34 = some (inV x s) := rowAt_whole h 34 (inV_size x s h32).symm
  refine ⟨?_, ?_, ?_⟩
  · have := rowAt_part hr 0 33 (by omega)
    rw [Nat.zero_add, inV_place x s h32] at this
    simpa using this
  · rw [cell_of_row _ _ _ _ _ _ h]; exact (inV_tail x s h32).1
  · rw [cell_of_row _ _ _ _ _ _ h]; exact (inV_tail x s h32).2
theorem size_wf {D : DataW Unit} {w : World} {b n : Nat} (h : w.ownsMap Tryz.prog 97 (plainElem Tryz.prog 3) b n D) (hn : n < 1000) : (Lit.int .i64 ((Maps.size D : Nat) : Int)).wf = true := by
  have := h.size_le
  simp only [Lit.wf, Bool.and_eq_true, decide_eq_true_eq]
  have e1 : IntKind.i64.min = -9223372036854775808 := by decide
  have e2 : IntKind.i64.max = 9223372036854775807 := by decide
  rw [e1, e2]; omega
theorem grownBy_drawn {w w' : World} (h : Drawn w w') (row : Option Nat) : w.grownBy w' row := by
  obtain ⟨m, rfl⟩ := h
  exact ⟨rfl, rfl, rfl, Nat.le_refl _, fun _ _ _ => rfl⟩
def InPost (x : InD) (b : Nat) (ps : List PlaceD) (w : World) (e : Ending) (w' : World) : Prop :=
  e = .returned (errV (inF ps x)) ∧ (inF ps x = 0 → heldPl w' b (ps ++ [x.place])) ∧ w.grownBy w' (some b)
theorem inPost_no {x : InD} {b : Nat} {ps : List PlaceD} {w : World} {e : Ending} {w' : World} (f : Int) (hf : inF ps x = f) (hz : f ≠ 0) (he : e = .returned (errV f)) (hg : w.grownBy w' (some b)) : InPost x b ps w e w' :=
  ⟨by rw [hf]; exact he, fun h => absurd (hf.symm.trans h) hz, hg⟩
theorem inPost_yes {x : InD} {b : Nat} {ps : List PlaceD} {w : World} {e : Ending} {w' : World} (hf : inF ps x = 0) (he : e = .returned (errV 0)) (hm : heldPl w' b (ps ++ [x.place])) (hg : w.grownBy w' (some b)) : InPost x b ps w e w' :=
  ⟨by rw [hf]; exact he, fun _ => hm, hg⟩
set_option maxHeartbeats 1000000 in
set_option maxRecDepth 100000 in
theorem txIn_any (x : InD) (so : Option Addr) (kcap b : Nat) (ps : List PlaceD) (w : World) (h32 : x.tx.length = 32) (W : World) (hW : Below W.heap.size W w) (hWb : W.heap.size ≤ b) (hk : rdSl bsR 1 W (.slice so x.keys.length kcap) x.keys) (hm : heldPl w b ps) (hn : ps.length < 1000) (hok : ∀ q ∈ ps, plOk q) :
    Calls Tryz.prog 119 #[.agg (inV x (.slice so x.keys.length kcap)), .map (some b)] w (InPost x b ps w) := by
  obtain ⟨n1, n2, n3, n4⟩ := new_in w x so x.keys.length kcap h32
  unfold zIn at n1 n2
  have HA := Lib.hid (InAt.of (heap_alloc_new w (.cells (inV x (.slice so x.keys.length kcap)) 100)) h32)
  have HC := Lib.hid (heap_alloc_new w (.cells (inV x (.slice so x.keys.length kcap)) 100))
  have hbw := heldPl_lt hm
  have hsw : (w.alloc (.cells (inV x (.slice so x.keys.length kcap)) 100)).heap.size = w.heap.size + 1 := by simp
  have HM := Lib.hid (heldPl_alloc hm (.cells (inV x (.slice so x.keys.length kcap)) 100))
  have HG := Lib.hid (World.grownBy_alloc w (.cells (inV x (.slice so x.keys.length kcap)) 100) (some b))
  have HW := Lib.hid hW; have HK := Lib.hid hk
  obtain ⟨_, _, e, kc1, kc2⟩ := sl_bounds hk
  cases e
  unfold maxLen at kc2
  clear hm hk hW
  go_enter Tryz.func119, Tryz.ntmps119
  go_upto_region 1 with fail
  clear n1 n2 n3 n4
  change Code.wp _ _ _ _ (w.alloc (.cells (inV x (.slice so x.keys.length kcap)) 100))
  obtain ⟨G, hG⟩ : ∃ G, w.heap.size = G := ⟨_, rfl⟩
  rw [hG] at HA HC hbw hsw ⊢
  generalize w.alloc (.cells (inV x (.slice so x.keys.length kcap)) 100) = w0 at HA HM HG HC hsw ⊢
  have c1 := HA.out.i
  have c2 := HA.out.k
  have hrow := HA.out.p
  by_cases h1 : x.ix < 0
  · have HF : Hid (inF ps x = 2) := by show inF ps x = 2; unfold inF; rw [if_pos (.inl h1)]
    go_wp2
    go_ret
    exact inPost_no 2 HF.out (by decide) rfl HG.out
  by_cases h2 : 40 ≤ x.ix
  · have HF : Hid (inF ps x = 2) := by show inF ps x = 2; unfold inF; rw [if_pos (.inr h2)]
    go_wp2
    go_ret
    exact inPost_no 2 HF.out (by decide) rfl HG.out
  have HB : Hid (¬ (x.ix < 0 ∨ 40 ≤ x.ix)) := by show ¬ (x.ix < 0 ∨ 40 ≤ x.ix); omega
  have hpo : plOk x.place := ⟨h32, by
    show (Lit.int .i64 x.ix).wf = true
    simp only [Lit.wf, Bool.and_eq_true, decide_eq_true_eq]
    have e1 : IntKind.i64.min = -9223372036854775808 := by decide
    have e2 : IntKind.i64.max = 9223372036854775807 := by decide
    rw [e1, e2]; omega⟩
  obtain ⟨D, l, hown, hkey, hhas, hput⟩ := heldPl_has HM.out x.place hpo
  have HO := Lib.hid hown; have HKY := Lib.hid hkey; have HP := Lib.hid hput; have HH := Lib.hid hhas
  clear hown hkey hhas hput hpo
  obtain ⟨B, hB⟩ : ∃ B, Maps.has D l = B := ⟨_, rfl⟩
  have HHB := Lib.hid hB; clear hB
  obtain ⟨P, hP⟩ : ∃ P, x.place = P := ⟨_, rfl⟩
  rw [hP] at hrow HKY
  have HPE := Lib.hid hP; clear hP
  cases B
  case true =>
    have HF : Hid (inF ps x = 6) := by show inF ps x = 6; unfold inF; rw [if_neg HB.out, if_pos (by rw [← HH.out]; exact HHB.out)]
    go_wp2_with (at_lookup; refine wpList_lookup_own_ok_int _ rfl _ _ 184 rfl 97 3 .i64 place_keyed Tryz.underlying184 Tryz.underlying3 (zero_int _) b ps.length _ rfl HO.out _ _ rfl HKY.out ?_; rw [HHB.out]; intro c hat hwc; clear hat hwc)
    go_ret
    exact inPost_no 6 HF.out (by decide) rfl HG.out
  case false =>
    have HWF := Lib.hid (size_wf HO.out hn)
    have hml : ps.length < maxLen := by unfold maxLen; omega
    go_upto_region 7 with (first
      | (at_lookup; refine wpList_lookup_own_ok_int _ rfl _ _ 184 rfl 97 3 .i64 place_keyed Tryz.underlying184 Tryz.underlying3 (zero_int _) b ps.length _ rfl HO.out _ _ rfl HKY.out ?_; rw [HHB.out]; intro c hat hwc; clear hat hwc)
      | (at_len; refine wpList_len_own _ rfl _ 184 rfl 97 3 Tryz.underlying184 _ b ps.length _ rfl HO.out ?_)
      | (at_mapUpdate; refine wpList_mapUpdate_own _ rfl _ _ _ 184 rfl 97 3 place_keyed Tryz.underlying184 _ b ps.length _ rfl HO.out hml _ _ _ rfl rfl HKY.out _ [] (plainElem_int Tryz.underlying3 HWF.out) ?_; intro w1 hown1 hgrow1))
    have HM1 := Lib.hid (HP.out w1 _ hok hown1)
    have HG1 := Lib.hid (HG.out.trans hgrow1)
    have hC1 : w1.heap[G]? = some (.cells (inV x (.slice so x.keys.length kcap)) 100 (0, 0)) := (hgrow1.block G (by omega) (by intro h; injection h; omega)).trans HC.out
    have c3 := (InAt.of hC1 h32).k
    clear hown1 hC1 hrow c1 c2
    have HK1 := Lib.hid (bsR_stays.slB HK.out (HW.out.grown HG1.out HW.out.size (fun q hq => by cases hq; exact hWb)) (Nat.le_refl _))
    clear hgrow1
    go_frame
    by_cases h3 : 30 < x.keys.length
    · have HF : Hid (inF ps x = 4) := by show inF ps x = 4; unfold inF; rw [if_neg HB.out, if_neg (by rw [← HH.out, HHB.out]; decide), if_pos h3]
      go_wp2_with fail
      go_ret
      exact inPost_no 4 HF.out (by decide) rfl HG1.out
    · have HC3 := Lib.hid (containsKeys_any x.keys so kcap w1 HK1.out)
      have HF : Hid (inF ps x = if (x.keys.any fun k => decide (3000 < k.length)) then 4 else 0) := by show inF ps x = _; unfold inF; rw [if_neg HB.out, if_neg (by rw [← HH.out, HHB.out]; decide), if_neg h3]
      obtain ⟨big, hbig⟩ : ∃ big, (x.keys.any fun k => decide (3000 < k.length)) = big := ⟨_, rfl⟩
      rw [hbig] at HC3 HF
      clear hbig
      go_wp2_with fail
      refine Calls.mono HC3.out ?_
      rintro e w2 ⟨rfl, hd⟩
      have HG2 := Lib.hid (HG1.out.trans (grownBy_drawn hd _))
      have HM2 := Lib.hid (heldPl_below HM1.out hd.below)
      clear hd
      cases big
      case true =>
        go_wp2
        go_ret
        exact inPost_no 4 HF.out (by decide) rfl HG2.out
      case false =>
        go_wp2
        go_ret
        exact inPost_yes HF.out rfl HM2.out HG2.out
end Go.Proofs.YtljcdkfafknnpaaGreatDoor
namespace Go.Proofs.YtljcdkfafknnpaaGreatDoor
set_option linter.unusedVariables false
set_option linter.unusedSimpArgs false
open Go.RowKit
attribute [local go_sem ↓] run_load_agg run_store_agg run_load_any

theorem in_at {w : World} {ao : Option Addr} {n cap : Nat} {xs : List InD} (h : rdSl inR 34 w (.slice ao n cap) xs) (j : Nat) (hj : j < xs.length) :
    ∃ g off so scap, ao = some ⟨g, off, none⟩ ∧ n = xs.length ∧ xs[j].tx.length = 32 ∧ rdSl bsR 1 w (.slice so xs[j].keys.length scap) xs[j].keys ∧
      rowAt w g (off + j * 34) 34 = some (inV xs[j] (.slice so xs[j].keys.length scap)) := by
  obtain ⟨g, off, cap', cs, e, hR, hl, hrow⟩ := rdSl_row h (by decide) j xs[j] (List.getElem?_eq_getElem hj)
  cases e
  obtain ⟨s, rfl, h32, hs⟩ := hR
  obtain ⟨so, scap, rfl, h1, h2⟩ := sl_bounds hs
  refine ⟨g, off, so, scap, rfl, rfl, h32, hs, ?_⟩
  rw [hrow]
  congr 1
  simp [inV, dgV]
theorem out_at {w : World} {ao : Option Addr} {n cap : Nat} {xs : List OutD} (h : rdSl outR 2 w (.slice ao n cap) xs) (j : Nat) (hj : j < xs.length) :
    ∃ g off so scap, ao = some ⟨g, off, none⟩ ∧ n = xs.length ∧ rdSl opR 3 w (.slice so xs[j].lock.length scap) xs[j].lock ∧
      rowAt w g (off + j * 2) 2 = some #[.int .i64 xs[j].amount, .slice so xs[j].lock.length scap] := by
  obtain ⟨g, off, cap', cs, e, hR, hl, hrow⟩ := rdSl_row h (by decide) j xs[j] (List.getElem?_eq_getElem hj)
  cases e
  obtain ⟨s, rfl, hs⟩ := hR
  obtain ⟨so, scap, rfl, h1, h2⟩ := sl_bounds hs
  exact ⟨g, off, so, scap, rfl, rfl, hs, hrow⟩
def zTx : Array Value := #[.slice none 0 0, .slice none 0 0, .int .i64 0]
theorem new_tx (w : World) (ai ao : Option Addr) (n m c d : Nat) (t : Int) : (rowAt (w.alloc (.cells zTx 59)) w.heap.size 0 3).isSome = true ∧ wrAt (w.alloc (.cells zTx 59)) w.heap.size = true ∧
    plainCells #[.slice ai n c, .slice ao m d, .int .i64 t] = true :=
  ⟨by rw [rowAt_whole (heap_alloc_new w _) 3 rfl]; rfl, wrAt_of_heap (heap_alloc_new w _), rfl⟩
def zOut : Array Value := #[.int .i64 0, .slice none 0 0]
theorem new_out (w : World) (a : Int) (so : Option Addr) (n c : Nat) : (rowAt (w.alloc (.cells zOut 103)) w.heap.size 0 2).isSome = true ∧ wrAt (w.alloc (.cells zOut 103)) w.heap.size = true ∧
    plainCells #[.int .i64 a, .slice so n c] = true :=
  ⟨by rw [rowAt_whole (heap_alloc_new w _) 2 rfl]; rfl, wrAt_of_heap (heap_alloc_new w _), rfl⟩
theorem insF_at (xs : List InD) (j : Nat) (hj : j < xs.length) (f : Int) (hf : inF ((xs.take j).map InD.place) xs[j] = f) :
    (f = 0 → insF ((xs.take j).map InD.place) (xs.drop j) = insF ((xs.take (j + 1)).map InD.place) (xs.drop (j + 1))) ∧ (f ≠ 0 → insF ((xs.take j).map InD.place) (xs.drop j) = f) := by
  subst hf
  exact ⟨fun h => by simpa using insF_step [] xs j hj (by simpa using h), fun h => by simpa using insF_stop [] xs j hj (by simpa using h)⟩
theorem outsF_at (os : List OutD) (j : Nat) (hj : j < os.length) : (outF os[j] = 0 → outsF (os.drop j) = outsF (os.drop (j + 1))) ∧ (outF os[j] ≠ 0 → outsF (os.drop j) = outF os[j]) :=
  ⟨outsF_step os j hj, outsF_stop os j hj⟩
theorem inF_ok {ps : List PlaceD} {x : InD} (h32 : x.tx.length = 32) (h : inF ps x = 0) : plOk x.place := by
  unfold inF at h
  split at h
  · cases h
  · refine ⟨h32, ?_⟩
    show (Lit.int .i64 x.ix).wf = true
    simp only [Lit.wf, Bool.and_eq_true, decide_eq_true_eq]
    have e1 : IntKind.i64.min = -9223372036854775808 := by decide
    have e2 : IntKind.i64.max = 9223372036854775807 := by decide
    rw [e1, e2]; omega
theorem txTime_at (n : Int) (b : Bool) (h : decide (0 ≤ n ∧ n ≤ 1073741824) = b) (w : World) : Calls Tryz.prog 118 #[.int .i64 n] w fun e w' => e = .returned (.bool b) ∧ w' = w := by
  have := txTime_any n w
  rwa [h] at this
set_option maxHeartbeats 2000000 in
set_option maxRecDepth 100000 in
theorem txCheck_any (t : TxD) (ai ao : Option Addr) (ci co : Nat) (w : World) (hi : rdSl inR 34 w (.slice ai t.ins.length ci) t.ins) (ho : rdSl outR 2 w (.slice ao t.outs.length co) t.outs) :
    Calls Tryz.prog 82 #[.agg #[.slice ai t.ins.length ci, .slice ao t.outs.length co, .int .i64 t.time]] w fun e w' => e = .returned (errV (txF t)) ∧ Below w.heap.size w w' := by
  obtain ⟨n1, n2, n3⟩ := new_tx w ai ao t.ins.length t.outs.length ci co t.time
  obtain ⟨_, _, e, i1, i2⟩ := sl_bounds hi
  cases e
  obtain ⟨_, _, e, o1, o2⟩ := sl_bounds ho
  cases e
  unfold maxLen at i2 o2
  unfold zTx at n1 n2
  have hmm := @run_makeMap Tryz.prog
  have HI := Lib.hid hi; have HO := Lib.hid ho
  have HC := Lib.hid (heap_alloc_new w (.cells #[.slice ai t.ins.length ci, .slice ao t.outs.length co, .int .i64 t.time] 59))
  have B0 := Lib.hid ((Below.refl w.heap.size w).alloc (Nat.le_refl _) (.cells #[.slice ai t.ins.length ci, .slice ao t.outs.length co, .int .i64 t.time] 59))
  have hs0 : (w.alloc (.cells #[.slice ai t.ins.length ci, .slice ao t.outs.length co, .int .i64 t.time] 59)).heap.size = w.heap.size + 1 := by simp
  clear hi ho
  go_enter Tryz.func82, Tryz.ntmps82
  go_upto_region 1 with fail
  clear n1 n2 n3
  change Code.wp _ _ _ _ (w.alloc (.cells #[.slice ai t.ins.length ci, .slice ao t.outs.length co, .int .i64 t.time] 59))
  obtain ⟨G, hG⟩ : ∃ G, w.heap.size = G := ⟨_, rfl⟩
  have hGe : w.heap.size ≤ G := by omega
  rw [hG] at HC hs0 ⊢
  clear hG
  generalize w.alloc (.cells #[.slice ai t.ins.length ci, .slice ao t.outs.length co, .int .i64 t.time] 59) = w0 at HC B0 hs0 ⊢
  have c0 : w0.cell? ⟨G, 0, none⟩ = some (.slice ai t.ins.length ci) := by rw [cell_of_row _ _ _ _ _ _ HC.out]; rfl
  have c1 : w0.cell? ⟨G, 1, none⟩ = some (.slice ao t.outs.length co) := by rw [cell_of_row _ _ _ _ _ _ HC.out]; rfl
  have c2 : w0.cell? ⟨G, 2, none⟩ = some (.int .i64 t.time) := by rw [cell_of_row _ _ _ _ _ _ HC.out]; rfl
  by_cases h1 : 40 < t.ins.length
  · have HF : Hid (txF t = 4) := by show txF t = 4; unfold txF; rw [if_pos (.inl h1)]
    go_wp2
    go_ret
    exact ⟨by rw [HF.out]; rfl, B0.out⟩
  by_cases h2 : 40 < t.outs.length
  · have HF : Hid (txF t = 4) := by show txF t = 4; unfold txF; rw [if_pos (.inr h2)]
    go_wp2
    go_ret
    exact ⟨by rw [HF.out]; rfl, B0.out⟩
  have HL : Hid (¬ (40 < t.ins.length ∨ 40 < t.outs.length)) := by show ¬ (40 < t.ins.length ∨ 40 < t.outs.length); omega
  by_cases h3 : t.outs.length = 0
  · have HF : Hid (txF t = 5) := by show txF t = 5; unfold txF; rw [if_neg HL.out, if_pos h3]
    have h4 := h3
    go_wp2
    go_ret
    exact ⟨by rw [HF.out]; rfl, B0.out⟩
  by_cases h4 : 0 ≤ t.time ∧ t.time ≤ 1073741824
  · have HF : Hid (txF t = if insF [] t.ins = 0 then outsF t.outs else insF [] t.ins) := by show txF t = _; unfold txF; rw [if_neg HL.out, if_neg h3, if_neg (fun h => h h4)]
    have HT := Lib.hid (txTime_at t.time true (decide_eq_true h4))
    have h5 : 0 < t.outs.length := by omega
    clear h4 h3
    go_wp2_with fail
    refine (HT.out _).mono ?_
    rintro e w' ⟨rfl, hw'⟩
    rw [hw']
    clear hw' w'
    go_wp2_with fail
    have HM0 := Lib.hid (heldPl_made w0)
    have B1 := Lib.hid (B0.out.alloc (by omega) (.map #[] 0))
    have HC1 : Hid ((w0.alloc (.map #[] 0)).heap[G]? = some (.cells #[.slice ai t.ins.length ci, .slice ao t.outs.length co, .int .i64 t.time] 59 (0, 0))) := (Below.heap_alloc w0 _ G (by omega)).trans HC.out
    rw [hs0] at HM0
    have hs1 : (w0.alloc (.map #[] 0)).heap.size = G + 2 := by simp; omega
    generalize w0.alloc (.map #[] 0) = w1 at HM0 B1 HC1 hs1 ⊢
    clear c0 c1 c2 HC B0 hs0 hmm
    go_loopw [39] (fun c wr => ∃ j : Nat, j ≤ t.ins.length ∧ c = .int .i64 j ∧ Hid (Below w.heap.size w wr) ∧ Hid (heldPl wr (G + 1) ((t.ins.take j).map InD.place)) ∧ Hid (∀ q ∈ (t.ins.take j).map InD.place, plOk q) ∧
      Hid (insF [] t.ins = insF ((t.ins.take j).map InD.place) (t.ins.drop j)) ∧ Hid (wr.heap[G]? = some (.cells #[.slice ai t.ins.length ci, .slice ao t.outs.length co, .int .i64 t.time] 59 (0, 0)))) (fun c _ => t.ins.length - (intOf c).toNat)
    case atStart => exact ⟨0, by omega, rfl, B1, HM0, Lib.hid (fun q hq => by simp at hq), Lib.hid rfl, HC1⟩
    case round =>
      obtain ⟨j, hj, rfl, HB, HM, HOK, HFS, HCR⟩ := hrel
      by_cases hlt : j < t.ins.length
      · obtain ⟨g, off, so, scap, rfl, -, h32, hkeys, hrow0⟩ := in_at HI.out j hlt
        have hrow : rowAt wr g (off + j * 34) 34 = some (inV t.ins[j] (.slice so t.ins[j].keys.length scap)) := (rowAt_below HB.out (rowAt_lt hrow0) _ _).trans hrow0
        have HAT := Lib.hid (insF_at t.ins j hlt)
        have HTK : Hid (t.ins.take (j + 1) = t.ins.take j ++ [t.ins[j]]) := List.take_succ_eq_append_getElem hlt
        have hpl : ((t.ins.take j).map InD.place).length < 1000 := by simp; omega
        obtain ⟨x, hx⟩ : ∃ x, t.ins[j] = x := ⟨_, rfl⟩
        rw [hx] at h32 hkeys hrow HAT HTK
        obtain ⟨ps, hps⟩ : ∃ ps, (t.ins.take j).map InD.place = ps := ⟨_, rfl⟩
        have HPS := Lib.hid hps
        rw [hps] at HM HOK HFS HAT hpl
        have HK := Lib.hid hkeys
        obtain ⟨n1, n2, n3, n4⟩ := new_in wr x so x.keys.length scap h32
        unfold zIn at n1 n2
        have hgl := rowAt_lt hrow
        have BX := Lib.hid (HB.out.alloc HB.out.size (.cells (inV x (.slice so x.keys.length scap)) 100))
        have HMX := Lib.hid (heldPl_alloc HM.out (.cells (inV x (.slice so x.keys.length scap)) 100))
        have HGX : Hid ((wr.alloc (.cells (inV x (.slice so x.keys.length scap)) 100)).heap[G]? = some (.cells #[.slice (some ⟨g, off, none⟩) t.ins.length ci, .slice ao t.outs.length co, .int .i64 t.time] 59 (0, 0))) := (Below.heap_alloc wr _ G (Array.getElem?_eq_some_iff.1 HCR.out).1).trans HCR.out
        have hr2 : rowAt (wr.alloc (.cells (inV x (.slice so x.keys.length scap)) 100)) wr.heap.size 0 34 = some (inV x (.slice so x.keys.length scap)) := rowAt_whole (heap_alloc_new wr _) 34 n4.symm
        clear hx hps hrow0 hkeys
        go_upto_region 11 with fail
        clear n1 n2 n3 n4 hrow
        change Code.wp _ _ _ _ (wr.alloc (.cells (inV x (.slice so x.keys.length scap)) 100))
        obtain ⟨G2, hG2⟩ : ∃ G2, wr.heap.size = G2 := ⟨_, rfl⟩
        rw [hG2] at hr2 ⊢
        clear hG2
        generalize wr.alloc (.cells (inV x (.slice so x.keys.length scap)) 100) = w2 at BX HMX HGX hr2 ⊢
        go_wp2_with fail
        refine Calls.mono (txIn_any x so scap (G + 1) ps w2 h32 w BX.out (by omega) HK.out HMX.out hpl HOK.out) ?_
        rintro e w3 ⟨rfl, hm3, hg3⟩
        have B3 := Lib.hid (BX.out.grown hg3 BX.out.size (fun q hq => by cases hq; omega))
        have HG3 : Hid (w3.heap[G]? = some (.cells #[.slice (some ⟨g, off, none⟩) t.ins.length ci, .slice ao t.outs.length co, .int .i64 t.time] 59 (0, 0))) := (hg3.block G (Array.getElem?_eq_some_iff.1 HGX.out).1 (by intro h; injection h; omega)).trans HGX.out
        obtain ⟨f, hf⟩ : ∃ f, inF ps x = f := ⟨_, rfl⟩
        have HFF := Lib.hid hf
        have HA2 := Lib.hid (HAT.out f hf)
        rw [hf] at hm3 ⊢
        have HM3 := Lib.hid hm3
        clear hg3 hm3 hf
        by_cases hz : f = 0
        · have HST := Lib.hid (HFS.out.trans (HA2.out.1 hz))
          have HMM := Lib.hid (HM3.out hz)
          have HOK2 : Hid (∀ q ∈ (t.ins.take (j + 1)).map InD.place, plOk q) := by
            show ∀ q ∈ (t.ins.take (j + 1)).map InD.place, plOk q
            rw [HTK.out, List.map_append, HPS.out]
            intro q hq
            rcases List.mem_append.1 hq with h | h
            · exact HOK.out q h
            · have : q = x.place := by simpa using h
              rw [this]; exact inF_ok h32 (HFF.out.trans hz)
          subst hz
          rw [errV_0]
          go_wp2
          go_roundw
          case rel => exact ⟨j + 1, by omega, by go_num, B3, Lib.hid (by rw [HTK.out, List.map_append, HPS.out]; exact HMM.out), HOK2, HST, HG3⟩
          case measure => simp [intOf]; omega
        · have HZ := Lib.hid (HFS.out.trans (HA2.out.2 hz))
          have HNZ := Lib.hid hz
          rw [errV_ne hz]
          clear hz
          go_wp2
          go_ret
          exact ⟨by rw [HF.out, HZ.out, if_neg HNZ.out, errV_ne HNZ.out]; rfl, B3.out⟩
      · have hj2 : j = t.ins.length := by omega
        have HZ : Hid (insF [] t.ins = 0) := by show insF [] t.ins = 0; rw [HFS.out, hj2, List.drop_length]; rfl
        have HF2 : Hid (txF t = outsF t.outs) := HF.out.trans (by rw [if_pos HZ.out])
        have c1 : wr.cell? ⟨G, 1, none⟩ = some (.slice ao t.outs.length co) := by rw [cell_of_row _ _ _ _ _ _ HCR.out]; rfl
        have HOW := Lib.hid (outR_stays.slB HO.out HB.out (Nat.le_refl _))
        clear hj2 HF HZ HFS HOK HM HCR
        go_wp2_with fail
        obtain ⟨wo, hwo⟩ : ∃ wo : World, wo = wr := ⟨_, rfl⟩
        rw [← hwo] at HB HOW c1 ⊢
        clear hwo c1
        go_loopw [53] (fun c wr => ∃ j : Nat, j ≤ t.outs.length ∧ c = .int .i64 j ∧ Hid (Below w.heap.size w wr) ∧ Hid (outsF t.outs = outsF (t.outs.drop j))) (fun c _ => t.outs.length - (intOf c).toNat)
        case atStart => exact ⟨0, by omega, rfl, HB, Lib.hid rfl⟩
        case round =>
          obtain ⟨j, hj, rfl, HB, HFS⟩ := hrel
          by_cases hlt : j < t.outs.length
          · obtain ⟨g, off, so, scap, rfl, -, hlock, hrow⟩ := out_at (outR_stays.slB HO.out HB.out (Nat.le_refl _)) j hlt
            have HAT := Lib.hid (outsF_at t.outs j hlt)
            obtain ⟨_, _, e, l1, l2⟩ := sl_bounds hlock
            cases e
            unfold maxLen at l2
            obtain ⟨o, ho⟩ : ∃ o, t.outs[j] = o := ⟨_, rfl⟩
            rw [ho] at hlock hrow HAT l1
            obtain ⟨n1, n2, n3⟩ := new_out wr o.amount so o.lock.length scap
            unfold zOut at n1 n2
            have hgl := rowAt_lt hrow
            have BX := Lib.hid (HB.out.alloc HB.out.size (.cells #[.int .i64 o.amount, .slice so o.lock.length scap] 103))
            have hcx := heap_alloc_new wr (.cells #[.int .i64 o.amount, .slice so o.lock.length scap] 103)
            have HLX := Lib.hid (opR_stays.sl (fun k hk => Below.heap_alloc wr (.cells #[.int .i64 o.amount, .slice so o.lock.length scap] 103) k hk) hlock)
            clear ho hlock
            go_upto_region 18 with fail
            clear n1 n2 n3 hrow
            change Code.wp _ _ _ _ (wr.alloc (.cells #[.int .i64 o.amount, .slice so o.lock.length scap] 103))
            obtain ⟨G2, hG2⟩ : ∃ G2, wr.heap.size = G2 := ⟨_, rfl⟩
            rw [hG2] at hcx ⊢
            clear hG2
            generalize wr.alloc (.cells #[.int .i64 o.amount, .slice so o.lock.length scap] 103) = w2 at BX hcx HLX ⊢
            have d0 : w2.cell? ⟨G2, 0, none⟩ = some (.int .i64 o.amount) := by rw [cell_of_row _ _ _ _ _ _ hcx]; rfl
            have d1 : w2.cell? ⟨G2, 1, none⟩ = some (.slice so o.lock.length scap) := by rw [cell_of_row _ _ _ _ _ _ hcx]; rfl
            clear hcx
            by_cases hm : o.amount < 0 ∨ 1125899906842624 < o.amount
            · have HOF : Hid (outF o = 2) := by show outF o = 2; unfold outF; rw [if_pos hm]
              have hz2 : txF t = 2 := by rw [HF2.out, HFS.out, HAT.out.2 (by rw [HOF.out]; decide), HOF.out]
              have HZ := Lib.hid hz2
              have hm2 : moneyF o.amount = 2 := by unfold moneyF; rw [if_pos hm]
              have HM := Lib.hid (moneyCheck_any o.amount)
              rw [hm2, errV_ne (c := 2) (by decide)] at HM
              clear hm hm2 hz2
              go_wp2_with fail
              refine (HM.out _).mono ?_
              rintro e w' ⟨rfl, hw'⟩
              rw [hw']
              clear hw' w'
              go_wp2
              go_ret
              exact ⟨by rw [HZ.out]; rfl, BX.out⟩
            · have HOF : Hid (outF o = lockF o.lock) := by show outF o = _; unfold outF; rw [if_neg hm]
              have hm2 : moneyF o.amount = 0 := by unfold moneyF; rw [if_neg hm]
              have HM := Lib.hid (moneyCheck_any o.amount)
              rw [hm2, errV_0] at HM
              clear hm hm2
              go_wp2_with fail
              refine (HM.out _).mono ?_
              rintro e w' ⟨rfl, hw'⟩
              rw [hw']
              clear hw' w'
              go_wp2_with fail
              refine (lockCheck_any o.lock so scap _ HLX.out).mono ?_
              rintro e w3 ⟨rfl, hb3⟩
              have B3 := Lib.hid (BX.out.trans (hb3.mono BX.out.size)); clear hb3
              obtain ⟨f, hf⟩ : ∃ x, lockF o.lock = x := ⟨_, rfl⟩
              rw [hf] at HOF ⊢
              clear hf
              by_cases hz : f = 0
              · have HST := Lib.hid (HFS.out.trans (HAT.out.1 (HOF.out.trans hz)))
                subst hz
                rw [errV_0]
                go_wp2
                go_roundw
                case rel => exact ⟨j + 1, by omega, by go_num, B3, HST⟩
                case measure => simp [intOf]; omega
              · have hz2 : txF t = f := by rw [HF2.out, HFS.out, HAT.out.2 (by rw [HOF.out]; exact hz), HOF.out]
                have HZ := Lib.hid hz2
                have HNZ := Lib.hid hz
                rw [errV_ne hz]
                clear hz hz2
                go_wp2
                go_ret
                exact ⟨by rw [HZ.out, errV_ne HNZ.out]; rfl, B3.out⟩
          · have hj2 : j = t.outs.length := by omega
            have HZ : Hid (txF t = 0) := by show txF t = 0; rw [HF2.out, HFS.out, hj2, List.drop_length]; rfl
            clear hj2
            go_wp2
            go_ret
            exact ⟨by rw [HZ.out]; rfl, HB.out⟩
  · have HF : Hid (txF t = 2) := by show txF t = 2; unfold txF; rw [if_neg HL.out, if_neg h3, if_pos h4]
    have HT := Lib.hid (txTime_at t.time false (decide_eq_false h4))
    have h5 : 0 < t.outs.length := by omega
    clear h4 h3
    go_wp2_with fail
    refine (HT.out _).mono ?_
    rintro e w' ⟨rfl, hw'⟩
    rw [hw']
    clear hw' w'
    go_wp2
    go_ret
    exact ⟨by rw [HF.out]; rfl, B0.out⟩
end Go.Proofs.YtljcdkfafknnpaaGreatDoor
namespace Go.Proofs.YtljcdkfafknnpaaGreatDoor
set_option linter.unusedVariables false
set_option linter.unusedSimpArgs false
open Go.RowKit
attribute [local go_sem ↓] run_load_agg run_store_agg run_load_any

theorem rd_head {w : World} {G : Nat} {cs : Array Value} {t : TypeId} {fr : Nat × Nat} (h : w.heap[G]? = some (.cells cs t fr)) (b : List UInt8) (hb : b.length = 32) (hc : ∀ j, j < 32 → cs[j]? = (b.map vB)[j]?) : rd w (.slice (some ⟨G, 0, none⟩) 32 32) b.length (b.map vB) := by
  rw [hb]
  refine ⟨_, _, rfl, Nat.le_refl _, by unfold maxLen; omega, .inr ⟨G, 0, rfl, fun j u hj => ?_⟩⟩
  have hlt : j < 32 := by have := (List.getElem?_eq_some_iff.1 hj).1; simp [hb] at this; exact this
  rw [Nat.zero_add, cell_of_row _ _ _ _ _ _ h, hc j hlt]
  exact hj
theorem inV_head (x : InD) (s : Value) (h : x.tx.length = 32) (j : Nat) (hj : j < 32) : (inV x s)[j]? = (x.tx.map vB)[j]? := by
  unfold inV
  rw [Array.getElem?_append_left (by rw [dgV_size]; omega)]
  simp [dgV]
set_option maxHeartbeats 4000000 in
set_option maxRecDepth 100000 in
theorem sent_any (t : TxD) (ai ao : Option Addr) (ci co : Nat) (w : World) (hi : rdSl inR 34 w (.slice ai t.ins.length ci) t.ins) (ho : rdSl outR 2 w (.slice ao t.outs.length co) t.outs) (hk : ∀ x ∈ t.ins, x.keys = []) (hok : TxOk t) :
    Calls Tryz.prog 84 #[.agg #[.slice ai t.ins.length ci, .slice ao t.outs.length co, .int .i64 t.time]] w fun e w' => ∃ v, e = .returned v ∧ own w' w.heap.size 5 1 v (bareM t).length ((bareM t).map vB) ∧ Below w.heap.size w w' := by
  obtain ⟨n1, n2, n3⟩ := new_tx w ai ao t.ins.length t.outs.length ci co t.time
  obtain ⟨_, _, e, i1, i2⟩ := sl_bounds hi
  cases e
  obtain ⟨_, _, e, o1, o2⟩ := sl_bounds ho
  cases e
  unfold maxLen at i2 o2
  unfold zTx at n1 n2
  have hli := hok.ins; have hlo := hok.outs
  have HI := Lib.hid hi; have HO := Lib.hid ho; have HK := Lib.hid hk; have HOK := Lib.hid hok
  have HC := Lib.hid (heap_alloc_new w (.cells #[.slice ai t.ins.length ci, .slice ao t.outs.length co, .int .i64 t.time] 59))
  have B0 := Lib.hid ((Below.refl w.heap.size w).alloc (Nat.le_refl _) (.cells #[.slice ai t.ins.length ci, .slice ao t.outs.length co, .int .i64 t.time] 59))
  have hs0 : (w.alloc (.cells #[.slice ai t.ins.length ci, .slice ao t.outs.length co, .int .i64 t.time] 59)).heap.size = w.heap.size + 1 := by simp
  clear hi ho hk hok
  go_enter Tryz.func84, Tryz.ntmps84
  go_upto_region 1 with fail
  clear n1 n2 n3
  change Code.wp _ _ _ _ (w.alloc (.cells #[.slice ai t.ins.length ci, .slice ao t.outs.length co, .int .i64 t.time] 59))
  obtain ⟨G0, hG⟩ : ∃ G0, w.heap.size = G0 := ⟨_, rfl⟩
  have hGe : w.heap.size ≤ G0 := by omega
  rw [hG] at HC hs0 ⊢
  clear hG
  generalize w.alloc (.cells #[.slice ai t.ins.length ci, .slice ao t.outs.length co, .int .i64 t.time] 59) = w0 at HC B0 hs0 ⊢
  have c0 : w0.cell? ⟨G0, 0, none⟩ = some (.slice ai t.ins.length ci) := by rw [cell_of_row _ _ _ _ _ _ HC.out]; rfl
  have HI0 := Lib.hid (inR_stays.slB HI.out B0.out (Nat.le_refl _))
  have HO0 := Lib.hid (outR_stays.slB HO.out B0.out (Nat.le_refl _))
  clear HI HO
  go_wp2_with fail
  refine (sizeS_any t.ins.length (by omega) w0).mono ?_
  rintro e w1 ⟨b0, rfl, ho, hb⟩
  have hG0 : G0 < w0.heap.size := by omega
  have HB1 := Lib.hid hb; have HOB := Lib.hid ho
  have c1 : w1.cell? ⟨G0, 0, none⟩ = some (.slice ai t.ins.length ci) := by rw [cell_of_row _ _ _ _ _ _ ((hb.block _ (by omega)).trans HC.out)]; rfl
  clear hb ho c0 hs0
  go_wp2_with fail
  clear c1
  go_loopw [3, 19] (fun s c wr => ∃ (j : Nat) (b : Value), j ≤ t.ins.length ∧ b = s ∧ c = .int .i64 j ∧ Hid (own wr w0.heap.size 5 1 b (szM t.ins.length ++ insB (t.ins.take j)).length ((szM t.ins.length ++ insB (t.ins.take j)).map vB)) ∧ Hid (Below w0.heap.size w0 wr)) (fun _ c _ => t.ins.length - (intOf c).toNat)
  case atStart => exact ⟨0, _, by omega, rfl, rfl, Lib.hid (by have := HOB.out; simpa [insB] using this), HB1⟩
  case round =>
    obtain ⟨j, b, hj, rfl, rfl, HO, HB⟩ := hrel
    by_cases hlt : j < t.ins.length
    · obtain ⟨g, off, so, scap, rfl, -, h32, hkeys, hrow0⟩ := in_at HI0.out j hlt
      have hrow : rowAt wr g (off + j * 34) 34 = some (inV t.ins[j] (.slice so t.ins[j].keys.length scap)) := (rowAt_below HB.out (rowAt_lt hrow0) _ _).trans hrow0
      have HT := Lib.hid (insB_take t.ins j hlt)
      have hix := HOK.out.ix _ (List.getElem_mem hlt)
      have hkz : t.ins[j].keys.length = 0 := by rw [HK.out _ (List.getElem_mem hlt)]; rfl
      have hlen := insB_le (xs := t.ins.take j) (fun x hx => by
        obtain ⟨i, hi, rfl⟩ := List.getElem_of_mem (List.mem_of_mem_take hx)
        obtain ⟨_, _, _, _, _, _, h32', -⟩ := in_at HI0.out i hi
        exact h32')
      have hle1 := szM_le t.ins.length
      obtain ⟨x, hx⟩ : ∃ x, t.ins[j] = x := ⟨_, rfl⟩
      rw [hx] at h32 hrow HT hix hkz
      rw [hkz] at hrow
      obtain ⟨A, hA⟩ : ∃ A, szM t.ins.length ++ insB (t.ins.take j) = A := ⟨_, rfl⟩
      have hAl : A.length ≤ 2100 := by rw [← hA]; simp only [List.length_append]; simp only [List.length_take] at hlen; omega
      have HA := Lib.hid hA
      rw [hA] at HO
      obtain ⟨k, hk⟩ : ∃ k : Nat, x.ix = (k : Int) := ⟨x.ix.toNat, by omega⟩
      have HKX : Hid (inB x = x.tx ++ szM k ++ szM 0) := by show inB x = _; unfold inB; rw [hk]; rfl
      have hk40 : k < 40 := by omega
      obtain ⟨n1, n2, n3, n4⟩ := new_in wr x so 0 scap h32
      unfold zIn at n1 n2
      have hgl := rowAt_lt hrow
      have HR : Hid (Reg w0.heap.size w0 w0.heap.size wr.heap.size (inV x (.slice so 0 scap)) 100 [(b, A)] (wr.alloc (.cells (inV x (.slice so 0 scap)) 100))) :=
        ⟨HB.out.alloc HB.out.size _, heap_alloc_new wr _, Led.one rfl (own_alloc HO.out _), Nat.le_refl _, by decide, by have := HB.out.size; simp; omega⟩
      have HC32 : Hid ((inV x (.slice so 0 scap))[32]? = some (.int .i64 (k : Int))) := by show _ = _; rw [← hk]; exact (inV_tail x _ h32).1
      have HC33 : Hid ((inV x (.slice so 0 scap))[33]? = some (.slice so 0 scap)) := (inV_tail x _ h32).2
      have HHD := Lib.hid (inV_head x (.slice so 0 scap) h32)
      clear hx hA hrow0 hkeys hlen hix hk hkz
      go_upto_region 5 with fail
      clear n1 n2 n3 n4 hrow
      change Code.wp _ _ _ _ (wr.alloc (.cells (inV x (.slice so 0 scap)) 100))
      obtain ⟨G, hG⟩ : ∃ G, wr.heap.size = G := ⟨_, rfl⟩
      rw [hG] at HR ⊢
      clear hG
      generalize wr.alloc (.cells (inV x (.slice so 0 scap)) 100) = w2 at HR ⊢
      go_cut [3] (fun s wx => Hid (Reg w0.heap.size w0 w0.heap.size G (inV x (.slice so 0 scap)) 100 [(s, A ++ x.tx ++ szM k)] wx))
      case first =>
        have HRR := Lib.hid HR.out.drew
        clear HR
        obtain ⟨HR, -⟩ : Hid (Reg w0.heap.size w0 w0.heap.size G (inV x (.slice so 0 scap)) 100 [(b, A)] w2.drew) ∧ True := ⟨HRR, trivial⟩
        clear HRR
        go_region_held3 (fun w' => w'.cell? ⟨G, 32, none⟩ = some (.int .i64 (k : Int)))
          (exact (HR.out.cell 32).trans HC32.out)
          (first
            | (go_at_call 33
               refine (sizeS_any k (by omega) _).mono ?_
               rintro e w' ⟨v, rfl, ho, hb⟩
               replace HR := Lib.hid (HR.out.push1 hb rfl ho)
               clear ho hb)
            | (refine step_reg1 rfl (.tmp 27) (.tmp 31) rfl (szM k) HR.out rfl _ rfl (List.mem_cons_self ..) ?_ ?_
               · have := szM_le k; simp only [List.length_append]; omega
               intro v' w' hr
               replace HR := Lib.hid hr
               clear hr)
            | (refine step_reg rfl (.tmp 23) (.tmp 26) rfl x.tx HR.out rfl _ rfl (rd_head HR.out.row x.tx h32 HHD.out) ?_ ?_
               · omega
               intro v' w' hr
               replace HR := Lib.hid hr
               clear hr))
        go_wp2_with fail
        go_meet
        exact Lib.hid HR.out.keep1
      case rest =>
        have HR2 := hcut
        clear hcut HR
        have c33 := (HR2.out.cell 33).trans HC33.out
        have HL2 : Hid ((A ++ x.tx ++ szM k).length ≤ 2200) := by
          have := szM_le k
          show (A ++ x.tx ++ szM k).length ≤ 2200
          simp only [List.length_append]; omega
        have hz0 := szM_le 0
        go_wp2_with fail
        refine (sizeS_any 0 (by omega) _).mono ?_
        rintro e w4 ⟨v, rfl, ho, hb⟩
        have HR3 := Lib.hid (HR2.out.push1 hb rfl ho)
        clear ho hb HR2 c33
        have hl2 := HL2.out
        go_wp2_with (at_builtin; refine wpList_reg rfl (.tmp 33) (.tmp 37) rfl (szM 0) HR3.out rfl _ rfl (List.mem_cons_self ..) (by omega) ?_)
        intro v5 w5 hr5
        have HR5 : Hid (Reg w0.heap.size w0 w0.heap.size G (inV x (.slice so 0 scap)) 100 [(v5, A ++ (x.tx ++ (szM k ++ szM 0)))] w5) := by
          have := hr5.keep1
          show Reg _ _ _ _ _ _ _ _
          simpa only [List.append_assoc] using this
        clear hr5 hl2 HR3 hz0 HL2
        have c33 := (HR5.out.cell 33).trans HC33.out
        go_wp2_with fail
        refine wp_loop_rounds 1 ?_
        rw [rounds_succ]
        go_wp2
        go_roundw
        case rel => exact ⟨j + 1, _, by omega, rfl, by go_num, Lib.hid (by
          have h := HR5.out.led.drop
          have e : szM t.ins.length ++ insB (t.ins.take (j + 1)) = A ++ (x.tx ++ (szM k ++ szM 0)) := by rw [HT.out, HKX.out, ← HA.out]; simp only [List.append_assoc]
          rw [e]; exact h), Lib.hid HR5.out.below⟩
        case measure => simp [intOf]; omega
    · have hj2 : j = t.ins.length := by omega
      have HT : Hid (insB (t.ins.take j) = insB t.ins) := by show insB (t.ins.take j) = _; rw [List.take_of_length_le (by omega)]
      rw [HT.out] at HO
      have hIl := insB_le (xs := t.ins) (fun x hx => by
        obtain ⟨i, hi, rfl⟩ := List.getElem_of_mem hx
        obtain ⟨_, _, _, _, _, _, h32', -⟩ := in_at HI0.out i hi
        exact h32')
      have hsl := szM_le t.ins.length
      obtain ⟨A, hA⟩ : ∃ A, szM t.ins.length ++ insB t.ins = A := ⟨_, rfl⟩
      have hAl : A.length ≤ 2100 := by rw [← hA]; simp only [List.length_append]; omega
      have HA := Lib.hid hA
      rw [hA] at HO
      have HR : Hid (Reg w0.heap.size w0 w0.heap.size G0 #[.slice ai t.ins.length ci, .slice ao t.outs.length co, .int .i64 t.time] 59 [(b, A)] wr) :=
        ⟨HB.out, (HB.out.block G0 hG0).trans HC.out, Led.one rfl HO.out, Nat.le_refl _, by decide, HB.out.size⟩
      have c1 : wr.cell? ⟨G0, 1, none⟩ = some (.slice ao t.outs.length co) := HR.out.cell 1
      clear hA hIl hsl hj2 HT HO HB
      go_wp2_with fail
      refine (sizeS_any t.outs.length (by omega) _).mono ?_
      rintro e w4 ⟨v, rfl, ho, hb⟩
      have HR3 := Lib.hid (HR.out.push1 hb rfl ho)
      clear ho hb HR c1
      have hz0 := szM_le t.outs.length
      go_wp2_with (at_builtin; refine wpList_reg rfl (.tmp 52) (.tmp 56) rfl (szM t.outs.length) HR3.out rfl _ rfl (List.mem_cons_self ..) (by omega) ?_)
      intro v5 w5 hr5
      obtain ⟨A2, hA2⟩ : ∃ A2, A ++ szM t.outs.length = A2 := ⟨_, rfl⟩
      have hA2l : A2.length ≤ 2200 := by rw [← hA2]; simp only [List.length_append]; omega
      rw [hA2] at hr5
      have HA2 := Lib.hid hA2
      have HR5 := Lib.hid hr5.keep1
      clear hr5 HR3 hz0 hA2 hAl
      have c1 : w5.cell? ⟨G0, 1, none⟩ = some (.slice ao t.outs.length co) := HR5.out.cell 1
      go_wp2_with fail
      clear c1
      go_loopw [3, 61] (fun s c wr => ∃ (j : Nat) (b : Value), j ≤ t.outs.length ∧ b = s ∧ c = .int .i64 j ∧ Hid (own wr w0.heap.size 5 1 b (A2 ++ outsM (t.outs.take j)).length ((A2 ++ outsM (t.outs.take j)).map vB)) ∧ Hid (Below w0.heap.size w0 wr)) (fun _ c _ => t.outs.length - (intOf c).toNat)
      case atStart => exact ⟨0, _, by omega, rfl, rfl, Lib.hid (by have := HR5.out.led.drop; simpa [outsM] using this), Lib.hid HR5.out.below⟩
      case round =>
        obtain ⟨j, b, hj, rfl, rfl, HO, HB⟩ := hrel
        by_cases hlt : j < t.outs.length
        · obtain ⟨g, off, so, scap, rfl, -, hlock0, hrow0⟩ := out_at HO0.out j hlt
          have hrow : rowAt wr g (off + j * 2) 2 = some #[.int .i64 t.outs[j].amount, .slice so t.outs[j].lock.length scap] := (rowAt_below HB.out (rowAt_lt hrow0) _ _).trans hrow0
          obtain ⟨_, _, e, l1, l2⟩ := sl_bounds hlock0
          cases e
          unfold maxLen at l2
          have HT := Lib.hid (outsM_take t.outs j hlt)
          have hoo := HOK.out.out _ (List.getElem_mem hlt)
          have hlen := outsM_le (xs := t.outs.take j) (fun o ho => HOK.out.out o (List.mem_of_mem_take ho))
          obtain ⟨o, hoj⟩ : ∃ o, t.outs[j] = o := ⟨_, rfl⟩
          rw [hoj] at hlock0 hrow HT hoo l1
          obtain ⟨lk60, hops⟩ := lockF_ok hoo.lock
          have HOPS := Lib.hid hops
          obtain ⟨A3, hA3⟩ : ∃ A3, A2 ++ outsM (t.outs.take j) = A3 := ⟨_, rfl⟩
          have hA3l : A3.length ≤ 800000 := by rw [← hA3]; simp only [List.length_append]; simp only [List.length_take] at hlen; omega
          have HA3 := Lib.hid hA3
          rw [hA3] at HO
          have ha0 := hoo.a0; have ha1 := hoo.a1
          obtain ⟨k, hk⟩ : ∃ k : Nat, o.amount = (k : Int) := ⟨o.amount.toNat, by omega⟩
          have HKX : Hid (outM o = szM k ++ szM o.lock.length ++ lockM o.lock) := by show outM o = _; unfold outM; rw [hk]; rfl
          rw [hk] at hrow ha1
          obtain ⟨n1, n2, n3⟩ := new_out wr k so o.lock.length scap
          unfold zOut at n1 n2
          have hgl := rowAt_lt hrow
          have HLK := Lib.hid hlock0
          have HR : Hid (Reg w0.heap.size w0 w0.heap.size wr.heap.size #[.int .i64 (k : Int), .slice so o.lock.length scap] 103 [(b, A3)] (wr.alloc (.cells #[.int .i64 (k : Int), .slice so o.lock.length scap] 103))) :=
            ⟨HB.out.alloc HB.out.size _, heap_alloc_new wr _, Led.one rfl (own_alloc HO.out _), Nat.le_refl _, by decide, by have := HB.out.size; simp; omega⟩
          clear hoj hA3 hrow0 hlock0 hlen hoo hk ha0 hops
          go_upto_region 17 with fail
          clear n1 n2 n3 hrow
          change Code.wp _ _ _ _ (wr.alloc (.cells #[.int .i64 (k : Int), .slice so o.lock.length scap] 103))
          obtain ⟨G, hG⟩ : ∃ G, wr.heap.size = G := ⟨_, rfl⟩
          rw [hG] at HR ⊢
          clear hG
          generalize wr.alloc (.cells #[.int .i64 (k : Int), .slice so o.lock.length scap] 103) = w2 at HR ⊢
          go_cut [3] (fun s wx => ∃ bb : Value, bb = s ∧ Hid (Reg w0.heap.size w0 w0.heap.size G #[.int .i64 (k : Int), .slice so o.lock.length scap] 103 [(bb, A3 ++ szM k ++ szM o.lock.length)] wx))
          case first =>
            have HRR := Lib.hid HR.out.drew
            clear HR
            obtain ⟨HR, -⟩ : Hid (Reg w0.heap.size w0 w0.heap.size G #[.int .i64 (k : Int), .slice so o.lock.length scap] 103 [(b, A3)] w2.drew) ∧ True := ⟨HRR, trivial⟩
            clear HRR
            go_region_held3 (fun w' => w'.cell? ⟨G, 0, none⟩ = some (.int .i64 (k : Int)) ∧ w'.cell? ⟨G, 1, none⟩ = some (.slice so o.lock.length scap))
              (exact ⟨HR.out.cell 0, HR.out.cell 1⟩)
              (first
                | (go_at_call 33
                   refine (sizeS_any _ (by omega) _).mono ?_
                   rintro e w' ⟨v, rfl, ho, hb⟩
                   replace HR := Lib.hid (HR.out.push1 hb rfl ho)
                   clear ho hb)
                | (refine step_reg1 rfl (.tmp 65) (.tmp 68) rfl (szM k) HR.out rfl _ rfl (List.mem_cons_self ..) ?_ ?_
                   · have := szM_le k; omega
                   intro v' w' hr
                   replace HR := Lib.hid hr
                   clear hr)
                | (refine step_reg1 rfl (.tmp 69) (.tmp 73) rfl (szM o.lock.length) HR.out rfl _ rfl (List.mem_cons_self ..) ?_ ?_
                   · have := szM_le k; have := szM_le o.lock.length; simp only [List.length_append]; omega
                   intro v' w' hr
                   replace HR := Lib.hid hr
                   clear hr))
            go_wp2_with fail
            go_meet
            exact ⟨_, rfl, Lib.hid HR.out.keep1⟩
          case rest =>
            obtain ⟨bb, rfl, HR2⟩ := hcut
            have c1 : _ = some (Value.slice so o.lock.length scap) := HR2.out.cell 1
            obtain ⟨A4, hA4⟩ : ∃ A4, A3 ++ szM k ++ szM o.lock.length = A4 := ⟨_, rfl⟩
            have hA4l : A4.length ≤ 800100 := by have := szM_le k; have := szM_le o.lock.length; rw [← hA4]; simp only [List.length_append]; omega
            have HA4 := Lib.hid hA4
            rw [hA4] at HR2
            clear hA4 HR
            go_wp2_with fail
            clear c1
            go_loopw [3, 78] (fun s c wr => ∃ (i : Nat) (b : Value), i ≤ o.lock.length ∧ b = s ∧ c = .int .i64 i ∧ Hid (own wr w0.heap.size 5 1 b (A4 ++ lockM (o.lock.take i)).length ((A4 ++ lockM (o.lock.take i)).map vB)) ∧ Hid (Below w0.heap.size w0 wr)) (fun _ c _ => o.lock.length - (intOf c).toNat)
            case atStart => exact ⟨0, _, by omega, rfl, rfl, Lib.hid (by have := HR2.out.led.drop; simpa [lockM] using this), Lib.hid HR2.out.below⟩
            case round =>
              obtain ⟨i, b, hi, rfl, rfl, HO, HB⟩ := hrel
              by_cases hil : i < o.lock.length
              · obtain ⟨g, off, dso, dcap, rfl, -, d1, d2, hdat0, hrow0⟩ := op_at HLK.out i hil
                have hrow := (rowAt_below HB.out (rowAt_lt hrow0) _ _).trans hrow0
                have HT2 := Lib.hid (lockM_take o.lock i hil)
                have hop := HOPS.out _ (List.getElem_mem hil)
                have hlen := lockM_le (os := o.lock.take i) (fun p hp => (HOPS.out p (List.mem_of_mem_take hp)).d)
                obtain ⟨p, hpi⟩ : ∃ p, o.lock[i] = p := ⟨_, rfl⟩
                rw [hpi] at hdat0 hrow HT2 hop d1
                obtain ⟨A5, hA5⟩ : ∃ A5, A4 ++ lockM (o.lock.take i) = A5 := ⟨_, rfl⟩
                have hA5l : A5.length ≤ 830000 := by rw [← hA5]; simp only [List.length_append]; simp only [List.length_take] at hlen; omega
                have HA5 := Lib.hid hA5
                rw [hA5] at HO
                have x0 := hop.op0; have x1 := hop.op1; have x2 := hop.n0; have x3 := hop.n1; have x4 := hop.d
                obtain ⟨q, hq⟩ : ∃ q : Nat, p.op = (q : Int) := ⟨p.op.toNat, by omega⟩
                obtain ⟨r, hr⟩ : ∃ r : Nat, p.n = (r : Int) := ⟨p.n.toNat, by omega⟩
                have HPX : Hid (opM p = szM q ++ szM r ++ packM p.data) := by show opM p = _; unfold opM; rw [hq, hr]; rfl
                rw [hq] at hrow x1
                rw [hr] at hrow x3
                obtain ⟨n1, n2, n3, n5⟩ := new_op wr q r dso p.data.length dcap
                unfold zOp at n1 n2
                have hgl := rowAt_lt hrow
                have HDT := Lib.hid hdat0
                have HR : Hid (Reg w0.heap.size w0 w0.heap.size wr.heap.size #[.int .i64 (q : Int), .int .i64 (r : Int), .slice dso p.data.length dcap] 151 [(b, A5)] (wr.alloc (.cells #[.int .i64 (q : Int), .int .i64 (r : Int), .slice dso p.data.length dcap] 151))) :=
                  ⟨HB.out.alloc HB.out.size _, heap_alloc_new wr _, Led.one rfl (own_alloc HO.out _), Nat.le_refl _, by decide, by have := HB.out.size; simp; omega⟩
                clear hpi hA5 hrow0 hdat0 hlen hop hq hr x0 x2
                go_upto_region 21 with fail
                clear n1 n2 n3 n5 hrow
                change Code.wp _ _ _ _ (wr.alloc (.cells #[.int .i64 (q : Int), .int .i64 (r : Int), .slice dso p.data.length dcap] 151))
                obtain ⟨G2, hG2⟩ : ∃ G2, wr.heap.size = G2 := ⟨_, rfl⟩
                rw [hG2] at HR ⊢
                clear hG2
                generalize wr.alloc (.cells #[.int .i64 (q : Int), .int .i64 (r : Int), .slice dso p.data.length dcap] 151) = w3 at HR ⊢
                have HRR := Lib.hid HR.out.drew
                clear HR
                obtain ⟨HR, -⟩ : Hid (Reg w0.heap.size w0 w0.heap.size G2 #[.int .i64 (q : Int), .int .i64 (r : Int), .slice dso p.data.length dcap] 151 [(b, A5)] w3.drew) ∧ True := ⟨HRR, trivial⟩
                clear HRR
                go_region_held3 (fun w' => w'.cell? ⟨G2, 0, none⟩ = some (.int .i64 (q : Int)) ∧ w'.cell? ⟨G2, 1, none⟩ = some (.int .i64 (r : Int)) ∧ w'.cell? ⟨G2, 2, none⟩ = some (.slice dso p.data.length dcap))
                  (exact ⟨HR.out.cell 0, HR.out.cell 1, HR.out.cell 2⟩)
                  (first
                    | (go_at_call 33
                       refine (sizeS_any _ (by omega) _).mono ?_
                       rintro e w' ⟨v, rfl, ho, hb⟩
                       replace HR := Lib.hid (HR.out.push1 hb rfl ho)
                       clear ho hb)
                    | (go_at_call 120
                       refine (pack_any p.data _ _ (rd_belowB HDT.out HR.out.below (Nat.le_refl _)) (by omega)).mono ?_
                       rintro e w' ⟨v, rfl, ho, hb⟩
                       replace HR := Lib.hid (HR.out.push1 hb rfl ho)
                       clear ho hb)
                    | (refine step_reg1 rfl (.tmp 82) (.tmp 85) rfl (szM q) HR.out rfl _ rfl (List.mem_cons_self ..) ?_ ?_
                       · have := szM_le q; omega
                       intro v' w' hr
                       replace HR := Lib.hid hr
                       clear hr)
                    | (refine step_reg1 rfl (.tmp 86) (.tmp 89) rfl (szM r) HR.out rfl _ rfl (List.mem_cons_self ..) ?_ ?_
                       · have := szM_le q; have := szM_le r; simp only [List.length_append]; omega
                       intro v' w' hr
                       replace HR := Lib.hid hr
                       clear hr)
                    | (refine step_reg1 rfl (.tmp 90) (.tmp 93) rfl (packM p.data) HR.out rfl _ rfl (List.mem_cons_self ..) ?_ ?_
                       · have := szM_le q; have := szM_le r; have := packM_le x4; simp only [List.length_append]; omega
                       intro v' w' hr
                       replace HR := Lib.hid hr
                       clear hr))
                go_wp2
                go_roundw
                case rel => exact ⟨i + 1, _, by omega, rfl, by go_num, Lib.hid (by
                  have h := HR.out.led.drop
                  have e : A4 ++ lockM (o.lock.take (i + 1)) = A5 ++ szM q ++ szM r ++ packM p.data := by rw [HT2.out, HPX.out, ← HA5.out]; simp only [List.append_assoc]
                  rw [e]; exact h), Lib.hid HR.out.below⟩
                case measure => simp [intOf]; omega
              · have HL : Hid (lockM (o.lock.take i) = lockM o.lock) := by show lockM (o.lock.take i) = _; rw [List.take_of_length_le (by omega)]
                go_wp2
                go_roundw
                case rel => exact ⟨j + 1, _, by omega, rfl, by go_num, Lib.hid (by
                  have h := HO.out
                  rw [HL.out] at h
                  have e : A2 ++ outsM (t.outs.take (j + 1)) = A4 ++ lockM o.lock := by rw [HT.out, HKX.out, ← HA4.out, ← HA3.out]; simp only [List.append_assoc]
                  rw [e]; exact h), HB⟩
                case measure => simp [intOf]; omega
        · have HL : Hid (outsM (t.outs.take j) = outsM t.outs) := by show outsM (t.outs.take j) = _; rw [List.take_of_length_le (by omega)]
          rw [HL.out] at HO
          have hIl := outsM_le (xs := t.outs) HOK.out.out
          obtain ⟨A3, hA3⟩ : ∃ A3, A2 ++ outsM t.outs = A3 := ⟨_, rfl⟩
          have hA3l : A3.length ≤ 800000 := by rw [← hA3]; simp only [List.length_append]; omega
          have HA3 := Lib.hid hA3
          rw [hA3] at HO
          have HR : Hid (Reg w0.heap.size w0 w0.heap.size G0 #[.slice ai t.ins.length ci, .slice ao t.outs.length co, .int .i64 t.time] 59 [(b, A3)] wr) :=
            ⟨HB.out, (HB.out.block G0 hG0).trans HC.out, Led.one rfl HO.out, Nat.le_refl _, by decide, HB.out.size⟩
          have ht0 := HOK.out.t0; have ht1 := HOK.out.t1
          obtain ⟨k, hk⟩ : ∃ k : Nat, t.time = (k : Int) := ⟨t.time.toNat, by omega⟩
          have c2 : wr.cell? ⟨G0, 2, none⟩ = some (.int .i64 (k : Int)) := (HR.out.cell 2).trans (by rw [hk]; rfl)
          have HF : Hid (bareM t = A3 ++ szM k) := by show bareM t = _; unfold bareM; rw [hk, ← HA3.out, ← HA2.out, ← HA.out]; rfl
          rw [hk] at ht1
          clear hA3 hIl HL HO HB hk ht0
          go_wp2_with fail
          refine (sizeS_any k (by omega) _).mono ?_
          rintro e w6 ⟨v, rfl, ho, hb⟩
          have HR6 := Lib.hid (HR.out.push1 hb rfl ho)
          clear ho hb HR c2
          have hz0 := szM_le k
          go_wp2_with (at_builtin; refine wpList_reg rfl (.tmp 97) (.tmp 100) rfl (szM k) HR6.out rfl _ rfl (List.mem_cons_self ..) (by omega) ?_)
          intro v7 w7 hr7
          have HR7 := Lib.hid hr7.keep1
          clear hr7
          go_wp2
          go_ret
          exact ⟨_, rfl, by rw [HF.out]; exact own_base HR7.out.led.drop (by have := B0.out.size; omega), B0.out.trans (HR7.out.below.mono (by have := B0.out.size; omega))⟩
end Go.Proofs.YtljcdkfafknnpaaGreatDoor
namespace Go.Proofs.YtljcdkfafknnpaaGreatDoor
set_option linter.unusedVariables false
set_option linter.unusedSimpArgs false
open Go.RowKit
theorem own_setN {w : World} {base : Nat} {e : TypeId} {sz g off n cap : Nat} {xs : List Value} (h : own w base e sz (.slice (some ⟨g, off, none⟩) n cap) n xs) (j : Nat) (hj : j < n * sz) (u : Value) :
    own (w.setCell ⟨g, off + j, none⟩ u) base e sz (.slice (some ⟨g, off, none⟩) n cap) n (xs.set j u) := by
  obtain ⟨hl, ao', cap', hv, h1, h2, h3⟩ := h
  cases hv
  have hle : n * sz ≤ cap * sz := Nat.mul_le_mul_right _ h1
  refine ⟨by rw [List.length_set]; exact hl, _, _, rfl, h1, h2, ?_⟩
  rcases h3 with h3 | ⟨g', off', cur, e2, hb, hg, hs, hx⟩
  · subst h3; omega
  · cases e2
    refine .inr ⟨g, off, cur.setIfInBounds (off + j) u, rfl, hb, heap_setCell_same _ _ _ _ _ _ hg, by simpa using hs, ?_⟩
    simp only [Array.toList_setIfInBounds]
    rw [List.drop_set, if_neg (by omega), List.take_set, hx, show off + j - off = j from by omega]
theorem own_cellN {w : World} {base : Nat} {e : TypeId} {sz g off n cap : Nat} {xs : List Value} (h : own w base e sz (.slice (some ⟨g, off, none⟩) n cap) n xs) (j : Nat) (hj : j < n * sz) :
    w.cell? ⟨g, off + j, none⟩ = xs[j]? ∧ w.frozen? ⟨g, off + j, none⟩ = false ∧ base ≤ g ∧ wrow (.slice (some ⟨g, off, none⟩) n cap) = some g := by
  obtain ⟨hl, ao', cap', hv, h1, h2, h3⟩ := h
  cases hv
  have hle : n * sz ≤ cap * sz := Nat.mul_le_mul_right _ h1
  rcases h3 with h3 | ⟨g', off', cur, e2, hb, hg, hs, hx⟩
  · subst h3; omega
  · cases e2
    refine ⟨?_, frozen_of_row _ _ _ _ _ hg, hb, ?_⟩
    · rw [cell_of_row _ _ _ _ _ _ hg, ← hx, List.getElem?_take, if_pos (by omega), List.getElem?_drop]
      simp
    · simp only [wrow]
      rw [if_neg]
      rintro rfl
      omega
theorem own_ptr {w : World} {base : Nat} {e : TypeId} {sz : Nat} {ao : Option Addr} {n cap : Nat} {xs : List Value} (h : own w base e sz (.slice ao n cap) n xs) (hn : 0 < n) : ∃ g off, ao = some ⟨g, off, none⟩ := by
  obtain ⟨-, _, _, e, h1, h2, h3⟩ := h
  cases e
  rcases h3 with h3 | ⟨g, off, _, rfl, _⟩
  · omega
  · exact ⟨g, off, rfl⟩
theorem rdEach_cons {α : Type} {R : Rd α} {sz : Nat} {w : World} {a : α} {zs : List α} {xs : List Value} (h : rdEach R sz w (a :: zs) xs) : R w a (xs.take sz) ∧ (xs.take sz).length = sz ∧ rdEach R sz w zs (xs.drop sz) := by
  obtain ⟨h1, h2⟩ := h
  simp only [List.length_cons, Nat.add_mul, Nat.one_mul] at h1
  refine ⟨by simpa using h2 0 a rfl, by rw [List.length_take]; omega, by rw [List.length_drop]; omega, fun j b hb => ?_⟩
  have := h2 (j + 1) b (by simpa using hb)
  rw [List.drop_drop, show sz + j * sz = (j + 1) * sz from by rw [Nat.add_mul]; omega]
  exact this
theorem rdEach_cons_mk {α : Type} {R : Rd α} {sz : Nat} {w : World} {a : α} {zs : List α} {cs xs : List Value} (ha : R w a cs) (hl : cs.length = sz) (h : rdEach R sz w zs xs) : rdEach R sz w (a :: zs) (cs ++ xs) := by
  obtain ⟨h1, h2⟩ := h
  refine ⟨by simp [h1, hl, Nat.add_mul]; omega, fun j b hb => ?_⟩
  cases j with
  | zero =>
    have : a = b := by simpa using hb
    subst this
    rw [Nat.zero_mul, List.drop_zero, List.take_append_of_le_length (by omega), List.take_of_length_le (by omega)]
    exact ha
  | succ j =>
    have := h2 j b (by simpa using hb)
    rw [show (j + 1) * sz = cs.length + j * sz from by rw [Nat.add_mul, hl]; omega, ← List.drop_drop, List.drop_left]
    exact this
/-- The cells of ins, each with its slice of keys. -/
def inL (p : InD × Value) : List Value := p.1.tx.map vB ++ [.int .i64 p.1.ix, p.2]
def cellsIn (L : List (InD × Value)) : List Value := (L.map inL).flatten
def goodIn (L : List (InD × Value)) : Prop := ∀ p ∈ L, p.1.tx.length = 32 ∧ ∃ so n cap, p.2 = .slice so n cap
theorem cellsIn_length : ∀ (L : List (InD × Value)), goodIn L → (cellsIn L).length = L.length * 34
  | [], _ => rfl
  | p :: L, h => by
    have h1 := cellsIn_length L (fun q hq => h q (by simp [hq]))
    have h2 := (h p (by simp)).1
    simp only [cellsIn, List.map_cons, List.flatten_cons, List.length_append, inL, List.length_map, List.length_cons, List.length_nil] at h1 ⊢
    omega
theorem ins_cells {w : World} : ∀ (zs : List InD) (xs : List Value), rdEach inR 34 w zs xs → ∃ L, L.map Prod.fst = zs ∧ xs = cellsIn L ∧ goodIn L
  | [], xs, h => ⟨[], rfl, by have := h.1; simp at this; subst this; rfl, fun p hp => by cases hp⟩
  | a :: zs, xs, h => by
    obtain ⟨⟨s, h1, h32, hs⟩, h2, h3⟩ := rdEach_cons h
    obtain ⟨so, cap, rfl, -, -⟩ := sl_bounds hs
    obtain ⟨L, e1, e2, e3⟩ := ins_cells zs _ h3
    refine ⟨(a, .slice so a.keys.length cap) :: L, by simp [e1], ?_, fun p hp => ?_⟩
    · have := (List.take_append_drop 34 xs).symm
      rw [this, h1, e2]; rfl
    · rcases List.mem_cons.1 hp with rfl | hp
      · exact ⟨h32, _, _, _, rfl⟩
      · exact e3 p hp
theorem cellsIn_plain (L : List (InD × Value)) (h : goodIn L) : ∀ u ∈ cellsIn L, u.oneCell' = true := by
  intro u hu
  obtain ⟨l, hl, hul⟩ := List.mem_flatten.1 hu
  obtain ⟨p, hp, rfl⟩ := List.mem_map.1 hl
  obtain ⟨h32, so, n, cap, e⟩ := h p hp
  unfold inL at hul
  rw [e] at hul
  rcases List.mem_append.1 hul with h1 | h1
  · exact vB_plain _ u h1
  · simp only [List.mem_cons, List.not_mem_nil, or_false] at h1
    rcases h1 with rfl | rfl <;> rfl
/-- The first j of them without keys. -/
def nilK (j : Nat) (L : List (InD × Value)) : List (InD × Value) := (L.take j).map (fun p => (p.1, .slice none 0 0)) ++ L.drop j
theorem nilK_zero (L : List (InD × Value)) : nilK 0 L = L := by simp [nilK]
theorem nilK_good {j : Nat} {L : List (InD × Value)} (h : goodIn L) : goodIn (nilK j L) := by
  intro p hp
  unfold nilK at hp
  rcases List.mem_append.1 hp with hp | hp
  · obtain ⟨q, hq, rfl⟩ := List.mem_map.1 hp
    exact ⟨(h q (List.mem_of_mem_take hq)).1, _, _, _, rfl⟩
  · exact h p (List.mem_of_mem_drop hp)
theorem nilK_length (j : Nat) (L : List (InD × Value)) : (nilK j L).length = L.length := by simp [nilK]; omega
theorem cells_set : ∀ (L : List (InD × Value)) (j : Nat) (hj : j < L.length) (u : Value), goodIn L → (cellsIn L).set (j * 34 + 33) u = cellsIn (L.set j ((L[j]).1, u)) ∧ (cellsIn L)[j * 34 + 33]? = some (L[j]).2
  | p :: L, 0, _, u, h => by
    have h32 := (h p (by simp)).1
    refine ⟨?_, ?_⟩
    · simp only [cellsIn, List.map_cons, List.flatten_cons, inL, List.set_cons_zero, List.getElem_cons_zero]
      rw [List.set_append_left _ _ (by simp [h32]), List.set_append_right _ _ (by simp [h32])]
      simp [h32]
    · simp only [cellsIn, List.map_cons, List.flatten_cons, inL]
      rw [List.getElem?_append_left (by simp [h32]), List.getElem?_append_right (by simp [h32])]
      simp [h32]
  | p :: L, j + 1, hj, u, h => by
    have h32 := (h p (by simp)).1
    obtain ⟨e1, e2⟩ := cells_set L j (by simpa using hj) u (fun q hq => h q (by simp [hq]))
    have hl : (inL p).length = 34 := by simp [inL, h32]
    refine ⟨?_, ?_⟩
    · have : cellsIn (p :: L) = inL p ++ cellsIn L := by simp [cellsIn]
      rw [this, List.set_append_right _ _ (by omega), show (j + 1) * 34 + 33 - (inL p).length = j * 34 + 33 from by omega, e1]
      simp [cellsIn]
    · have : cellsIn (p :: L) = inL p ++ cellsIn L := by simp [cellsIn]
      rw [this, List.getElem?_append_right (by omega), show (j + 1) * 34 + 33 - (inL p).length = j * 34 + 33 from by omega, e2]
      simp
theorem nilK_step (j : Nat) (L : List (InD × Value)) (hj : j < L.length) : ∃ h : j < (nilK j L).length, (nilK j L).set j (((nilK j L)[j]'h).1, .slice none 0 0) = nilK (j + 1) L := by
  refine ⟨by rw [nilK_length]; exact hj, ?_⟩
  have e : nilK j L = (L.take j).map (fun p => (p.1, Value.slice none 0 0)) ++ L[j] :: L.drop (j + 1) := by
    unfold nilK; rw [List.drop_eq_getElem_cons hj]
  have e2 : ((nilK j L)[j]'(by rw [nilK_length]; exact hj)) = L[j] := by
    simp only [e]
    rw [List.getElem_append_right (by simp; omega)]
    simp [show min j L.length = j from by omega]
  have hz : j - ((L.take j).map (fun p => (p.1, Value.slice none 0 0))).length = 0 := by simp; omega
  rw [e2, e, List.set_append_right _ _ (by simp; omega), hz, List.set_cons_zero]
  unfold nilK
  rw [List.take_succ_eq_append_getElem hj, List.map_append, List.append_assoc]
  rfl
theorem nilK_all {w : World} : ∀ (L : List (InD × Value)), goodIn L → rdEach inR 34 w (L.map fun p => { p.1 with keys := [] }) (cellsIn (L.map fun p => (p.1, .slice none 0 0)))
  | [], _ => rdEach_nil _ _ _
  | p :: L, h => by
    have h32 := (h p (by simp)).1
    have := rdEach_cons_mk (R := inR) (sz := 34) (w := w) (a := { p.1 with keys := [] }) (cs := inL (p.1, .slice none 0 0)) ⟨_, rfl, h32, rdSl_nil _ _ _⟩ (by simp [inL, h32]) (nilK_all L (fun q hq => h q (by simp [hq])))
    simpa [cellsIn] using this
theorem info_in : (Tryz.prog.info? 100).map (fun i => (i.zero, i.size, i.bytes)) = some (some (.agg zIn), 34, 64) := by kernel_rfl
set_option maxHeartbeats 1000000 in
set_option maxRecDepth 100000 in
theorem cloneIn_any (xs : List Value) (ao : Option Addr) (n cap : Nat) (w : World) (h : rd w (.slice ao n cap) n xs) (hl : xs.length = n * 34) (h1 : ∀ u ∈ xs, u.oneCell' = true) (hn : n ≤ 3000) :
    Calls Tryz.prog 83 #[.slice ao n cap] w fun e w' => ∃ v, e = .returned v ∧ own w' w.heap.size 100 34 v n xs ∧ Below w.heap.size w w' := by
  obtain ⟨i0, hi0, hz0, hz1, hz2⟩ := info_parts' info_in
  have h' := h
  obtain ⟨_, _, e, k1, k2, h3⟩ := h'
  cases e
  unfold maxLen at k2
  have HR := Lib.hid h; have HL := Lib.hid hl; have H1 := Lib.hid h1
  cases ao with
  | none =>
    have hb : xs = [] := by
      rcases h3 with h3 | ⟨g, off, h4, -⟩
      · exact h3
      · cases h4
    have hn0 : n = 0 := by rw [hb] at hl; simp at hl; omega
    subst hb
    subst hn0
    clear h h3 HR HL hl h1 H1
    have hq := fun (w : World) => Lib.run_eql_slice_nil (P := Tryz.prog) w 56 100 none 0 cap 0 0 Tryz.underlying56
    go_enter Tryz.func83, Tryz.ntmps83
    go_wp2
    go_ret
    exact ⟨_, rfl, own_nil _ _ _ _, Below.refl _ _⟩
  | some a =>
    clear h h3 hl h1
    have hq := fun (w : World) => Lib.run_eql_slice_nil (P := Tryz.prog) w 56 100 (some a) n cap 0 0 Tryz.underlying56
    have B0 := Lib.hid ((Below.refl w.heap.size w).alloc (Nat.le_refl _) (.cells #[] 100))
    have HR0 := Lib.hid (rd_belowB HR.out B0.out (Nat.le_refl _))
    go_enter Tryz.func83, Tryz.ntmps83
    go_wp2_with (at_builtin; refine wpList_append_rd rfl (.tmp 5) (.tmp 6) 56 rfl 100 i0 (.agg zIn) 34 64 Tryz.underlying56 hi0 hz0 hz1 hz2 rfl (by decide) w.heap.size 0 [] (own_empty _ _ _ _ _) n xs HL.out HR0.out H1.out ?c2 ?c3 ?c4 ?_)
    case c2 => unfold maxLen; omega
    case c3 => omega
    case c4 => exact B0.out.size
    intro v1 w1 ho1 _ hg1
    have B1 := Lib.hid (B0.out.grown hg1 B0.out.size (fun q hq => by cases hq))
    have ho2 : own w1 w.heap.size 100 34 v1 n xs := by simpa using ho1
    have HO := Lib.hid ho2
    clear ho1 ho2 hg1
    go_wp2
    go_ret
    exact ⟨_, rfl, HO.out, B1.out⟩
end Go.Proofs.YtljcdkfafknnpaaGreatDoor
namespace Go.Proofs.YtljcdkfafknnpaaGreatDoor
set_option linter.unusedVariables false
set_option linter.unusedSimpArgs false
open Go.RowKit

theorem ret1 {k : IntKind} {a b : Int} (h : a = b) : Ending.returned (.int k a) = .returned (.int k b) := by rw [h]
/-- math/bits.RotateLeft32 by -k. -/
theorem rotl_any (x : UInt32) (k : Nat) (s : Int) (hk : 0 < k) (hk' : k < 32) (hs : s = -(k : Int)) (w : World) :
    Calls Tryz.prog 133 #[.int .u32 (wv x), .int .i64 s] w fun e w' => e = .returned (.int .u32 (wv (rotr k x))) ∧ w = w' := by
  have hb : bits .and .u64 (IntKind.u64.wrap s) 31 = ((32 - k : Nat) : Int) := by
    subst hs
    rw [IntKind.wrap_u64]
    have : (-(k : Int)) % 18446744073709551616 = ((18446744073709551616 - k : Nat) : Int) := by omega
    rw [this, show (31 : Int) = ((31 : Nat) : Int) from rfl, u64_and_nat _ _ (by omega) (by omega), nat_mask5]
    omega
  clear hs
  obtain ⟨m, hm⟩ : ∃ m, 32 - k = m := ⟨_, rfl⟩
  have hmk : k = 32 - m := by omega
  have hm1 : 0 < m := by omega
  have hm2 : m < 32 := by omega
  have e1 : wv x * 2 ^ m % 4294967296 = wv (x <<< UInt32.ofNat m) := by
    have e := wv_shl x m hm2
    rw [IntKind.wrap_u32'] at e
    simpa using e
  have e2 : wv x / 2 ^ (32 - m) = wv (x >>> UInt32.ofNat (32 - m)) := by
    have e := wv_shr x (32 - m) (by omega)
    simpa using e
  rw [hm] at hb
  have hfin : rotr k x = (x <<< UInt32.ofNat m) ||| (x >>> UInt32.ofNat (32 - m)) := by unfold rotr; rw [← hmk, hm]
  have H1 := Lib.hid e1; clear e1
  have H2 := Lib.hid e2; clear e2
  have Hf := Lib.hid hfin; clear hfin hmk hk hk'
  have Hm := Lib.hid hm; clear hm
  go_enter Tryz.func133, Tryz.ntmps133
  go_wp2
  go_ret
  exact ⟨ret1 (by rw [Hf.out, H1.out, H2.out, wv_or]), rfl⟩

theorem turned_1 (x : UInt32) (w : World) :
    Calls Tryz.prog 134 #[.int .u32 (wv x), .int .i64 6, .int .i64 11, .int .i64 25] w fun e w' => e = .returned (.int .u32 (wv (bs1 x))) ∧ w = w' := by
  have hx := wv_xor
  go_enter Tryz.func134, Tryz.ntmps134
  go_wp2_with fail
  refine (rotl_any x 6 _ (by decide) (by decide) (by decide) _).mono ?_
  rintro e w' ⟨rfl, rfl⟩
  go_wp2_with fail
  refine (rotl_any x 11 _ (by decide) (by decide) (by decide) _).mono ?_
  rintro e w' ⟨rfl, rfl⟩
  go_wp2_with fail
  refine (rotl_any x 25 _ (by decide) (by decide) (by decide) _).mono ?_
  rintro e w' ⟨rfl, rfl⟩
  go_wp2
  go_ret
  exact ⟨rfl, rfl⟩
theorem turned_0 (x : UInt32) (w : World) :
    Calls Tryz.prog 134 #[.int .u32 (wv x), .int .i64 2, .int .i64 13, .int .i64 22] w fun e w' => e = .returned (.int .u32 (wv (bs0 x))) ∧ w = w' := by
  have hx := wv_xor
  go_enter Tryz.func134, Tryz.ntmps134
  go_wp2_with fail
  refine (rotl_any x 2 _ (by decide) (by decide) (by decide) _).mono ?_
  rintro e w' ⟨rfl, rfl⟩
  go_wp2_with fail
  refine (rotl_any x 13 _ (by decide) (by decide) (by decide) _).mono ?_
  rintro e w' ⟨rfl, rfl⟩
  go_wp2_with fail
  refine (rotl_any x 22 _ (by decide) (by decide) (by decide) _).mono ?_
  rintro e w' ⟨rfl, rfl⟩
  go_wp2
  go_ret
  exact ⟨rfl, rfl⟩

/-- A state's cells. -/
def stV (s : St) : Array Value := #[.int .u32 (wv s.a), .int .u32 (wv s.b), .int .u32 (wv s.c), .int .u32 (wv s.d), .int .u32 (wv s.e), .int .u32 (wv s.f), .int .u32 (wv s.g), .int .u32 (wv s.h)]
@[go_sem] theorem stV_size (s : St) : (stV s).size = 8 := nr rfl
@[go_sem] theorem stV_plain (s : St) : plainCells (stV s) = true := nr rfl
theorem begin_any (w : World) : Calls Tryz.prog 110 #[] w fun e w' => e = .returned (.agg (stV St0)) ∧ Below w.heap.size w w' := by
  go_enter Tryz.func110, Tryz.ntmps110
  go_wp2
  refine bodyPost_ret (v := .agg (stV St0)) ?_ rfl ⟨rfl, (Below.refl _ _).alloc (Nat.le_refl _) _⟩
  have h : stV St0 = #[.int .u32 1779033703, .int .u32 3144134277, .int .u32 1013904242, .int .u32 2773480762, .int .u32 1359893119, .int .u32 2600822924, .int .u32 528734635, .int .u32 1541459225] := by
    simp only [stV, St0, show wv 1779033703 = 1779033703 from by decide, show wv 3144134277 = 3144134277 from by decide, show wv 1013904242 = 1013904242 from by decide, show wv 2773480762 = 2773480762 from by decide,
      show wv 1359893119 = 1359893119 from by decide, show wv 2600822924 = 2600822924 from by decide, show wv 528734635 = 528734635 from by decide, show wv 1541459225 = 1541459225 from by decide]
  rw [h]
  simp [results, Tryz.results110, go_sem]
end Go.Proofs.YtljcdkfafknnpaaGreatDoor
namespace Go.Proofs.YtljcdkfafknnpaaGreatDoor
set_option linter.unusedVariables false
set_option linter.unusedSimpArgs false
open Go.RowKit
attribute [local go_sem ↓] run_load_agg run_store_agg

def kV : Array Value := (kTab.map vW).toArray
/-- The table of rounds lies as it was laid. -/
def tabAt (w : World) : Prop := rowAt w 1 0 64 = some kV
/-- 64 words: those of a list, then zeros. -/
def schV (l : List UInt32) : Array Value := ((List.range 64).map fun j => vW (l.getD j 0)).toArray
theorem schV_size (l : List UInt32) : (schV l).size = 64 := by simp [schV]
theorem schV_get (l : List UInt32) (j : Nat) (h : j < 64) : (schV l)[j]? = some (.int .u32 (wv (l.getD j 0))) := by
  simp [schV, List.getElem?_range h, vW]
theorem schV_set (l : List UInt32) (x : UInt32) : (schV l).setIfInBounds l.length (.int .u32 (wv x)) = schV (l ++ [x]) := by
  apply Array.ext
  · simp [schV_size]
  · intro i h1 h2
    simp only [schV_size] at h2
    have e := schV_get (l ++ [x]) i h2
    rw [Array.getElem?_eq_getElem (by rw [schV_size]; exact h2)] at e
    rw [Option.some.inj e, Array.getElem_setIfInBounds (by rw [schV_size]; exact h2)]
    split
    · rename_i hi; subst hi; simp
    · rename_i hi
      have e := schV_get l i h2
      rw [Array.getElem?_eq_getElem (by rw [schV_size]; exact h2)] at e
      rw [Option.some.inj e]
      by_cases hl : i < l.length
      · simp [List.getD_eq_getElem?_getD, List.getElem?_append_left hl]
      · rw [List.getD_eq_getElem?_getD, List.getD_eq_getElem?_getD, List.getElem?_eq_none (by omega), List.getElem?_eq_none (by simp; omega)]

def zstV : Array Value := #[.int .u32 0, .int .u32 0, .int .u32 0, .int .u32 0, .int .u32 0, .int .u32 0, .int .u32 0, .int .u32 0]
def schZ : Array Value := #[.int .u32 0, .int .u32 0, .int .u32 0, .int .u32 0, .int .u32 0, .int .u32 0, .int .u32 0, .int .u32 0, .int .u32 0, .int .u32 0, .int .u32 0, .int .u32 0, .int .u32 0, .int .u32 0, .int .u32 0, .int .u32 0, .int .u32 0, .int .u32 0, .int .u32 0, .int .u32 0, .int .u32 0, .int .u32 0, .int .u32 0, .int .u32 0, .int .u32 0, .int .u32 0, .int .u32 0, .int .u32 0, .int .u32 0, .int .u32 0, .int .u32 0, .int .u32 0, .int .u32 0, .int .u32 0, .int .u32 0, .int .u32 0, .int .u32 0, .int .u32 0, .int .u32 0, .int .u32 0, .int .u32 0, .int .u32 0, .int .u32 0, .int .u32 0, .int .u32 0, .int .u32 0, .int .u32 0, .int .u32 0, .int .u32 0, .int .u32 0, .int .u32 0, .int .u32 0, .int .u32 0, .int .u32 0, .int .u32 0, .int .u32 0, .int .u32 0, .int .u32 0, .int .u32 0, .int .u32 0, .int .u32 0, .int .u32 0, .int .u32 0, .int .u32 0]
theorem schZ_eq : schZ = schV [] := by rfl
/-- The call's own blocks: the state that came, the answer's, the words. -/
structure BlkI (w : World) (s : St) (l : List UInt32) (wr : World) : Prop where
  below : Below w.heap.size w wr
  s0 : wr.heap[w.heap.size]? = some (.cells (stV s) 173 (0, 0))
  r0 : wr.heap[w.heap.size + 1]? = some (.cells zstV 173 (0, 0))
  w0 : wr.heap[w.heap.size + 2]? = some (.cells (schV l) 205 (0, 0))
theorem BlkI.set {w : World} {s : St} {l : List UInt32} {wr : World} (h : BlkI w s l wr) (x : UInt32) : BlkI w s (l ++ [x]) (wr.setCell ⟨w.heap.size + 2, l.length, none⟩ (.int .u32 (wv x))) :=
  ⟨h.below.setCell (by simp) _, by rw [Below.heap_setCell _ _ _ _ (by simp)]; exact h.s0, by rw [Below.heap_setCell _ _ _ _ (by simp)]; exact h.r0,
    by rw [heap_setCell_same _ _ _ _ _ _ h.w0, schV_set]⟩

theorem blkI_start (w : World) (s : St) (b : List UInt8) : BlkI w s (sch b 0) (((w.alloc (.cells (stV s) 173)).alloc (.cells zstV 173)).alloc (.cells schZ 205)) := by
  rw [sch_zero]
  refine ⟨(((Below.refl _ _).alloc (Nat.le_refl _) _).alloc (by simp) _).alloc (by simp; omega) _, ?_, ?_, ?_⟩
  · rw [Below.heap_alloc _ _ _ (by simp; omega), Below.heap_alloc _ _ _ (by simp)]; exact heap_alloc_new _ _
  · rw [Below.heap_alloc _ _ _ (by simp)]; have := heap_alloc_new (w.alloc (.cells (stV s) 173)) (.cells zstV 173); simpa using this
  · have := heap_alloc_new ((w.alloc (.cells (stV s) 173)).alloc (.cells zstV 173)) (.cells schZ 205); rw [← schZ_eq]; simpa using this

theorem BlkI.drew {w : World} {s : St} {l : List UInt32} {wr : World} (h : BlkI w s l wr) : BlkI w s l wr.drew := ⟨h.below.drew, h.s0, h.r0, h.w0⟩
theorem BlkI.drewN {w : World} {s : St} {l : List UInt32} {wr : World} (h : BlkI w s l wr) (n : Nat) : BlkI w s l (wr.drewN n) := ⟨below_drewN h.below n, h.s0, h.r0, h.w0⟩
theorem BlkI.next {w : World} {s : St} {l l' : List UInt32} {wr : World} (h : BlkI w s l wr) {k : Nat} (hk : l.length = k) {E : Int} {x : UInt32} (hE : E = wv x) (hl : l' = l ++ [x]) :
    BlkI w s l' (wr.setCell ⟨w.heap.size + 1 + 1, k, none⟩ (.int .u32 E)) := by
  subst hk; subst hE; subst hl; exact h.set x
theorem word_val (x y z t : UInt8) : bits .or .u32 (bits .or .u32 (bits .or .u32 (bv x % 4294967296 * 16777216 % 4294967296) (bv y % 4294967296 * 65536 % 4294967296)) (bv z % 4294967296 * 256 % 4294967296)) (bv t % 4294967296) =
    wv ((((x.toUInt32 <<< 24) ||| (y.toUInt32 <<< 16)) ||| (z.toUInt32 <<< 8)) ||| t.toUInt32) := by
  have hm : ∀ b : UInt8, bv b % 4294967296 = wv b.toUInt32 := fun b => by
    have h1 := bv_nonneg b; have h2 := bv_lt b
    rw [← wv_byte]; omega
  have hs : ∀ (b : UInt32) (k : Nat), k < 32 → wv b * (2 ^ k : Nat) % 4294967296 = wv (b <<< UInt32.ofNat k) := fun b k hk => by
    rw [← wv_shl b k hk, IntKind.wrap_u32']
  have e1 := hs x.toUInt32 24 (by decide)
  have e2 := hs y.toUInt32 16 (by decide)
  have e3 := hs z.toUInt32 8 (by decide)
  rw [hm, hm, hm, hm]
  rw [show wv x.toUInt32 * 16777216 % 4294967296 = _ from e1, show wv y.toUInt32 * 65536 % 4294967296 = _ from e2, show wv z.toUInt32 * 256 % 4294967296 = _ from e3, wv_or, wv_or, wv_or]
  rfl
theorem wv_add' (a b : UInt32) : (wv a + wv b) % 4294967296 = wv (a + b) := by rw [← wv_add, IntKind.wrap_u32']
theorem wv_shr3 (x : UInt32) : wv x / (8 : Int) = wv (x >>> 3) := by have := wv_shr x 3 (by decide); simpa using this
theorem wv_shr10 (x : UInt32) : wv x / (1024 : Int) = wv (x >>> 10) := by have := wv_shr x 10 (by decide); simpa using this

/-- In the rounds: the working state in a block of its own. -/
structure BlkJ (w : World) (C : Nat) (s : St) (l : List UInt32) (vs : Array Value) (wr : World) : Prop where
  i : BlkI w s l wr
  lt : w.heap.size + 2 < C
  v0 : wr.heap[C]? = some (.cells vs 173 (0, 0))
theorem BlkJ.drew {w : World} {C : Nat} {s : St} {l : List UInt32} {vs : Array Value} {wr : World} (h : BlkJ w C s l vs wr) : BlkJ w C s l vs wr.drew := ⟨h.i.drew, h.lt, h.v0⟩
theorem BlkJ.drewN {w : World} {C : Nat} {s : St} {l : List UInt32} {vs : Array Value} {wr : World} (h : BlkJ w C s l vs wr) (n : Nat) : BlkJ w C s l vs (wr.drewN n) := ⟨h.i.drewN n, h.lt, h.v0⟩
theorem BlkJ.put {w : World} {C : Nat} {s : St} {l : List UInt32} {vs : Array Value} {wr : World} (h : BlkJ w C s l vs wr) (vs' : Array Value) (hs : vs.size = vs'.size) : BlkJ w C s l vs' (putAt wr C 0 vs') := by
  have hl := h.lt
  refine ⟨⟨putAt_below h.i.below (by omega) _ _, ?_, ?_, ?_⟩, h.lt, putAt_heap h.v0 vs' hs⟩
  · rw [putAt_other _ _ _ _ _ (by omega)]; exact h.i.s0
  · rw [putAt_other _ _ _ _ _ (by omega)]; exact h.i.r0
  · rw [putAt_other _ _ _ _ _ (by omega)]; exact h.i.w0
theorem BlkJ.set {w : World} {C : Nat} {s : St} {l : List UInt32} {vs : Array Value} {wr : World} (h : BlkJ w C s l vs wr) (k : Nat) (u : Value) : BlkJ w C s l (vs.setIfInBounds k u) (wr.setCell ⟨C, k, none⟩ u) := by
  have hl := h.lt
  refine ⟨⟨h.i.below.setCell (by simp; omega) _, ?_, ?_, ?_⟩, h.lt, heap_setCell_same _ _ _ _ _ _ h.v0⟩
  · rw [Below.heap_setCell _ _ _ _ (by simp; omega)]; exact h.i.s0
  · rw [Below.heap_setCell _ _ _ _ (by simp; omega)]; exact h.i.r0
  · rw [Below.heap_setCell _ _ _ _ (by simp; omega)]; exact h.i.w0
theorem BlkI.start {w : World} {s : St} {l : List UInt32} {wr : World} (h : BlkI w s l wr) (vs : Array Value) : BlkJ w wr.heap.size s l vs (wr.alloc (.cells vs 173)) := by
  have hl : w.heap.size + 2 < wr.heap.size := (Array.getElem?_eq_some_iff.1 h.w0).1
  refine ⟨⟨h.below.alloc (by omega) _, ?_, ?_, ?_⟩, hl, heap_alloc_new _ _⟩
  · rw [Below.heap_alloc _ _ _ (by omega)]; exact h.s0
  · rw [Below.heap_alloc _ _ _ (by omega)]; exact h.r0
  · rw [Below.heap_alloc _ _ _ (by omega)]; exact h.w0
/-- While the old state is added: the first k words are done. -/
def mixV (v s : St) (k : Nat) : Array Value := ((List.range 8).map fun j => vW (if j < k then stWord v j + stWord s j else stWord v j)).toArray
theorem mixV_size (v s : St) (k : Nat) : (mixV v s k).size = 8 := by simp [mixV]
theorem mixV_zero (v s : St) : mixV v s 0 = stV v := by
  simp [mixV, List.range, List.range.loop, stV, stWord, vW]
theorem mixV_done (v s : St) : mixV v s 8 = stV (stAdd v s) := by
  simp [mixV, List.range, List.range.loop, stV, stWord, vW, stAdd]
theorem mixV_get (v s : St) (k j : Nat) (h : j < 8) : (mixV v s k)[j]? = some (.int .u32 (wv (if j < k then stWord v j + stWord s j else stWord v j))) := by
  simp [mixV, List.getElem?_range h, vW]
theorem mixV_set (v s : St) (k : Nat) : (mixV v s k).setIfInBounds k (.int .u32 (wv (stWord v k + stWord s k))) = mixV v s (k + 1) := by
  apply Array.ext
  · simp [mixV_size]
  · intro i h1 h2
    simp only [mixV_size] at h2
    have e := mixV_get v s (k + 1) i h2
    rw [Array.getElem?_eq_getElem (by rw [mixV_size]; exact h2)] at e
    rw [Option.some.inj e, Array.getElem_setIfInBounds (by rw [mixV_size]; exact h2)]
    split
    · rename_i hi; subst hi; simp
    · rename_i hi
      have e := mixV_get v s k i h2
      rw [Array.getElem?_eq_getElem (by rw [mixV_size]; exact h2)] at e
      rw [Option.some.inj e]
      by_cases hl : i < k
      · simp [hl, show i < k + 1 by omega]
      · simp [hl, show ¬ i < k + 1 by omega]
theorem stV_get (s : St) (j : Nat) (h : j < 8) : (stV s)[j]? = some (.int .u32 (wv (stWord s j))) := by
  rw [← mixV_zero s s, mixV_get s s 0 j h]; simp

theorem kV_get (t : Nat) (h : t < 64) : kV[t]? = some (.int .u32 (wv (kTab.getD t 0))) := by
  have : t < kTab.length := by have : kTab.length = 64 := by decide
                               omega
  simp [kV, List.getD_eq_getElem?_getD, List.getElem?_eq_getElem this, vW]
theorem index_kV (t : Nat) (h : t < 64) (w : World) : (Instr.index 205 (.agg kV) (.int .i64 (t : Int))).run Tryz.prog w = .ok (.int .u32 (wv (kTab.getD t 0))) w := by
  have hk := kV_get t h
  have h1 : (0 : Int) ≤ t := by omega
  have h2 : (t : Int) < 64 := by omega
  simp [Instr.index, go_sem, h1, hk]
  intro h3; omega

set_option maxHeartbeats 2000000 in
set_option maxRecDepth 100000 in
theorem block_any (s : St) (b : List UInt8) (v : Value) (n : Nat) (w : World) (hn : 64 ≤ n) (hl : b.length = n) (hb : rd w v n (b.map vB)) (hT : tabAt w) :
    Calls Tryz.prog 111 #[.agg (stV s), v] w fun e w' => e = .returned (.agg (stV (blockM s b))) ∧ Below w.heap.size w w' := by
  obtain ⟨ao, cap, rfl, h1, h2, h3⟩ := hb
  rcases h3 with h3 | ⟨g, off, rfl, h3⟩
  · exfalso; have h5 : b = [] := List.map_eq_nil_iff.1 h3; subst h5; simp at hl; omega
  have hcell : ∀ j, j < n → w.cell? ⟨g, off + j, none⟩ = some (.int .u8 (bv (b.getD j 0))) := fun j hj => by
    apply h3; simp [List.getD_eq_getElem?_getD, List.getElem?_eq_getElem (show j < b.length by omega), vB]
  have HC := Lib.hid hcell; clear hcell h3 hl
  have HT := Lib.hid hT; clear hT
  unfold maxLen at h2
  go_enter Tryz.func111, Tryz.ntmps111
  go_wp2
  go_loopw [20] (fun i wr => ∃ k : Nat, k ≤ 16 ∧ i = .int .i64 k ∧ BlkI w s (sch b k) wr) (fun i _ => 16 - (intOf i).toNat)
  case atStart => exact ⟨0, by omega, rfl, blkI_start w s b⟩
  case round =>
    obtain ⟨k, hk, rfl, hI⟩ := hrel
    by_cases hlt : k < 16
    · as_aux_lemma =>
        have HI := Lib.hid hI
        have hc : ∀ j, j < n → wr.cell? ⟨g, off + j, none⟩ = some (.int .u8 (bv (b.getD j 0))) := fun j hj => (hI.below.cell (World.block_lt_of_cell? w _ (HC.out j hj))).trans (HC.out j hj)
        have hc0 := hc (4 * k) (by omega)
        have hc1 := hc (4 * k + 1) (by omega)
        have hc2 := hc (4 * k + 2) (by omega)
        have hc3 := hc (4 * k + 3) (by omega)
        have hw : wordAt b k = wordAt b k := rfl
        conv at hw => rhs; unfold wordAt
        have HW := Lib.hid hw; clear hw
        generalize b.getD (4 * k) 0 = y0 at hc0 HW
        generalize b.getD (4 * k + 1) 0 = y1 at hc1 HW
        generalize b.getD (4 * k + 2) 0 = y2 at hc2 HW
        generalize b.getD (4 * k + 3) 0 = y3 at hc3 HW
        have hd : wr.cell? ⟨w.heap.size + 1 + 1, k, none⟩ = some (.int .u32 (wv ((sch b k).getD k 0))) := by
          rw [show w.heap.size + 1 + 1 = w.heap.size + 2 from rfl, cell_of_row _ _ _ _ _ _ hI.w0, schV_get _ _ (by omega)]
        have hf : wr.frozen? ⟨w.heap.size + 1 + 1, k, none⟩ = false := frozen_of_row _ _ _ _ _ hI.w0
        clear hI hc
        go_wp2_with fail
        go_region
        go_wp2
        go_roundw
        case rel => exact ⟨k + 1, by omega, by go_num, (HI.out.next (sch_length b k) ((word_val y0 y1 y2 y3).trans (congrArg wv HW.out.symm)) (sch_low b k hlt)).drew⟩
        case measure => simp [intOf]; omega
    · have hI : BlkI w s (sch b 16) wr := by obtain rfl : k = 16 := by omega
                                             exact hI
      go_wp2
      go_loopw [7] (fun i wr => ∃ m : Nat, m ≤ 48 ∧ i = .int .i64 (m + 16) ∧ BlkI w s (sch b (m + 16)) wr) (fun i _ => 64 - (intOf i).toNat)
      case atStart => exact ⟨0, by omega, rfl, hI⟩
      case round =>
        obtain ⟨m, hm, rfl, hI⟩ := hrel
        by_cases hlt2 : m < 48
        · as_aux_lemma =>
            have HI := Lib.hid hI
            have hc : ∀ j, j < m + 16 → wr.cell? ⟨w.heap.size + 1 + 1, j, none⟩ = some (.int .u32 (wv (wAt b j))) := fun j hj => by
              rw [show w.heap.size + 1 + 1 = w.heap.size + 2 from rfl, cell_of_row _ _ _ _ _ _ hI.w0, schV_get _ _ (by omega), sch_getD_wAt b _ _ hj (by omega)]
            have hc15 := hc (m + 1) (by omega)
            have hc2 := hc (m + 14) (by omega)
            have hc7 := hc (m + 9) (by omega)
            have hc16 := hc m (by omega)
            have hw := wAt_high b (m + 16) (by omega) (by omega)
            rw [show m + 16 - 2 = m + 14 from by omega, show m + 16 - 7 = m + 9 from by omega, show m + 16 - 15 = m + 1 from by omega, show m + 16 - 16 = m from by omega] at hw
            have HW := Lib.hid hw; clear hw
            generalize wAt b (m + 1) = x15 at hc15 HW
            generalize wAt b (m + 14) = x2 at hc2 HW
            generalize wAt b (m + 9) = x7 at hc7 HW
            generalize wAt b m = x16 at hc16 HW
            have hd : wr.cell? ⟨w.heap.size + 1 + 1, m + 16, none⟩ = some (.int .u32 (wv ((sch b (m + 16)).getD (m + 16) 0))) := by
              rw [show w.heap.size + 1 + 1 = w.heap.size + 2 from rfl, cell_of_row _ _ _ _ _ _ hI.w0, schV_get _ _ (by omega)]
            generalize (sch b (m + 16)).getD (m + 16) 0 = z at hd
            have hf : wr.frozen? ⟨w.heap.size + 1 + 1, m + 16, none⟩ = false := frozen_of_row _ _ _ _ _ hI.w0
            have hx := wv_xor
            have ha := wv_add'
            have h3 := wv_shr3
            have h10 := wv_shr10
            clear hI hc
            clear hk hlt
            go_wp2_with fail
            go_quiet (fail)
            go_wp2_with fail
            refine (rotl_any x15 7 _ (by decide) (by decide) (by decide) _).mono ?_
            rintro e w' ⟨rfl, rfl⟩
            go_wp2_with fail
            refine (rotl_any x15 18 _ (by decide) (by decide) (by decide) _).mono ?_
            rintro e w' ⟨rfl, rfl⟩
            go_wp2_with fail
            refine (rotl_any x2 17 _ (by decide) (by decide) (by decide) _).mono ?_
            rintro e w' ⟨rfl, rfl⟩
            go_wp2_with fail
            refine (rotl_any x2 19 _ (by decide) (by decide) (by decide) _).mono ?_
            rintro e w' ⟨rfl, rfl⟩
            go_wp2_with fail
            go_region
            go_wp2
            go_roundw
            case rel => exact ⟨m + 1, by omega, by go_num, (((HI.out.drewN nq).next (sch_length b (m + 16)) (congrArg wv HW.out.symm) (by rw [show m + 1 + 16 = (m + 16) + 1 from by omega]; exact sch_wAt b (m + 16) (by omega))).drew)⟩
            case measure => simp [intOf]; omega
        · have hI : BlkI w s (sch b 64) wr := by obtain rfl : m = 48 := by omega
                                                 exact hI
          clear hm
          have HI := Lib.hid hI
          have ht : rowAt wr 1 0 64 = some kV := (rowAt_below hI.below (rowAt_lt HT.out) 0 64).trans HT.out
          have hg0 : 1 < wr.heap.size := rowAt_lt ht
          have hs0 : rowAt wr w.heap.size 0 8 = some (stV s) := rowAt_whole hI.s0 8 rfl
          have hlt : w.heap.size < wr.heap.size := rowAt_lt hs0
          clear hI
          go_wp2
          obtain ⟨w2, rfl⟩ : ∃ w2 : World, w2 = wr := ⟨_, rfl⟩
          clear ht hs0 hg0
          go_loopw [104] (fun i wq => ∃ t : Nat, t ≤ 64 ∧ i = .int .i64 t ∧ BlkJ w w2.heap.size s (sch b 64) (stV (rnds s b t)) wq) (fun i _ => 64 - (intOf i).toNat)
          case atStart => exact ⟨0, by omega, rfl, by rw [rnds_zero]; exact HI.out.start (stV s)⟩
          case round =>
            obtain ⟨t, ht64, rfl, hJ⟩ := hrel
            by_cases hlt3 : t < 64
            · have HJ := Lib.hid hJ
              have hw : wr.cell? ⟨w.heap.size + 1 + 1, t, none⟩ = some (.int .u32 (wv (wAt b t))) := by
                rw [show w.heap.size + 1 + 1 = w.heap.size + 2 from rfl, cell_of_row _ _ _ _ _ _ hJ.i.w0, schV_get _ _ hlt3, sch_getD_wAt b _ _ hlt3 (by omega)]
              have hix := fun wz => index_kV t hlt3 wz
              have HR := Lib.hid (rnds_succ s b t)
              have hv : ∀ j, j < 8 → wr.cell? ⟨w2.heap.size, j, none⟩ = some (.int .u32 (wv (stWord (rnds s b t) j))) := fun j hj => by
                rw [cell_of_row _ _ _ _ _ _ hJ.v0, stV_get _ j hj]
              have hv0 : wr.cell? ⟨w2.heap.size, 0, none⟩ = some (.int .u32 (wv (rnds s b t).a)) := hv 0 (by omega)
              have hv1 : wr.cell? ⟨w2.heap.size, 1, none⟩ = some (.int .u32 (wv (rnds s b t).b)) := hv 1 (by omega)
              have hv2 : wr.cell? ⟨w2.heap.size, 2, none⟩ = some (.int .u32 (wv (rnds s b t).c)) := hv 2 (by omega)
              have hv3 : wr.cell? ⟨w2.heap.size, 3, none⟩ = some (.int .u32 (wv (rnds s b t).d)) := hv 3 (by omega)
              have hv4 : wr.cell? ⟨w2.heap.size, 4, none⟩ = some (.int .u32 (wv (rnds s b t).e)) := hv 4 (by omega)
              have hv5 : wr.cell? ⟨w2.heap.size, 5, none⟩ = some (.int .u32 (wv (rnds s b t).f)) := hv 5 (by omega)
              have hv6 : wr.cell? ⟨w2.heap.size, 6, none⟩ = some (.int .u32 (wv (rnds s b t).g)) := hv 6 (by omega)
              have hv7 : wr.cell? ⟨w2.heap.size, 7, none⟩ = some (.int .u32 (wv (rnds s b t).h)) := hv 7 (by omega)
              have hrow : (rowAt wr w2.heap.size 0 8).isSome = true := by rw [rowAt_whole hJ.v0 8 (stV_size _).symm]; rfl
              have hwr : wrAt wr w2.heap.size = true := wrAt_of_heap hJ.v0
              generalize rnds s b t = V at *
              generalize wAt b t = x at *
              generalize kTab.getD t 0 = kt at *
              clear hJ hv
              have hx := wv_xor
              have ha := wv_add'
              have hn' := wv_not
              have hmx : IntKind.u32.max = 4294967295 := by decide
              have hsg : IntKind.u32.signed = false := rfl
              have hand := wv_and
              clear hI hlt
              go_wp2_with fail
              go_quiet (fail)
              go_wp2_with fail
              go_quiet ((go_at_call 134; first | exact quiet_add (turned_1 V.e _) | exact quiet_left (turned_1 V.e _)))
              go_wp2_with fail
              go_quiet ((go_at_call 134; first | exact quiet_add (turned_0 V.a _) | exact quiet_left (turned_0 V.a _)))
              go_wp2
              go_roundw
              case rel => exact ⟨t + 1, by omega, by go_num, by rw [HR.out]; exact (HJ.out.put (stV (rnd V kt x)) ((stV_size _).trans (stV_size _).symm)).drewN _⟩
              case measure => simp [intOf]; omega
            · have hJ : BlkJ w w2.heap.size s (sch b 64) (mixV (rnds s b 64) s 0) wr := by
                obtain rfl : t = 64 := by omega
                rw [mixV_zero]; exact hJ
              clear ht64
              have HJ := Lib.hid hJ; clear hJ
              have HE := Lib.hid (blockM_eq s b)
              generalize rnds s b 64 = V at *
              go_wp2
              obtain ⟨w3, rfl⟩ : ∃ w3 : World, w3 = wr := ⟨_, rfl⟩
              go_loopw [171] (fun i wq => ∃ k : Nat, k ≤ 8 ∧ i = .int .i64 k ∧ BlkJ w w2.heap.size s (sch b 64) (mixV V s k) wq) (fun i _ => 8 - (intOf i).toNat)
              case atStart => exact ⟨0, by omega, rfl, HJ.out⟩
              case round =>
                obtain ⟨q, hq8, rfl, hJ⟩ := hrel
                by_cases hlt4 : q < 8
                · as_aux_lemma =>
                    have HK := Lib.hid hJ
                    have hcv : wr.cell? ⟨w2.heap.size, q, none⟩ = some (.int .u32 (wv (stWord V q))) := by
                      rw [cell_of_row _ _ _ _ _ _ hJ.v0, mixV_get _ _ _ _ hlt4, if_neg (by omega)]
                    have hcs : wr.cell? ⟨w.heap.size, q, none⟩ = some (.int .u32 (wv (stWord s q))) := by
                      rw [cell_of_row _ _ _ _ _ _ hJ.i.s0, stV_get _ _ hlt4]
                    have hf : wr.frozen? ⟨w2.heap.size, q, none⟩ = false := frozen_of_row _ _ _ _ _ hJ.v0
                    have HM := Lib.hid (mixV_set V s q)
                    have ha := wv_add'
                    generalize stWord V q = x1 at *
                    generalize stWord s q = x2 at *
                    clear hJ
                    go_wp2_with fail
                    go_region
                    go_wp2
                    go_roundw
                    case rel => exact ⟨q + 1, by omega, by go_num, by rw [← HM.out]; exact (HK.out.set q _).drew⟩
                    case measure => simp [intOf]; omega
                · have hJ : BlkJ w w2.heap.size s (sch b 64) (stV (blockM s b)) wr := by
                    obtain rfl : q = 8 := by omega
                    rw [HE.out, ← mixV_done]; exact hJ
                  have hr : rowAt wr w2.heap.size 0 8 = some (stV (blockM s b)) := rowAt_whole hJ.v0 8 (stV_size _).symm
                  have hr1 : (rowAt wr (w.heap.size + 1) 0 8).isSome = true := by rw [rowAt_whole hJ.i.r0 8 rfl]; rfl
                  have hr2 : wrAt wr (w.heap.size + 1) = true := wrAt_of_heap hJ.i.r0
                  have HJ2 := Lib.hid hJ; clear hJ
                  clear hq8
                  go_wp2
                  refine bodyPost_ret (v := .agg (stV (blockM s b))) (results_cell_at rfl _ _ (w.heap.size + 1) 0 _ rfl agg_state ?_) rfl ⟨rfl, ?_⟩
                  · rw [cells_state]; exact rowAt_put_same HJ2.out.i.r0 (stV (blockM s b)) (stV_size (blockM s b)).symm 8 (stV_size (blockM s b)).symm
                  · exact putAt_below HJ2.out.i.below (by omega) _ _
end Go.Proofs.YtljcdkfafknnpaaGreatDoor
namespace Go.Proofs.YtljcdkfafknnpaaGreatDoor
set_option linter.unusedVariables false
set_option linter.unusedSimpArgs false
open Go.RowKit
attribute [local go_sem ↓] run_load_agg run_store_agg

/-- A Hasher's cells. -/
def hasV (s : St) (v : Value) (n : Nat) : Array Value := #[.int .u32 (wv s.a), .int .u32 (wv s.b), .int .u32 (wv s.c), .int .u32 (wv s.d), .int .u32 (wv s.e), .int .u32 (wv s.f), .int .u32 (wv s.g), .int .u32 (wv s.h), v, .int .i64 n]
theorem hasV_size (s : St) (v : Value) (n : Nat) : (hasV s v n).size = 10 := by simp [hasV]
theorem hasV_st (s : St) (v : Value) (n : Nat) : (hasV s v n).extract 0 8 = stV s := by simp [hasV, stV]
theorem hasV_splice (s s' : St) (v : Value) (n : Nat) : spliceAt (hasV s v n) 0 (stV s') = hasV s' v n := by simp [spliceAt, hasV, stV]
/-- The Hasher at block g has taken these bytes; what it made lies from block base on. -/
structure HasI (w : World) (base g : Nat) (l : List UInt8) (v : Value) : Prop where
  blk : w.heap[g]? = some (.cells (hasV (blocksM St0 l (l.length / 64)) v l.length) 176 (0, 0))
  rest : own w base 5 1 v (l.length % 64) ((l.drop (64 * (l.length / 64))).map vB)
  ge : base ≤ g

theorem new_any (w : World) : Calls Tryz.prog 73 #[] w fun e w' => ∃ g, e = .returned (.pointer (some ⟨g, 0, none⟩)) ∧ HasI w' w.heap.size g [] (.slice none 0 0) ∧ Below w.heap.size w w' := by
  go_enter Tryz.func73, Tryz.ntmps73
  go_wp2_with fail
  refine (begin_any _).mono ?_
  rintro e w' ⟨rfl, hb⟩
  simp only [stV]
  go_wp2
  go_ret
  refine ⟨w'.heap.size, rfl, ⟨?_, own_nil _ _ _ _, hb.size⟩, hb.alloc hb.size _⟩
  rw [show ([] : List UInt8).length / 64 = 0 from rfl, blocksM_zero]
  exact heap_alloc_new w' _

theorem blocks_app (l b : List UInt8) (i : Nat) : blocksM St0 (l ++ b) (l.length / 64 + i) = blocksM (blocksM St0 l (l.length / 64)) (l.drop (64 * (l.length / 64)) ++ b) i := by
  rw [blocksM_add]
  have h1 : blocksM St0 (l ++ b) (l.length / 64) = blocksM St0 l (l.length / 64) := blocksM_congr _ (fun j hj => by
    have : j < l.length := by omega
    simp [List.getD_eq_getElem?_getD, List.getElem?_append_left this]) _
  rw [h1, List.drop_append_of_le_length (by omega)]
theorem block_lit (s : St) (b : List UInt8) (v : Value) (n : Nat) (w : World) (hn : 64 ≤ n) (hl : b.length = n) (hb : rd w v n (b.map vB)) (hT : tabAt w) :
    Calls Tryz.prog 111 #[.agg #[.int .u32 (wv s.a), .int .u32 (wv s.b), .int .u32 (wv s.c), .int .u32 (wv s.d), .int .u32 (wv s.e), .int .u32 (wv s.f), .int .u32 (wv s.g), .int .u32 (wv s.h)], v] w fun e w' =>
      e = .returned (.agg (stV (blockM s b))) ∧ Below w.heap.size w w' := block_any s b v n w hn hl hb hT
/-- In the loop of Write: i blocks of m are done. -/
structure WrI (w : World) (base g : Nat) (st : St) (m : List UInt8) (N i : Nat) (wr : World) : Prop where
  le : 64 * i ≤ m.length
  blk : ∃ v, wr.heap[g]? = some (.cells (hasV (blocksM st m i) v N) 176 (0, 0)) ∧ own wr base 5 1 v (m.length - 64 * i) ((m.drop (64 * i)).map vB)
  below : Below base w wr

theorem wrI_start {w w1 : World} {base g : Nat} {st : St} {r v1 : Value} {L N : Nat} {m : List UInt8} {row : Option Nat} (hblk : w.heap[g]? = some (.cells (hasV st r L) 176 (0, 0))) (hge : base ≤ g) (hw : base ≤ w.heap.size)
    (hg : (w.setCell ⟨g, 9, none⟩ (.int .i64 N)).grownBy w1 row) (hrow : ∀ k, row = some k → base ≤ k ∧ k ≠ g) (ho : own w1 base 5 1 v1 m.length (m.map vB)) :
    w1.heap[g]? = some (.cells (hasV st r N) 176 (0, 0)) ∧ WrI w base g st m N 0 (w1.setCell ⟨g, 8, none⟩ v1) := by
  have hgl := (Array.getElem?_eq_some_iff.1 hblk).1
  have e1 : w1.heap[g]? = some (.cells (hasV st r N) 176 (0, 0)) := by
    rw [hg.block g (by simpa using hgl) (fun e => (hrow g e.symm).2 rfl), heap_setCell_same _ _ _ _ _ _ hblk]
    simp [hasV]
  refine ⟨e1, ⟨by omega, ⟨v1, ?_, ?_⟩, ?_⟩⟩
  · rw [heap_setCell_same _ _ _ _ _ _ e1, blocksM_zero]; simp [hasV]
  · have h2 := own_setCell ho ⟨g, 8, none⟩ v1 (own_ne ho e1 (by decide))
    simpa using h2
  · have hb : Below base w (w.setCell ⟨g, 9, none⟩ (.int .i64 N)) := (Below.refl _ _).setCell hge _
    exact (hb.grown hg (by simpa using hw) (fun k hk => (hrow k hk).1)).setCell hge _
set_option maxHeartbeats 1000000 in
set_option maxRecDepth 100000 in
theorem write_any (base g : Nat) (l b : List UInt8) (r v : Value) (n : Nat) (w : World) (hH : HasI w base g l r) (hb : rd w v n (b.map vB)) (hl : b.length = n) (hlen : l.length + n ≤ 140737488353000) (hT : tabAt w) (hg : 1 < base) (hw : base ≤ w.heap.size) :
    Calls Tryz.prog 74 #[.pointer (some ⟨g, 0, none⟩), v] w fun e w' => e = .returned (.tuple #[]) ∧ (∃ r', HasI w' base g (l ++ b) r') ∧ Below base w w' := by
  obtain ⟨hblk, hrest, hge⟩ := hH
  have hgl := (Array.getElem?_eq_some_iff.1 hblk).1
  have hne := own_ne hrest hblk (by decide)
  have hb' := hb
  obtain ⟨ao, cap, rfl, k1, k2, -⟩ := hb'
  have hr' := hrest
  obtain ⟨-, ro, rc, rfl, r1, r2, -⟩ := hr'
  have c8 : w.cell? ⟨g, 8, none⟩ = some (.slice ro (l.length % 64) rc) := by rw [cell_of_row _ _ _ _ _ _ hblk]; rfl
  have c9 : w.cell? ⟨g, 9, none⟩ = some (.int .i64 l.length) := by rw [cell_of_row _ _ _ _ _ _ hblk]; rfl
  have f8 : w.frozen? ⟨g, 8, none⟩ = false := frozen_of_row _ _ _ _ _ hblk
  have f9 : w.frozen? ⟨g, 9, none⟩ = false := frozen_of_row _ _ _ _ _ hblk
  generalize hst : blocksM St0 l (l.length / 64) = st at hblk
  have Hst := Lib.hid hst; clear hst
  have HB := Lib.hid hblk; have HR := Lib.hid hrest; have HV := Lib.hid hb; have HN := Lib.hid hne; have HT := Lib.hid hT; have HL := Lib.hid hl
  clear hblk hrest hb hne hT hl
  unfold maxLen at k2 r2
  go_enter Tryz.func74, Tryz.ntmps74
  obtain ⟨i0, hi0, hz0, hz1, hz2⟩ := info_parts info_u8
  go_wp2_with (at_builtin; refine wpList_append_rd rfl (.tmp 17) (.tmp 18) 26 rfl 5 i0 (.int .u8 0) 1 1 Tryz.underlying26 hi0 hz0 hz1 hz2 rfl (by decide) base (l.length % 64) _ (own_setCell HR.out ⟨g, 9, none⟩ _ HN.out) n (b.map vB) ?c1 (rd_setCell_ne HV.out _ c9 (vB_ne b (by intro n; simp))) (vB_plain b) ?c2 ?c3 ?c4 ?_)
  case c1 => simp [HL.out]
  case c2 => unfold maxLen; omega
  case c3 => omega
  case c4 => simpa using hw
  intro v1 w1 ho1 _ hg1
  have hlm : (l.drop (64 * (l.length / 64)) ++ b).length = l.length % 64 + n := by simp [HL.out]; omega
  have hS := wrI_start (N := l.length + n) (m := l.drop (64 * (l.length / 64)) ++ b) HB.out hge hw (by simpa using hg1) (fun k hk => ⟨(own_lt HR.out hk).1, fun e => HN.out (by rw [← e]; exact hk)⟩) (by rw [hlm]; simpa using ho1)
  have ho1' := ho1
  obtain ⟨-, o1, q1, rfl, -, -, -⟩ := ho1'
  have d8 : w1.cell? ⟨g, 8, none⟩ = some (.slice ro (l.length % 64) rc) := by rw [cell_of_row _ _ _ _ _ _ hS.1]; rfl
  have e8 : w1.frozen? ⟨g, 8, none⟩ = false := frozen_of_row _ _ _ _ _ hS.1
  have HS := Lib.hid hS.2
  have HM := Lib.hid hlm
  generalize hm : l.drop (64 * (l.length / 64)) ++ b = m at HS HM
  have Hm := Lib.hid hm; clear hm
  clear hS ho1 hg1 c8 c9 f8 f9 hlm
  go_wp2_with fail
  go_loopg [] (m.length / 64) (fun k wr => ∃ i : Nat, i + k = m.length / 64 ∧ WrI w base g st m (l.length + n) i wr)
  case atStart => exact ⟨0, by omega, HS.out⟩
  case round =>
    obtain ⟨i, hik, hle, ⟨v, hb, ho⟩, hbel⟩ := hrel
    obtain ⟨nn, hnn⟩ : ∃ nn, m.length - 64 * i = nn := ⟨_, rfl⟩
    rw [hnn] at ho
    have ho' := ho
    obtain ⟨-, a2, cap2, rfl, p1, p2, -⟩ := ho'
    unfold maxLen at p2
    have c8 : wr.cell? ⟨g, 8, none⟩ = some (.slice a2 nn cap2) := by rw [cell_of_row _ _ _ _ _ _ hb]; rfl
    have hgl2 := (Array.getElem?_eq_some_iff.1 hb).1
    by_cases hlt : 64 ≤ nn
    · have hcs : ∀ j, j < 8 → wr.cell? ⟨g, j, none⟩ = some (.int .u32 (wv (stWord (blocksM st m i) j))) := fun j hj => by
        have h8 : rowAt wr g 0 8 = some (stV (blocksM st m i)) := by rw [rowAt_of_heap hb 0 8 (by rw [hasV_size]; omega)]; rfl
        have := cell_of_rowAt h8 j hj
        rw [Nat.zero_add] at this
        rw [this, stV_get _ j hj]
      have HO := Lib.hid ho
      have HB2 := Lib.hid hb
      have HN2 := Lib.hid hnn
      have HT2 : Hid (tabAt wr) := (rowAt_below hbel hg 0 64).trans HT.out
      obtain ⟨S, hS⟩ : ∃ S, blocksM st m i = S := ⟨_, rfl⟩
      rw [hS] at hcs
      have HS2 := Lib.hid hS; clear hS
      have d0 : wr.cell? ⟨g, 0, none⟩ = some (.int .u32 (wv S.a)) := hcs 0 (by omega)
      have d1 : wr.cell? ⟨g, 1, none⟩ = some (.int .u32 (wv S.b)) := hcs 1 (by omega)
      have d2 : wr.cell? ⟨g, 2, none⟩ = some (.int .u32 (wv S.c)) := hcs 2 (by omega)
      have d3 : wr.cell? ⟨g, 3, none⟩ = some (.int .u32 (wv S.d)) := hcs 3 (by omega)
      have d4 : wr.cell? ⟨g, 4, none⟩ = some (.int .u32 (wv S.e)) := hcs 4 (by omega)
      have d5 : wr.cell? ⟨g, 5, none⟩ = some (.int .u32 (wv S.f)) := hcs 5 (by omega)
      have d6 : wr.cell? ⟨g, 6, none⟩ = some (.int .u32 (wv S.g)) := hcs 6 (by omega)
      have d7 : wr.cell? ⟨g, 7, none⟩ = some (.int .u32 (wv S.h)) := hcs 7 (by omega)
      have QR : Hid ((rowAt wr.drew g 0 8).isSome = true) := by rw [rowAt_drew, rowAt_of_heap hb 0 8 (by rw [hasV_size]; omega)]; rfl
      have QW : Hid (wrAt wr.drew g = true) := wrAt_of_heap hb
      clear ho hb hnn hcs
      go_wp2_with fail
      go_region_law (go_simp; go_at_call 111; refine (block_lit S (m.drop (64 * i)) _ nn wr.drew hlt (by rw [List.length_drop]; exact HN2.out) (own_rd HO.out) HT2.out).mono ?_; rintro e w' ⟨rfl, hb2⟩; have k0 := (hb2.cell (p := ⟨g, 0, none⟩) hgl2).trans d0; have k1 := (hb2.cell (p := ⟨g, 1, none⟩) hgl2).trans d1; have k2 := (hb2.cell (p := ⟨g, 2, none⟩) hgl2).trans d2; have k3 := (hb2.cell (p := ⟨g, 3, none⟩) hgl2).trans d3; have k4 := (hb2.cell (p := ⟨g, 4, none⟩) hgl2).trans d4; have k5 := (hb2.cell (p := ⟨g, 5, none⟩) hgl2).trans d5; have k6 := (hb2.cell (p := ⟨g, 6, none⟩) hgl2).trans d6; have k7 := (hb2.cell (p := ⟨g, 7, none⟩) hgl2).trans d7; have k8 := (hb2.cell (p := ⟨g, 8, none⟩) hgl2).trans c8; have q1 : (rowAt w' g 0 8).isSome = true := (congrArg Option.isSome (rowAt_below hb2 hgl2 0 8)).trans QR.out; have q2 : wrAt w' g = true := (wrAt_below hb2 hgl2).trans QW.out)
      all_goals
        obtain ⟨W2, hW2⟩ : ∃ W2, W2 = putAt w' g 0 (stV (blockM S (List.drop (64 * i) m))) := ⟨_, rfl⟩
        have hk1 := hb2.block g hgl2
        have hk2 : w'.heap[g]? = some (.cells (hasV S (.slice a2 nn cap2) (l.length + n)) 176 (0, 0)) := by rw [← HS2.out]; exact hk1.trans HB2.out
        have hk3 : W2.heap[g]? = some (.cells (hasV (blockM S (m.drop (64 * i))) (.slice a2 nn cap2) (l.length + n)) 176 (0, 0)) := by
          rw [hW2, putAt_of_heap hk2]
          rw [setRow_heap _ _ _ _ _ _ hk2, hasV_splice]
        have hne2 := own_ne HO.out HB2.out (by decide)
        have hk4 : own W2 base 5 1 (.slice a2 nn cap2) nn ((m.drop (64 * i)).map vB) := own_kept HO.out (fun k hk hk' hk'' => by
          rw [hW2, putAt_other _ _ _ _ _ (fun e => hne2 (by rw [← e]; exact hk))]; exact hb2.block k hk'')
        have hk5 := own_cut hk4 64 hlt
        have hk6 : Below base w W2 := by rw [hW2]; exact putAt_below (hbel.drew.trans (hb2.mono (Nat.le_trans hw hbel.size))) hge _ _
        rw [← hW2]
        have hsl : ∀ w, (Instr.sliceAt 26 (.slice a2 nn cap2) (some (.int .i64 64)) none none).run Tryz.prog w = .ok (.slice (if cap2 = 64 then a2 else a2.map (·.add (64 * 1))) (nn - 64) (cap2 - 64)) w := fun w => run_slice_from (P := Tryz.prog) 26 5 1 Tryz.underlying26 (by rw [hi0]; simp [hz1]) a2 nn cap2 64 hlt w
        have t8 : W2.cell? ⟨g, 8, none⟩ = some (.slice a2 nn cap2) := by rw [cell_of_row _ _ _ _ _ _ hk3]; rfl
        have u8 : W2.frozen? ⟨g, 8, none⟩ = false := frozen_of_row _ _ _ _ _ hk3
        have H3 := Lib.hid hk3; have H5 := Lib.hid hk5; have H6 := Lib.hid hk6
        generalize (if cap2 = 64 then a2 else a2.map (·.add (64 * 1))) = a3 at hsl H5
        clear hk1 hk2 hk3 hk4 hk5 hk6 hne2 hb2 hW2 k0 k1 k2 k3 k4 k5 k6 k7 k8 q1 q2 d0 d1 d2 d3 d4 d5 d6 d7 c8 QR QW
        go_wp2
        go_roundg (gk - 1)
        case rel =>
          have e0 := HN2.out
          refine ⟨i + 1, by omega, by omega, ⟨.slice a3 (nn - 64) (cap2 - 64), ?_, ?_⟩, H6.out.setCell hge _⟩
          · rw [heap_setCell_same _ _ _ _ _ _ H3.out, blocksM_succ, HS2.out]; simp [hasV]
          · have h9 := own_setCell H5.out ⟨g, 8, none⟩ (.slice a3 (nn - 64) (cap2 - 64)) (own_ne H5.out H3.out (by decide))
            have e1 : m.length - 64 * (i + 1) = nn - 64 := by have := HN2.out; omega
            rw [e1, show 64 * (i + 1) = 64 * i + 64 * 1 from by omega, ← List.drop_drop, List.map_drop]
            exact h9
        case measure => have e0 := HN2.out; omega
    · have hfin : HasI wr base g (l ++ b) (.slice a2 nn cap2) := by
        have e1 := HM.out
        have e2 : (l ++ b).length = l.length + n := by rw [List.length_append, HL.out]
        have e3 : (l ++ b).length / 64 = l.length / 64 + i := by omega
        have e4 : (l ++ b).length % 64 = nn := by omega
        have e5 : (l ++ b).drop (64 * ((l ++ b).length / 64)) = m.drop (64 * i) := by
          rw [e3, Nat.mul_add, ← List.drop_drop, List.drop_append_of_le_length (by omega), Hm.out]
        refine ⟨?_, ?_, hge⟩
        · rw [e3, blocks_app, Hm.out, Hst.out, e2]; exact hb
        · rw [e4, e5]; exact ho
      have HF := Lib.hid hfin
      have HB3 := Lib.hid hbel
      clear hfin hb ho hbel hnn
      go_wp2
      go_end0
      exact ⟨rfl, ⟨_, HF.out⟩, HB3.out⟩
end Go.Proofs.YtljcdkfafknnpaaGreatDoor
namespace Go.Proofs.YtljcdkfafknnpaaGreatDoor
set_option linter.unusedVariables false
set_option linter.unusedSimpArgs false
open Go.RowKit
attribute [local go_sem ↓] run_load_agg run_store_agg

/-- In Sum: the digest's block, and all that was. -/
structure SmI (w : World) (wr : World) : Prop where
  below : Below w.heap.size w wr
  d0 : wr.heap[w.heap.size]? = some (.cells (dgV (List.replicate 32 0)) 23 (0, 0))
theorem SmI.grown {w wr w1 : World} (h : SmI w wr) {row : Option Nat} (hg : wr.grownBy w1 row) (hr : ∀ k, row = some k → w.heap.size + 1 ≤ k) : SmI w w1 := by
  have hl := (Array.getElem?_eq_some_iff.1 h.d0).1
  exact ⟨h.below.grown hg (by omega) (fun k hk => by have := hr k hk; omega), by rw [hg.block _ hl (fun e => by have := hr _ e.symm; omega)]; exact h.d0⟩
theorem SmI.alloc {w wr : World} (h : SmI w wr) (o : Obj) : SmI w (wr.alloc o) := by
  have hl := (Array.getElem?_eq_some_iff.1 h.d0).1
  exact ⟨h.below.alloc (by omega) o, by rw [Below.heap_alloc _ _ _ hl]; exact h.d0⟩

theorem SmI.start (w : World) : SmI w (w.alloc (.cells zD 23)) :=
  ⟨(Below.refl _ _).alloc (Nat.le_refl _) _, by rw [← zD_eq]; exact heap_alloc_new w _⟩
theorem len_val (n k : Nat) : (n : Int) * 8 / 2 ^ (8 * (7 - k)) % 256 = bv (lenByte n k) := by
  unfold bv lenByte
  rw [UInt8.toNat_ofNat']
  simp
/-- .. and the working state's block. -/
structure SmJ (w : World) (C : Nat) (x : St) (wr : World) : Prop where
  s : SmI w wr
  lt : w.heap.size < C
  c0 : wr.heap[C]? = some (.cells (stV x) 173 (0, 0))
theorem SmI.start2 {w wr : World} (h : SmI w wr) (x : St) : SmJ w wr.heap.size x (wr.alloc (.cells (stV x) 173)) :=
  ⟨h.alloc _, (Array.getElem?_eq_some_iff.1 h.d0).1, heap_alloc_new _ _⟩
theorem SmJ.step {w wr w1 : World} {C : Nat} {x : St} (h : SmJ w C x wr) (hb : Below wr.heap.size wr w1) (y : St) : SmJ w C y (putAt w1 C 0 (stV y)) := by
  have hl := (Array.getElem?_eq_some_iff.1 h.s.d0).1
  have hc := (Array.getElem?_eq_some_iff.1 h.c0).1
  have hlt := h.lt
  have e : w1.heap[C]? = some (.cells (stV x) 173 (0, 0)) := (hb.block C hc).trans h.c0
  refine ⟨⟨putAt_below (h.s.below.trans (hb.mono (by omega))) (by omega) _ _, ?_⟩, h.lt, putAt_heap e _ ((stV_size _).trans (stV_size _).symm)⟩
  rw [putAt_other _ _ _ _ _ (by omega), hb.block _ hl]
  exact h.s.d0
/-- The first n bytes of a digest, and zeros. -/
def dgP (F : St) (n : Nat) : List UInt8 := (List.range 32).map fun j => if j < n then stByte F j else 0
theorem dgP_length (F : St) (n : Nat) : (dgP F n).length = 32 := by simp [dgP]
theorem dgP_zero (F : St) : dgP F 0 = List.replicate 32 0 := by
  unfold dgP; simp only [Nat.not_lt_zero, if_false]; rfl
theorem dgP_done (F : St) : dgP F 32 = digestM F := by
  unfold dgP digestM; exact List.map_congr_left fun j hj => if_pos (List.mem_range.1 hj)
theorem dgP_set (F : St) (n : Nat) : (dgV (dgP F n)).setIfInBounds n (.int .u8 (bv (stByte F n))) = dgV (dgP F (n + 1)) := by
  apply Array.ext'
  simp only [dgV, dgP, List.map_map, Array.toList_setIfInBounds]
  apply List.ext_getElem
  · simp
  · intro j h1 h2
    simp only [List.getElem_set, List.getElem_map, List.getElem_range, Function.comp]
    by_cases hj : n = j
    · subst hj; simp [vB]
    · rw [if_neg hj]
      by_cases h3 : j < n
      · rw [if_pos h3, if_pos (by omega)]
      · rw [if_neg h3, if_neg (by omega)]
theorem index_stV (F : St) (m : Nat) (h : m < 8) (w : World) : (Instr.index 173 (.agg (stV F)) (.int .i64 (m : Int))).run Tryz.prog w = .ok (.int .u32 (wv (stWord F m))) w := by
  have hk := stV_get F m h
  have h1 : (0 : Int) ≤ m := by omega
  have h2 : (m : Int) < 8 := by omega
  simp [Instr.index, go_sem, h1, hk]
  intro h3; omega
theorem byte_val (F : St) (m k : Nat) (hm : m < 8) (hk : k < 4) : wv (stWord F m) / (2 ^ (24 - 8 * k) : Nat) % 256 = bv (stByte F (4 * m + k)) := by
  unfold stByte
  rw [show (4 * m + k) / 4 = m from by omega, show (4 * m + k) % 4 = k from by omega, ← bv_low, ← wv_shr _ _ (by omega), IntKind.wrap_u8']
structure SmK (w : World) (F : St) (n : Nat) (wr : World) : Prop where
  below : Below w.heap.size w wr
  d0 : wr.heap[w.heap.size]? = some (.cells (dgV (dgP F n)) 23 (0, 0))
theorem SmK.start {w wr : World} (h : SmI w wr) (F : St) : SmK w F 0 wr := ⟨h.below, by rw [dgP_zero]; exact h.d0⟩
theorem SmK.set {w wr : World} {F : St} {n : Nat} (h : SmK w F n wr) : SmK w F (n + 1) (wr.setCell ⟨w.heap.size, n, none⟩ (.int .u8 (bv (stByte F n)))) :=
  ⟨h.below.setCell (Nat.le_refl _) _, by rw [heap_setCell_same _ _ _ _ _ _ h.d0, dgP_set]⟩
theorem SmK.drewN {w wr : World} {F : St} {n : Nat} (h : SmK w F n wr) (k : Nat) : SmK w F n (wr.drewN k) := ⟨below_drewN h.below k, h.d0⟩
/-- How many zeros are still wanted. -/
theorem pad_more (q j : Nat) (hq : q < 64) (h : j < (119 - q) % 64) : (((q + 1 + j : Nat) : Int) % 64 != 56) = true := by
  rw [bne_iff_ne]; omega
theorem pad_done (q j : Nat) (hq : q < 64) (h : j = (119 - q) % 64) : (((q + 1 + j : Nat) : Int) % 64 != 56) = false := by
  rw [bne_eq_false_iff_eq]; omega

set_option maxHeartbeats 1000000 in
set_option maxRecDepth 100000 in
theorem sum_any (base g : Nat) (l : List UInt8) (r : Value) (w : World) (hH : HasI w base g l r) (hlen : l.length ≤ 140737488353000) (hT : tabAt w) :
    Calls Tryz.prog 75 #[.pointer (some ⟨g, 0, none⟩)] w fun e w' => e = .returned (.agg (dgV (shaM l))) ∧ Below w.heap.size w w' := by
  obtain ⟨hblk, hrest, hge⟩ := hH
  have hgl := (Array.getElem?_eq_some_iff.1 hblk).1
  have hr' := hrest
  obtain ⟨-, ro, rc, rfl, r1, r2, -⟩ := hr'
  have c8 : w.cell? ⟨g, 8, none⟩ = some (.slice ro (l.length % 64) rc) := by rw [cell_of_row _ _ _ _ _ _ hblk]; rfl
  generalize hst : blocksM St0 l (l.length / 64) = st at hblk
  have Hst := Lib.hid hst; clear hst
  obtain ⟨R, hR⟩ : ∃ R, l.drop (64 * (l.length / 64)) = R := ⟨_, rfl⟩
  obtain ⟨q, hq⟩ : ∃ q, l.length % 64 = q := ⟨_, rfl⟩
  have hRl : R.length = q := by rw [← hR, ← hq, List.length_drop]; omega
  rw [hR, hq] at hrest
  have HB := Lib.hid hblk; have HR := Lib.hid hrest; have HT := Lib.hid hT; have HR0 := Lib.hid hR; have HRl := Lib.hid hRl
  clear hblk hrest hT hR hRl
  unfold maxLen at r2
  have hq64 : q < 64 := by omega
  rw [hq] at c8 r1
  have HQ := Lib.hid hq; clear hq
  obtain ⟨i0, hi0, hz0, hz1, hz2⟩ := info_parts info_u8
  go_enter Tryz.func75, Tryz.ntmps75
  go_wp2_with (at_builtin; refine wpList_append_rd rfl (.const (.slice none 0 0)) (.tmp 12) 26 rfl 5 i0 (.int .u8 0) 1 1 Tryz.underlying26 hi0 hz0 hz1 hz2 rfl (by decide) (w.heap.size + 1) 0 [] (own_nil _ _ _ _) q (R.map vB) ?c1 (rd_alloc (own_rd HR.out) _) (vB_plain _) ?c2 ?c3 ?c4 ?_)
  case c1 => have := HRl.out; simp [this]
  case c2 => unfold maxLen; omega
  case c3 => omega
  case c4 => simp
  intro v1 w1 ho1 _ hg1
  have ho1 : own w1 (w.heap.size + 1) 5 1 v1 q (R.map vB) := by simpa using ho1
  have HS1 := Lib.hid (SmI.grown (SmI.start w) hg1 (fun k hk => by cases hk))
  clear hg1
  go_wp2_with (at_builtin; refine wpList_append_rd rfl (.tmp 14) (.tmp 15) 26 rfl 5 i0 (.int .u8 0) 1 1 Tryz.underlying26 hi0 hz0 hz1 hz2 rfl (by decide) (w.heap.size + 1) q (R.map vB) (own_alloc ho1 _) 1 [vB 128] ?d1 (rd_new1 _ _ _ _ rfl) (vB_plain [128]) ?d2 ?d3 ?d4 ?_)
  case d1 => rfl
  case d2 => unfold maxLen; omega
  case d3 => omega
  case d4 => have := HS1.out.below.size; have := (Array.getElem?_eq_some_iff.1 HS1.out.d0).1; simp; omega
  intro v2 w2 ho2 _ hg2
  have HS2 := Lib.hid (SmI.grown (HS1.out.alloc _) hg2 (fun k hk => own_rows ho1 k hk))
  have ho2 : own w2 (w.heap.size + 1) 5 1 v2 (q + 1) ((R ++ 128 :: List.replicate 0 0).map vB) := by simpa using ho2
  clear hg2 ho1 HS1
  have HO2 := Lib.hid ho2; clear ho2
  go_wp2_with fail
  go_loopg [3] ((119 - q) % 64) (fun k t wr => ∃ j : Nat, j + k = (119 - q) % 64 ∧ own wr (w.heap.size + 1) 5 1 t (q + 1 + j) ((R ++ 128 :: List.replicate j 0).map vB) ∧ SmI w wr)
  case atStart => exact ⟨0, by omega, HO2.out, HS2.out⟩
  case round =>
    obtain ⟨j, hjk, ho, hS⟩ := hrel
    have ho' := ho
    obtain ⟨-, a3, cap3, rfl, p1, p2, -⟩ := ho'
    unfold maxLen at p2
    have HO := Lib.hid ho; have HSr := Lib.hid hS; clear ho hS
    by_cases hj : j < (119 - q) % 64
    · have hm := pad_more q j hq64 hj
      obtain ⟨N, hN⟩ : ∃ N, q + 1 + j = N := ⟨_, rfl⟩
      rw [hN] at hm p1
      have HO3 := HO.out
      rw [hN] at HO3
      rw [hN]
      have HN := Lib.hid hN; clear hN
      have HO4 := Lib.hid HO3; clear HO3
      have hNb : N ≤ 1000 := by have := HN.out; omega
      go_wp2_with (at_builtin; refine wpList_append_rd rfl (.tmp 21) (.tmp 22) 26 rfl 5 i0 (.int .u8 0) 1 1 Tryz.underlying26 hi0 hz0 hz1 hz2 rfl (by decide) (w.heap.size + 1) N _ (own_alloc HO4.out _) 1 [vB 0] ?f1 (rd_new1 _ _ _ _ rfl) (vB_plain [0]) ?f2 ?f3 ?f4 ?_)
      case f1 => rfl
      case f2 => unfold maxLen; omega
      case f3 => omega
      case f4 => have := HSr.out.below.size; have := (Array.getElem?_eq_some_iff.1 HSr.out.d0).1; simp; omega
      intro v3 w3 ho3 _ hg3
      have HS3 := Lib.hid (SmI.grown (HSr.out.alloc _) hg3 (fun k hk => own_rows HO4.out k hk))
      have HO5 := Lib.hid ho3; clear ho3 hg3
      go_wp2
      go_roundg (gk - 1)
      case rel =>
        refine ⟨j + 1, by omega, ?_, HS3.out⟩
        have e := HO5.out
        have e1 := HN.out
        rw [show q + 1 + (j + 1) = N + 1 from by omega, List.replicate_succ']
        simpa using e
      case measure => omega
    · have hjz : j = (119 - q) % 64 := by omega
      have hm := pad_done q j hq64 hjz
      obtain ⟨N, hN⟩ : ∃ N, q + 1 + j = N := ⟨_, rfl⟩
      have HO3 := HO.out
      rw [hN] at hm p1 HO3
      rw [hN]
      have hNb : N ≤ 120 := by omega
      have HZ := Lib.hid hjz; clear hjz
      have HN := Lib.hid hN; clear hN
      obtain ⟨T, hT⟩ : ∃ T, R ++ 128 :: List.replicate j 0 = T := ⟨_, rfl⟩
      rw [hT] at HO3
      have HTT := Lib.hid hT; clear hT
      have HO4 := Lib.hid HO3; clear HO3 hjk
      go_wp2_with fail
      obtain ⟨wa, rfl⟩ : ∃ wa : World, wa = wr := ⟨_, rfl⟩
      go_loopw [3, 4] (fun t i wr => ∃ k : Nat, k ≤ 8 ∧ i = .int .i64 (7 - (k : Int)) ∧ own wr (w.heap.size + 1) 5 1 t (N + k) ((T ++ (List.range k).map (lenByte l.length)).map vB) ∧ SmI w wr) (fun _ i _ => (intOf i + 1).toNat)
      case atStart => exact ⟨0, by omega, rfl, by simpa using HO4.out, HSr.out⟩
      case round =>
        obtain ⟨k, hk8, rfl, ho, hS⟩ := hrel
        have ho' := ho
        obtain ⟨-, a4, cap4, rfl, s1, s2, -⟩ := ho'
        unfold maxLen at s2
        by_cases hk : k < 8
        · have c9 : wr.cell? ⟨g, 9, none⟩ = some (.int .i64 l.length) := by
            rw [hS.below.cell hgl, cell_of_row _ _ _ _ _ _ HB.out]; rfl
          have HO6 := Lib.hid ho; have HS6 := Lib.hid hS; clear ho hS
          go_wp2_with (at_builtin; refine wpList_append_rd rfl (.tmp 28) (.tmp 39) 26 rfl 5 i0 (.int .u8 0) 1 1 Tryz.underlying26 hi0 hz0 hz1 hz2 rfl (by decide) (w.heap.size + 1) (N + k) _ (own_alloc HO6.out _) 1 _ ?g1 (rd_new1 _ _ _ _ rfl) ?g5 ?g2 ?g3 ?g4 ?_)
          case g1 => rfl
          case g5 => intro u hu; simp at hu; subst hu; rfl
          case g2 => unfold maxLen; omega
          case g3 => omega
          case g4 => have := HS6.out.below.size; have := (Array.getElem?_eq_some_iff.1 HS6.out.d0).1; simp; omega
          intro v5 w5 ho5 _ hg5
          have HS7 := Lib.hid (SmI.grown (HS6.out.alloc _) hg5 (fun k hk => own_rows HO6.out k hk))
          rw [len_val] at ho5
          have HO7 := Lib.hid ho5; clear ho5 hg5
          go_wp2
          go_roundw
          case rel =>
            refine ⟨k + 1, by omega, by go_num, ?_, HS7.out⟩
            have e := HO7.out
            rw [List.range_succ]
            simpa [vB, Nat.add_assoc] using e
          case measure => simp [intOf]; omega
        · obtain rfl : k = 8 := by omega
          obtain ⟨P, hP⟩ : ∃ P, T ++ (List.range 8).map (lenByte l.length) = P := ⟨_, rfl⟩
          rw [hP] at ho
          have hPR : P = R ++ padTail l.length := by
            have e1 := HZ.out; have e2 := HQ.out
            rw [← hP, ← HTT.out, e1, padTail, padZ, e2, List.append_assoc, List.cons_append]
          clear hP
          have HP := Lib.hid hPR; clear hPR
          obtain ⟨M, hM⟩ : ∃ M, N + 8 = M := ⟨_, rfl⟩
          rw [hM] at s1 ho
          rw [hM]
          have hMm : M % 64 = 0 := by have e1 := HN.out; have e2 := HZ.out; omega
          have HM := Lib.hid hM; clear hM
          have HO8 := Lib.hid ho; have HS8 := Lib.hid hS; clear ho hS
          have hrow : rowAt wr g 0 8 = some (stV st) := by
            rw [rowAt_below HS8.out.below hgl, rowAt_of_heap HB.out 0 8 (by rw [hasV_size]; omega)]; rfl
          have hgl' : g < wr.heap.size := rowAt_lt hrow
          obtain ⟨i7, hi7⟩ : ∃ x : Int, (7 - ((8 : Nat) : Int)) = x := ⟨_, rfl⟩
          rw [hi7]
          have hneg : i7 < 0 := by omega
          clear hi7
          go_wp2_with fail
          obtain ⟨wb, rfl⟩ : ∃ wb : World, wb = wr := ⟨_, rfl⟩
          clear hrow hgl' hm
          go_loopg [3] (M / 64) (fun k t wr => ∃ i : Nat, i + k = M / 64 ∧ own wr (w.heap.size + 1) 5 1 t (M - 64 * i) ((P.drop (64 * i)).map vB) ∧ SmJ w wb.heap.size (blocksM st P i) wr)
          case atStart => exact ⟨0, by omega, by simpa using own_alloc HO8.out _, by rw [blocksM_zero]; exact HS8.out.start2 st⟩
          case round =>
            obtain ⟨i, hik, ho, hS⟩ := hrel
            obtain ⟨nn, hnn⟩ : ∃ nn, M - 64 * i = nn := ⟨_, rfl⟩
            rw [hnn] at ho
            have ho' := ho
            obtain ⟨-, a5, cap5, rfl, y1, y2, -⟩ := ho'
            unfold maxLen at y2
            by_cases hgk : 0 < gk
            · have h64 : 64 ≤ nn := by omega
              have hrow : rowAt wr wb.heap.size 0 8 = some (stV (blocksM st P i)) := rowAt_whole hS.c0 8 (stV_size _).symm
              have HX := Lib.hid (blocksM_succ st P i)
              obtain ⟨X, hX⟩ : ∃ X, blocksM st P i = X := ⟨_, rfl⟩
              rw [hX] at hrow hS
              have HX2 := Lib.hid hX; clear hX
              have HO9 := Lib.hid ho; have HS9 := Lib.hid hS; have HNN := Lib.hid hnn
              have hPl : (P.drop (64 * i)).length = nn := by have := ho.1; simpa using this
              have HPl := Lib.hid hPl
              have hT2 : Hid (tabAt wr) := (rowAt_below hS.s.below (rowAt_lt HT.out) 0 64).trans HT.out
              have hCl : wb.heap.size < wr.heap.size := (Array.getElem?_eq_some_iff.1 hS.c0).1
              clear ho hS hnn hPl
              go_wp2_with fail
              refine (block_any X (P.drop (64 * i)) _ nn _ h64 HPl.out (own_rd HO9.out) hT2.out).mono ?_
              rintro e w' ⟨rfl, hb2⟩
              have q1 : (rowAt w' wb.heap.size 0 8).isSome = true := by rw [rowAt_below hb2 hCl 0 8, hrow]; rfl
              have q2 : wrAt w' wb.heap.size = true := by rw [wrAt_below hb2 hCl]; exact wrAt_of_heap HS9.out.c0
              have hC0 : w'.heap[wb.heap.size]? = some (.cells (stV X) 173 (0, 0)) := (hb2.block _ hCl).trans HS9.out.c0
              obtain ⟨W2, hW2⟩ : ∃ W2, putAt w' wb.heap.size 0 (stV (blockM X (P.drop (64 * i)))) = W2 := ⟨_, rfl⟩
              have k1 : own W2 (w.heap.size + 1) 5 1 (.slice a5 nn cap5) nn ((P.drop (64 * i)).map vB) := own_kept HO9.out (fun k hk hk' hk'' => by
                rw [← hW2, putAt_other _ _ _ _ _ (fun e => own_ne HO9.out HS9.out.c0 (by decide) (by rw [← e]; exact hk))]; exact hb2.block k hk'')
              have k2 := own_cut k1 64 h64
              have k3 := Lib.hid (HS9.out.step hb2 (blockM X (P.drop (64 * i))))
              rw [hW2] at k3
              have hsl : ∀ w, (Instr.sliceAt 26 (.slice a5 nn cap5) (some (.int .i64 64)) none none).run Tryz.prog w = .ok (.slice (if cap5 = 64 then a5 else a5.map (·.add (64 * 1))) (nn - 64) (cap5 - 64)) w := fun w => run_slice_from (P := Tryz.prog) 26 5 1 Tryz.underlying26 (by rw [hi0]; simp [hz1]) a5 nn cap5 64 h64 w
              generalize (if cap5 = 64 then a5 else a5.map (·.add (64 * 1))) = a6 at hsl k2
              have H2 := Lib.hid k2
              clear k2 k1 hC0 hb2
              have HW2 := Lib.hid hW2; clear hW2
              go_wp2
              go_roundg (gk - 1)
              case rel =>
                rw [HW2.out]
                refine ⟨i + 1, by omega, ?_, ?_⟩
                · have e0 := HNN.out
                  have e1 : M - 64 * (i + 1) = nn - 64 := by omega
                  rw [e1, show 64 * (i + 1) = 64 * i + 64 * 1 from by omega, ← List.drop_drop, List.map_drop]
                  exact H2.out
                · rw [HX.out, HX2.out]; exact k3.out
              case measure => omega
            · obtain rfl : nn = 0 := by omega
              obtain ⟨F, hF⟩ : ∃ F, blocksM st P i = F := ⟨_, rfl⟩
              rw [hF] at hS
              have hfin : shaM l = digestM F := by
                have e1 := HP.out; have e2 := HR0.out; have e3 := HM.out; have e4 := HN.out; have e5 := HZ.out; have e6 := HQ.out; have e7 := HRl.out
                have e8 : P.length = M := by
                  rw [e1, List.length_append, e7]
                  simp only [padTail, padZ, List.length_cons, List.length_append, List.length_replicate, List.length_map, List.length_range]; omega
                have e9 : (padM l).length = l.length + (padTail l.length).length := by rw [padM, List.length_append]
                have e10 : (padM l).length / 64 = l.length / 64 + i := by
                  rw [e9]
                  have : P.length = q + (padTail l.length).length := by rw [e1, List.length_append, e7]
                  omega
                rw [shaM_eq, e10, padM, blocks_app, Hst.out, e2, ← e1, hF]
              have HF := Lib.hid hfin
              have HS9 := Lib.hid hS
              have hrow : rowAt wr wb.heap.size 0 8 = some (stV F) := rowAt_whole hS.c0 8 (stV_size _).symm
              have HD := Lib.hid (SmK.start hS.s F)
              clear hfin ho hS hF hgk
              go_wp2_with fail
              obtain ⟨wc, rfl⟩ : ∃ wc : World, wc = wr := ⟨_, rfl⟩
              clear hrow HS9
              go_loopw [54] (fun c wr => ∃ m : Nat, m ≤ 8 ∧ c = .int .i64 m ∧ SmK w F (4 * m) wr) (fun c _ => 8 - (intOf c).toNat)
              case atStart => exact ⟨0, by omega, rfl, HD.out⟩
              case round =>
                obtain ⟨m, hm8, rfl, hD⟩ := hrel
                by_cases hm : m < 8
                · have hix := index_stV F m hm
                  obtain ⟨x, hx⟩ : ∃ x, stWord F m = x := ⟨_, rfl⟩
                  rw [hx] at hix
                  have HX := Lib.hid hx; clear hx
                  have HD1 := Lib.hid hD; clear hD
                  go_wp2_with fail
                  obtain ⟨wd, rfl⟩ : ∃ wd : World, wd = wr := ⟨_, rfl⟩
                  go_loopw [58] (fun c wr => ∃ k : Nat, k ≤ 4 ∧ c = .int .i64 k ∧ SmK w F (4 * m + k) wr) (fun c _ => 4 - (intOf c).toNat)
                  case atStart => exact ⟨0, by omega, rfl, HD1.out⟩
                  case round =>
                    obtain ⟨k, hk4, rfl, hD⟩ := hrel
                    by_cases hk : k < 4
                    · have hby := byte_val F m k hm hk
                      rw [HX.out] at hby
                      have hcl : wr.cell? ⟨w.heap.size, 4 * m + k, none⟩ = some (.int .u8 (bv ((dgP F (4 * m + k)).getD (4 * m + k) 0))) := by
                        rw [cell_of_row _ _ _ _ _ _ hD.d0, dgV_get _ _ (by rw [dgP_length]; omega)]
                      generalize (dgP F (4 * m + k)).getD (4 * m + k) 0 = z at hcl
                      have hfr : wr.frozen? ⟨w.heap.size, 4 * m + k, none⟩ = false := frozen_of_row _ _ _ _ _ hD.d0
                      have HD2 := Lib.hid hD; clear hD
                      have HBY := Lib.hid hby; clear hby
                      obtain rfl | rfl | rfl | rfl : k = 0 ∨ k = 1 ∨ k = 2 ∨ k = 3 := by omega
                      · simp only [Nat.add_zero] at hcl hfr HBY HD2
                        have he : wv x / 16777216 % 256 = bv (stByte F (4 * m + 0)) := by have := HBY.out; simpa using this
                        have HE := Lib.hid he; clear he
                        go_wp2
                        go_roundw
                        case rel => exact ⟨1, by omega, rfl, by rw [HE.out]; exact HD2.out.set⟩
                        case measure => simp [intOf]
                      · have he : wv x / 65536 % 256 = bv (stByte F (4 * m + 1)) := by have := HBY.out; simpa using this
                        have HE := Lib.hid he; clear he
                        go_wp2
                        go_roundw
                        case rel => exact ⟨2, by omega, rfl, by rw [HE.out]; exact HD2.out.set⟩
                        case measure => simp [intOf]
                      · have he : wv x / 256 % 256 = bv (stByte F (4 * m + 2)) := by have := HBY.out; simpa using this
                        have HE := Lib.hid he; clear he
                        go_wp2
                        go_roundw
                        case rel => exact ⟨3, by omega, rfl, by rw [HE.out]; exact HD2.out.set⟩
                        case measure => simp [intOf]
                      · have he : wv x % 256 = bv (stByte F (4 * m + 3)) := by have := HBY.out; simpa using this
                        have HE := Lib.hid he; clear he
                        go_wp2
                        go_roundw
                        case rel => exact ⟨4, by omega, rfl, by rw [HE.out]; exact HD2.out.set⟩
                        case measure => simp [intOf]
                    · obtain rfl : k = 4 := by omega
                      have HD2 := Lib.hid hD; clear hD
                      go_wp2
                      go_roundw
                      case rel => exact ⟨m + 1, by omega, by go_num, HD2.out⟩
                      case measure => simp [intOf]; omega
                · obtain rfl : m = 8 := by omega
                  have hrw : rowAt wr w.heap.size 0 32 = some (dgV (dgP F 32)) := rowAt_whole hD.d0 32 (by rw [dgV_size, dgP_length])
                  rw [dgP_done] at hrw
                  have e1 := HF.out
                  rw [← e1] at hrw
                  have hrg := wrAt_of_heap hD.d0
                  have hpl : plainCells (dgV (shaM l)) = true := dgV_plain _
                  have HD1 := Lib.hid hD; clear hD
                  have hsz : (dgV (shaM l)).size = 32 := by rw [dgV_size, shaM_length]
                  clear e1
                  go_wp2
                  refine bodyPost_ret (v := .agg (dgV (shaM l))) (results_cell_at rfl _ _ w.heap.size 0 _ rfl agg_digest ?_) rfl ⟨rfl, ?_⟩
                  · rw [cells_digest]; exact rowAt_put_same HD1.out.d0 (dgV (shaM l)) (by rw [hsz, dgV_size, dgP_length]) 32 hsz.symm
                  · exact putAt_below HD1.out.below (Nat.le_refl _) _ _
end Go.Proofs.YtljcdkfafknnpaaGreatDoor
namespace Go.Proofs.YtljcdkfafknnpaaGreatDoor
set_option linter.unusedVariables false
set_option linter.unusedSimpArgs false
open Go.RowKit
attribute [local go_sem ↓] run_load_agg run_store_agg

set_option maxHeartbeats 1000000 in
theorem shaSum_any (b : List UInt8) (v : Value) (n : Nat) (w : World) (hb : rd w v n (b.map vB)) (hl : b.length = n) (hn : n ≤ 140737488353000) (hT : tabAt w) :
    Calls Tryz.prog 35 #[v] w fun e w' => e = .returned (.agg (dgV (shaM b))) ∧ Below w.heap.size w w' := by
  have hg := rowAt_lt hT
  have HT := Lib.hid hT; have HB := Lib.hid hb; clear hb hT
  go_enter Tryz.func35, Tryz.ntmps35
  go_wp2_with fail
  have hb0 : Below w.heap.size w (w.alloc (.cells zD 23)) := (Below.refl _ _).alloc (Nat.le_refl _) _
  have hd0 : (w.alloc (.cells zD 23)).heap[w.heap.size]? = some (.cells zD 23 (0, 0)) := heap_alloc_new w _
  have hs0 : (w.alloc (.cells zD 23)).heap.size = w.heap.size + 1 := by simp
  obtain ⟨wa, hwa⟩ : ∃ wa, w.alloc (.cells zD 23) = wa := ⟨_, rfl⟩
  change Calls _ _ _ (w.alloc (.cells zD 23)) _
  rw [hwa] at hb0 hd0 hs0 ⊢
  clear hwa
  have HB0 := Lib.hid hb0; have HD0 := Lib.hid hd0; clear hb0 hd0
  refine (new_any wa).mono ?_
  rintro e w1 ⟨g, rfl, hH, hb1⟩
  have HH := Lib.hid hH; have HB1 := Lib.hid (HB0.out.trans (hb1.mono HB0.out.size)); have HE1 := Lib.hid hb1; clear hH hb1
  go_wp2_with fail
  refine (write_any wa.heap.size g [] b _ v n w1 HH.out (rd_below HB.out HB1.out) hl (by simpa using hn) ((rowAt_below HB1.out hg 0 64).trans HT.out) (by omega) HE1.out.size).mono ?_
  rintro e w2 ⟨rfl, ⟨r', hH2⟩, hb2⟩
  have HH2 := Lib.hid hH2; have HB2 := Lib.hid (HB1.out.trans (hb2.mono (by omega))); have HE2 := Lib.hid (HE1.out.trans hb2); clear hH2 hb2
  go_wp2_with fail
  refine (sum_any wa.heap.size g ([] ++ b) r' w2 HH2.out (by simp; omega) ((rowAt_below HB2.out hg 0 64).trans HT.out)).mono ?_
  rintro e w3 ⟨rfl, hb3⟩
  have HB3 := Lib.hid (HB2.out.trans (hb3.mono HB2.out.size)); have HE3 := Lib.hid (HE2.out.trans (hb3.mono HE2.out.size)); clear hb3
  rw [List.nil_append]
  have hd3 : w3.heap[w.heap.size]? = some (.cells zD 23 (0, 0)) := (HE3.out.block _ (by omega)).trans HD0.out
  have hrw : (rowAt w3 w.heap.size 0 32).isSome = true := by rw [rowAt_whole hd3 32 rfl]; rfl
  have hrg := wrAt_of_heap hd3
  have hpl : plainCells (dgV (shaM b)) = true := dgV_plain _
  have hsz : (dgV (shaM b)).size = 32 := by rw [dgV_size, shaM_length]
  have HD3 := Lib.hid hd3; clear hd3
  go_wp2
  refine bodyPost_ret (v := .agg (dgV (shaM b))) (results_cell_at rfl _ _ w.heap.size 0 _ rfl agg_digest ?_) rfl ⟨rfl, ?_⟩
  · rw [cells_digest]; exact rowAt_put_same HD3.out (dgV (shaM b)) (by rw [hsz]; rfl) 32 hsz.symm
  · exact putAt_below HB3.out (Nat.le_refl _) _ _
end Go.Proofs.YtljcdkfafknnpaaGreatDoor
namespace Go.Proofs.YtljcdkfafknnpaaGreatDoor
set_option linter.unusedVariables false
set_option linter.unusedSimpArgs false
open Go.RowKit
attribute [local go_sem ↓] run_load_agg run_store_agg run_load_any
/-- A payment's digest. -/
def idD (t : TxD) : List UInt8 := shaM (21 :: bareM t)
theorem idD_length (t : TxD) : (idD t).length = 32 := shaM_length _
def bareT (t : TxD) : TxD := { t with ins := t.ins.map fun x => { x with keys := [] } }
theorem bareT_bytes (t : TxD) : bareM (bareT t) = bareM t := by
  have e : insB (bareT t).ins = insB t.ins := by
    unfold insB bareT
    rw [List.map_map]
    rfl
  unfold bareM
  rw [e]
  simp [bareT]
theorem bareT_ok {t : TxD} (h : TxOk t) : TxOk (bareT t) :=
  ⟨by simpa [bareT] using h.ins, h.outs, h.some, h.t0, h.t1, fun x hx => by
    obtain ⟨y, hy, rfl⟩ := List.mem_map.1 (show x ∈ t.ins.map fun x => { x with keys := [] } from hx)
    exact h.ix y hy, h.out⟩
theorem bareM_le {t : TxD} (h : TxOk t) (h32 : ∀ x ∈ t.ins, x.tx.length = 32) : (bareM t).length ≤ 1000000 := by
  have h1 := insB_le h32; have h2 := outsM_le h.out
  have a1 := szM_le t.ins.length; have a2 := szM_le t.outs.length; have a3 := szM_le t.time.toNat
  have b1 := h.ins; have b2 := h.outs
  simp only [bareM, List.length_append]; omega
/-- What tx.ID answers. -/
def idV (t : TxD) : Value := .tuple #[.agg (dgV (if txF t = 0 then idD t else List.replicate 32 0)), errV (txF t)]
set_option maxHeartbeats 4000000 in
set_option maxRecDepth 100000 in
theorem txID_any (t : TxD) (ai ao : Option Addr) (ci co : Nat) (w : World) (hi : rdSl inR 34 w (.slice ai t.ins.length ci) t.ins) (ho : rdSl outR 2 w (.slice ao t.outs.length co) t.outs) (hT : tabAt w) :
    Calls Tryz.prog 46 #[.agg #[.slice ai t.ins.length ci, .slice ao t.outs.length co, .int .i64 t.time]] w fun e w' => e = .returned (idV t) ∧ Below w.heap.size w w' := by
  obtain ⟨n1, n2, n3⟩ := new_tx w ai ao t.ins.length t.outs.length ci co t.time
  obtain ⟨_, _, e, i1, i2⟩ := sl_bounds hi
  cases e
  obtain ⟨_, _, e, o1, o2⟩ := sl_bounds ho
  cases e
  unfold maxLen at i2 o2
  unfold zTx at n1 n2
  have hg := rowAt_lt hT
  have HI := Lib.hid hi; have HO := Lib.hid ho; have HT := Lib.hid hT
  have HX := Lib.hid (heap_alloc_new w (.cells #[.slice ai t.ins.length ci, .slice ao t.outs.length co, .int .i64 t.time] 59))
  have B0 := Lib.hid ((Below.refl w.heap.size w).alloc (Nat.le_refl _) (.cells #[.slice ai t.ins.length ci, .slice ao t.outs.length co, .int .i64 t.time] 59))
  have hs0 : (w.alloc (.cells #[.slice ai t.ins.length ci, .slice ao t.outs.length co, .int .i64 t.time] 59)).heap.size = w.heap.size + 1 := by simp
  clear hi ho hT
  go_enter Tryz.func46, Tryz.ntmps46
  go_upto_region 1 with fail
  clear n1 n2 n3
  have hs1 : ((w.alloc (.cells #[.slice ai t.ins.length ci, .slice ao t.outs.length co, .int .i64 t.time] 59)).alloc (.cells zD 23)).heap.size = w.heap.size + 2 := by simp
  have HX1 : Hid (((w.alloc (.cells #[.slice ai t.ins.length ci, .slice ao t.outs.length co, .int .i64 t.time] 59)).alloc (.cells zD 23)).heap[w.heap.size]? = some (.cells #[.slice ai t.ins.length ci, .slice ao t.outs.length co, .int .i64 t.time] 59 (0, 0))) := (Below.heap_alloc _ _ _ (by omega)).trans HX.out
  have HD1 : Hid (((w.alloc (.cells #[.slice ai t.ins.length ci, .slice ao t.outs.length co, .int .i64 t.time] 59)).alloc (.cells zD 23)).heap[w.heap.size + 1]? = some (.cells zD 23 (0, 0))) := by
    have := heap_alloc_new (w.alloc (.cells #[.slice ai t.ins.length ci, .slice ao t.outs.length co, .int .i64 t.time] 59)) (.cells zD 23)
    rwa [hs0] at this
  have B1 := Lib.hid (B0.out.alloc (by omega) (.cells zD 23))
  clear HX B0 hs0
  change Code.wp _ _ _ _ ((w.alloc (.cells #[.slice ai t.ins.length ci, .slice ao t.outs.length co, .int .i64 t.time] 59)).alloc (.cells zD 23))
  generalize (w.alloc (.cells #[.slice ai t.ins.length ci, .slice ao t.outs.length co, .int .i64 t.time] 59)).alloc (.cells zD 23) = wa at hs1 HX1 HD1 B1 ⊢
  obtain ⟨G, hG⟩ : ∃ G, w.heap.size = G := ⟨_, rfl⟩
  have hGe : w.heap.size ≤ G := by omega
  have hgG : 1 < G := by omega
  rw [hG] at HX1 HD1 hs1 ⊢
  clear hG hg
  have HI1 := Lib.hid (inR_stays.slB HI.out B1.out (Nat.le_refl _))
  have HO1 := Lib.hid (outR_stays.slB HO.out B1.out (Nat.le_refl _))
  have r3 : rowAt wa G 0 3 = some #[.slice ai t.ins.length ci, .slice ao t.outs.length co, .int .i64 t.time] := rowAt_whole HX1.out 3 rfl
  go_wp2_with fail
  refine (txCheck_any t ai ao ci co wa HI1.out HO1.out).mono ?_
  rintro e w2 ⟨rfl, hb2⟩
  have B2 := Lib.hid (B1.out.trans (hb2.mono (by omega)))
  have hs2 := hb2.size
  have HX2 : Hid (w2.heap[G]? = some (.cells #[.slice ai t.ins.length ci, .slice ao t.outs.length co, .int .i64 t.time] 59 (0, 0))) := (hb2.block _ (by omega)).trans HX1.out
  have HD2 : Hid (w2.heap[G + 1]? = some (.cells zD 23 (0, 0))) := (hb2.block _ (by omega)).trans HD1.out
  clear hb2 r3
  obtain ⟨f, hf⟩ : ∃ f, txF t = f := ⟨_, rfl⟩
  rw [hf]
  have HFF := Lib.hid hf
  clear hf
  clear HI1 HO1
  by_cases hz : f = 0
  · subst hz
    have hok := txOk_of HFF.out
    have HOK := Lib.hid hok
    have hn40 := hok.ins
    rw [errV_0]
    have c0 : w2.cell? ⟨G, 0, none⟩ = some (.slice ai t.ins.length ci) := by rw [cell_of_row _ _ _ _ _ _ HX2.out]; rfl
    obtain ⟨xs, hrd, hea⟩ := HI.out
    obtain ⟨L, hL1, hL2, hL3⟩ := ins_cells _ _ hea
    subst hL2
    have hLl : L.length = t.ins.length := by rw [← hL1, List.length_map]
    have HGD := Lib.hid hL3; have HLM := Lib.hid hL1; have HLL := Lib.hid hLl
    have HCL := Lib.hid (cloneIn_any (cellsIn L) ai t.ins.length ci w2 (rd_belowB hrd B2.out (Nat.le_refl _)) (by rw [cellsIn_length L hL3, hLl]) (cellsIn_plain L hL3) (by omega))
    clear hok hrd hea hL1 hL3 hLl
    go_wp2_with fail
    refine Calls.mono HCL.out ?_
    rintro e w3 ⟨v, rfl, ho3, hb3⟩
    have ho3' := ho3
    obtain ⟨-, vo, vcap, rfl, v1, v2, -⟩ := ho3'
    unfold maxLen at v2
    have B3 := Lib.hid (B2.out.trans (hb3.mono B2.out.size))
    have HX3 : Hid (w3.heap[G]? = some (.cells #[.slice ai t.ins.length ci, .slice ao t.outs.length co, .int .i64 t.time] 59 (0, 0))) := (hb3.block _ (by omega)).trans HX2.out
    have HD3 : Hid (w3.heap[G + 1]? = some (.cells zD 23 (0, 0))) := (hb3.block _ (by omega)).trans HD2.out
    have d0 : w3.cell? ⟨G, 0, none⟩ = some (.slice ai t.ins.length ci) := by rw [cell_of_row _ _ _ _ _ _ HX3.out]; rfl
    have d1 : w3.frozen? ⟨G, 0, none⟩ = false := frozen_of_row _ _ _ _ _ HX3.out
    have HX4 : Hid ((w3.setCell ⟨G, 0, none⟩ (.slice vo t.ins.length vcap)).heap[G]? = some (.cells #[.slice vo t.ins.length vcap, .slice ao t.outs.length co, .int .i64 t.time] 59 (0, 0))) := heap_setCell_same _ _ _ _ _ _ HX3.out
    have HD4 : Hid ((w3.setCell ⟨G, 0, none⟩ (.slice vo t.ins.length vcap)).heap[G + 1]? = some (.cells zD 23 (0, 0))) := (Below.heap_setCell _ _ _ _ (by simp)).trans HD3.out
    have B4 : Hid (Below w.heap.size w (w3.setCell ⟨G, 0, none⟩ (.slice vo t.ins.length vcap))) := B3.out.setCell (by show w.heap.size ≤ G; exact hGe) _
    have HW4 : Hid (own (w3.setCell ⟨G, 0, none⟩ (.slice vo t.ins.length vcap)) (G + 2) 100 34 (.slice vo t.ins.length vcap) t.ins.length (cellsIn (nilK 0 L))) := by
      show own _ _ _ _ _ _ _
      rw [nilK_zero]
      exact own_base (own_setCell ho3 _ _ (fun hk => by have h := (own_lt ho3 hk).1; change w2.heap.size ≤ G at h; omega)) (by omega)
    clear hb3 ho3 HCL c0
    go_upto_region 5 with fail
    change Code.wp _ _ _ _ (w3.setCell ⟨G, 0, none⟩ (.slice vo t.ins.length vcap))
    generalize w3.setCell ⟨G, 0, none⟩ (.slice vo t.ins.length vcap) = w4 at HX4 HD4 B4 HW4 ⊢
    clear d0 d1
    have c0 : w4.cell? ⟨G, 0, none⟩ = some (.slice vo t.ins.length vcap) := by rw [cell_of_row _ _ _ _ _ _ HX4.out]; rfl
    go_wp2_with fail
    clear c0
    go_loopw [19] (fun c wr => ∃ j : Nat, j ≤ t.ins.length ∧ c = .int .i64 j ∧ Hid (Below w.heap.size w wr) ∧ Hid (wr.heap[G]? = some (.cells #[.slice vo t.ins.length vcap, .slice ao t.outs.length co, .int .i64 t.time] 59 (0, 0))) ∧
      Hid (wr.heap[G + 1]? = some (.cells zD 23 (0, 0))) ∧ Hid (own wr (G + 2) 100 34 (.slice vo t.ins.length vcap) t.ins.length (cellsIn (nilK j L)))) (fun c _ => t.ins.length - (intOf c).toNat)
    case atStart => exact ⟨0, by omega, rfl, B4, HX4, HD4, HW4⟩
    case round =>
      obtain ⟨j, hj, rfl, HB, HX, HD, HW⟩ := hrel
      have c0 : wr.cell? ⟨G, 0, none⟩ = some (.slice vo t.ins.length vcap) := by rw [cell_of_row _ _ _ _ _ _ HX.out]; rfl
      by_cases hlt : j < t.ins.length
      · obtain ⟨g, off, rfl⟩ := own_ptr HW.out (by omega)
        obtain ⟨q1, q2, q3, q4⟩ := own_cellN HW.out (j * 34 + 33) (by omega)
        have hjl : j < L.length := by rw [HLL.out]; exact hlt
        obtain ⟨hjn, hst⟩ := nilK_step j L hjl
        obtain ⟨s1, s2⟩ := cells_set (nilK j L) j hjn (.slice none 0 0) (nilK_good HGD.out)
        rw [s2, ← Nat.add_assoc] at q1
        rw [← Nat.add_assoc] at q2
        have hso := own_setN HW.out (j * 34 + 33) (by omega) (.slice none 0 0)
        rw [s1, hst, ← Nat.add_assoc] at hso
        have HW5 := Lib.hid hso
        have hnG : g ≠ G := fun e => own_ne HW.out HX.out (by decide) (by rw [q4, e])
        have hnD : g ≠ G + 1 := fun e => own_ne HW.out HD.out (by decide) (by rw [q4, e])
        have HX5 : Hid ((wr.setCell ⟨g, off + j * 34 + 33, none⟩ (.slice none 0 0)).heap[G]? = _) := (Below.heap_setCell _ _ _ _ (fun e => hnG e.symm)).trans HX.out
        have HD5 : Hid ((wr.setCell ⟨g, off + j * 34 + 33, none⟩ (.slice none 0 0)).heap[G + 1]? = _) := (Below.heap_setCell _ _ _ _ (fun e => hnD e.symm)).trans HD.out
        have B5 : Hid (Below w.heap.size w (wr.setCell ⟨g, off + j * 34 + 33, none⟩ (.slice none 0 0))) := HB.out.setCell (by show w.heap.size ≤ g; omega) _
        clear hso s1 s2 hst q3 q4 hnG hnD
        go_wp2
        go_roundw
        case rel => exact ⟨j + 1, by omega, by go_num, B5, HX5, HD5, HW5⟩
        case measure => simp [intOf]; omega
      · have hj2 : j = L.length := by rw [HLL.out]; omega
        have HIN : Hid (rdSl inR 34 wr (.slice vo t.ins.length vcap) (bareT t).ins) := by
          show rdSl inR 34 wr _ _
          have h := nilK_all (w := wr) L HGD.out
          have e : nilK j L = L.map fun p => (p.1, .slice none 0 0) := by unfold nilK; rw [hj2, List.take_length, List.drop_length, List.append_nil]
          have hr := own_rd HW.out
          rw [e] at hr
          have e2 : (bareT t).ins = L.map fun p => { p.1 with keys := [] } := by unfold bareT; rw [← HLM.out, List.map_map]; rfl
          rw [e2]
          refine ⟨_, ?_, h⟩
          rw [List.length_map, HLL.out]; exact hr
        have HOT := Lib.hid (outR_stays.slB HO.out HB.out (Nat.le_refl _))
        clear hj2 c0
        have hGw : G < wr.heap.size := (Array.getElem?_eq_some_iff.1 HX.out).1
        have r3 : rowAt wr G 0 3 = some #[.slice vo t.ins.length vcap, .slice ao t.outs.length co, .int .i64 t.time] := rowAt_whole HX.out 3 rfl
        have BW := Lib.hid (HB.out.alloc HB.out.size (.cells #[.int .u8 21] 5))
        have HDW : Hid ((wr.alloc (.cells #[.int .u8 21] 5)).heap[G + 1]? = some (.cells zD 23 (0, 0))) := (Below.heap_alloc _ _ _ (Array.getElem?_eq_some_iff.1 HD.out).1).trans HD.out
        have HW1 : Hid (own (wr.alloc (.cells #[.int .u8 21] 5)) wr.heap.size 5 1 (.slice (some ⟨wr.heap.size, 0, none⟩) 1 1) 1 ([21].map vB)) := own_lit (w := wr) (base := wr.heap.size) (e := 5) (sz := 1) #[.int .u8 21] 1 (Nat.le_refl _) (by decide) rfl
        have hsw : (wr.alloc (.cells #[.int .u8 21] 5)).heap.size = wr.heap.size + 1 := by simp
        have hbl : (bareT t).ins.length = t.ins.length := by simp [bareT]
        have h32 : ∀ x ∈ t.ins, x.tx.length = 32 := fun x hx => by
          obtain ⟨i, hi, rfl⟩ := List.getElem_of_mem hx
          obtain ⟨_, _, _, _, _, _, h, -⟩ := in_at HI.out i hi
          exact h
        have hle := bareM_le HOK.out h32
        have hin : rdSl inR 34 (wr.alloc (.cells #[.int .u8 21] 5)) (.slice vo (bareT t).ins.length vcap) (bareT t).ins := by
          rw [hbl]; exact inR_stays.sl (fun k hk => Below.heap_alloc wr _ k hk) HIN.out
        have hSN := sent_any (bareT t) vo ao vcap co (wr.alloc (.cells #[.int .u8 21] 5)) hin (outR_stays.sl (fun k hk => Below.heap_alloc wr _ k hk) HOT.out) (fun x hx => by
          obtain ⟨y, hy, rfl⟩ := List.mem_map.1 (show x ∈ t.ins.map fun x => { x with keys := [] } from hx)
          rfl) (bareT_ok HOK.out)
        rw [hbl, bareT_bytes] at hSN
        have HSN := Lib.hid hSN
        obtain ⟨M, hM⟩ : ∃ M, bareM t = M := ⟨_, rfl⟩
        rw [hM] at HSN hle
        have HID : Hid (idD t = shaM (21 :: M)) := by show idD t = _; unfold idD; rw [hM]
        clear hin hSN hbl hM h32
        go_wp2_with fail
        change Calls _ _ _ (wr.alloc (.cells #[.int .u8 21] 5)) _
        generalize wr.alloc (.cells #[.int .u8 21] 5) = w5 at BW HDW HW1 hsw HSN ⊢
        refine Calls.mono HSN.out ?_
        rintro e w6 ⟨v6, rfl, ho6, hb6⟩
        have hr6 := own_rd ho6
        obtain ⟨_, lcap, e6, l1, l2, -⟩ := id hr6
        subst e6
        unfold maxLen at l2
        have B6 := Lib.hid (BW.out.trans (hb6.mono BW.out.size))
        have HD6 : Hid (w6.heap[G + 1]? = some (.cells zD 23 (0, 0))) := (hb6.block _ (Array.getElem?_eq_some_iff.1 HDW.out).1).trans HDW.out
        have HO6 := Lib.hid (own_below hb6 HW1.out (Nat.le_refl _))
        have HR6 := Lib.hid hr6
        have hs6 := hb6.size
        have hws := HB.out.size
        clear hb6 ho6 hr6 HSN r3
        obtain ⟨i0, hi0, hz0, hz1, hz2⟩ := info_parts info_u8
        go_wp2_with (at_builtin; refine wpList_append_rd rfl (.tmp 28) (.tmp 30) 26 rfl 5 i0 (.int .u8 0) 1 1 Tryz.underlying26 hi0 hz0 hz1 hz2 rfl (by decide) wr.heap.size 1 _ HO6.out M.length _ ?g1 HR6.out (vB_plain _) ?g2 ?g3 ?g4 ?_)
        case g1 => simp
        case g2 => unfold maxLen; omega
        case g3 => omega
        case g4 => omega
        intro v7 w7 ho7 _ hg7
        have B7 := Lib.hid (B6.out.grown hg7 B6.out.size (fun q hq => by have := (own_lt HO6.out hq).1; omega))
        have HD7 : Hid (w7.heap[G + 1]? = some (.cells zD 23 (0, 0))) := (hg7.block _ (Array.getElem?_eq_some_iff.1 HD6.out).1 (fun e => own_ne HO6.out HD6.out (by decide) e.symm)).trans HD6.out
        have hr7 : rd w7 v7 (1 + M.length) ((21 :: M).map vB) := own_rd ho7
        have HSH := Lib.hid (shaSum_any (21 :: M) v7 (1 + M.length) w7 hr7 (by simp; omega) (by omega) ((rowAt_below B7.out (rowAt_lt HT.out) 0 64).trans HT.out))
        clear ho7 hg7 hr7
        go_wp2_with fail
        refine Calls.mono HSH.out ?_
        rintro e w8 ⟨rfl, hb8⟩
        have B8 := Lib.hid (B7.out.trans (hb8.mono B7.out.size))
        have HD8 : Hid (w8.heap[G + 1]? = some (.cells zD 23 (0, 0))) := (hb8.block _ (Array.getElem?_eq_some_iff.1 HD7.out).1).trans HD7.out
        clear hb8
        have hrw : (rowAt w8 (G + 1) 0 32).isSome = true := by rw [rowAt_whole HD8.out 32 rfl]; rfl
        have hrg := wrAt_of_heap HD8.out
        have hpl : plainCells (dgV (shaM (21 :: M))) = true := dgV_plain _
        have hsz : (dgV (shaM (21 :: M))).size = 32 := by rw [dgV_size, shaM_length]
        go_wp2
        refine bodyPost_ret (v := .tuple #[.agg (dgV (shaM (21 :: M))), .nilIface]) (results_cell_tmp_at rfl _ _ (G + 1) 0 _ _ rfl rfl agg_digest ?_) rfl ⟨?_, ?_⟩
        · rw [cells_digest]; exact rowAt_put_same HD8.out (dgV (shaM (21 :: M))) (by rw [hsz]; rfl) 32 hsz.symm
        · unfold idV; rw [HFF.out, if_pos rfl, HID.out, errV_0]
        · exact putAt_below B8.out (by omega) _ _
  · have hrw : (rowAt w2 (G + 1) 0 32).isSome = true := by rw [rowAt_whole HD2.out 32 rfl]; rfl
    have hrg := wrAt_of_heap HD2.out
    have hpl : plainCells zD = true := by rfl
    have hszD : zD.size = 32 := rfl
    have HNZ := Lib.hid hz
    rw [errV_ne hz]
    clear hz
    unfold zD at hrg hpl hszD
    go_wp2
    refine bodyPost_ret (v := .tuple #[.agg zD, .iface 30 (.int .i64 f)]) (results_cell_tmp_at rfl _ _ (G + 1) 0 _ _ rfl rfl agg_digest ?_) rfl ⟨?_, ?_⟩
    · rw [cells_digest]; exact rowAt_put_same HD2.out zD rfl 32 rfl
    · unfold idV; rw [HFF.out, if_neg HNZ.out, errV_ne HNZ.out, zD_eq]
    · exact putAt_below B2.out (by omega) _ _
end Go.Proofs.YtljcdkfafknnpaaGreatDoor
namespace Go.Proofs.YtljcdkfafknnpaaGreatDoor
set_option linter.unusedVariables false
set_option linter.unusedSimpArgs false

theorem cmpB_swap : ∀ (a b : List UInt8), Lib.compareBytes b a = - Lib.compareBytes a b
  | [], [] => rfl
  | [], _ :: _ => rfl
  | _ :: _, [] => rfl
  | x :: a, y :: b => by
    unfold Lib.compareBytes
    by_cases h1 : x < y
    · have h2 : ¬ y < x := fun h => UInt8.lt_irrefl x (UInt8.lt_trans h1 h)
      rw [if_neg h2, if_pos h1, if_pos h1]; rfl
    · by_cases h2 : y < x
      · rw [if_pos h2, if_neg h1, if_pos h2]
      · rw [if_neg h2, if_neg h1, if_neg h1, if_neg h2]; exact cmpB_swap a b
theorem plC_swap (p q : PlaceD) : plC q p = - plC p q := by
  unfold plC
  rw [cmpB_swap p.tx q.tx]
  by_cases h : Lib.compareBytes p.tx q.tx = 0
  · rw [if_pos h, if_pos (by omega)]
    by_cases h1 : p.ix < q.ix
    · rw [if_neg (show ¬ q.ix < p.ix by omega), if_pos h1, if_pos h1]; rfl
    · by_cases h2 : q.ix < p.ix
      · rw [if_pos h2, if_neg h1, if_pos h2]
      · rw [if_neg h2, if_neg h1, if_neg h1, if_neg h2]; rfl
  · rw [if_neg h, if_neg (by omega)]
theorem plC_refl (p : PlaceD) : plC p p = 0 := (plC_zero p p rfl).2 (by unfold plE; simp)
theorem plE_iff (p q : PlaceD) : plE p q = true ↔ p = q := ⟨plE_eq, fun h => by subst h; unfold plE; simp⟩
theorem plE_comm (p q : PlaceD) : plE p q = plE q p := by
  rw [Bool.eq_iff_iff, plE_iff, plE_iff]; exact eq_comm
def ltC (a b : CoinD) : Prop := plC a.place b.place < 0
def sortedP (cs : List CoinD) : Prop := cs.Pairwise ltC
def all32' (cs : List CoinD) : Prop := ∀ c ∈ cs, c.tx.length = 32
theorem all32_iff (cs : List CoinD) : all32 cs ↔ all32' cs := by
  constructor
  · intro h c hc
    obtain ⟨i, hi, rfl⟩ := List.getElem_of_mem hc
    exact h i hi
  · intro h i hi
    exact h _ (List.getElem_mem _)
theorem sorted_iff (cs : List CoinD) : sortedC cs ↔ sortedP cs := by
  unfold sortedC sortedP
  rw [List.pairwise_iff_getElem]
  rfl
/-- Is one at the place of one of those? -/
def goneB (gone : List CoinD) (c : CoinD) : Bool := gone.any fun g => plE g.place c.place
def lessC (cs gone : List CoinD) : List CoinD := cs.filter fun c => !goneB gone c
def insC (n : CoinD) : List CoinD → List CoinD
  | [] => [n]
  | c :: cs => if plC c.place n.place < 0 then c :: insC n cs else n :: c :: cs
def withC : List CoinD → List CoinD → List CoinD
  | cs, [] => cs
  | cs, n :: ns => withC (insC n cs) ns
/-- The set in which a place lies. -/
def hasP (cs : List CoinD) (p : PlaceD) : Prop := ∃ c ∈ cs, c.place = p
theorem insC_at (n : CoinD) : ∀ (cs : List CoinD) (i : Nat), i ≤ cs.length → (∀ k (hk : k < cs.length), k < i → plC cs[k].place n.place < 0) → (∀ k (hk : k < cs.length), i ≤ k → ¬ plC cs[k].place n.place < 0) → insC n cs = cs.take i ++ n :: cs.drop i
  | [], i, hi, _, _ => by simp at hi; subst hi; rfl
  | c :: cs, 0, _, _, hhi => by
    have : ¬ plC c.place n.place < 0 := hhi 0 (by simp) (Nat.le_refl _)
    rw [insC, if_neg this]; rfl
  | c :: cs, i + 1, hi, hlo, hhi => by
    have : plC c.place n.place < 0 := hlo 0 (by simp) (by omega)
    rw [insC, if_pos this, insC_at n cs i (by simpa using hi) (fun k hk h => hlo (k + 1) (by simpa using hk) (by omega)) (fun k hk h => hhi (k + 1) (by simpa using hk) (by omega))]
    rfl
theorem insC_perm (n : CoinD) : ∀ (cs : List CoinD), (insC n cs).Perm (n :: cs)
  | [] => List.Perm.refl _
  | c :: cs => by
    rw [insC]
    split
    · exact ((insC_perm n cs).cons c).trans (List.Perm.swap n c cs)
    · exact List.Perm.refl _
theorem withC_perm : ∀ (ns cs : List CoinD), (withC cs ns).Perm (ns ++ cs)
  | [], cs => List.Perm.refl _
  | n :: ns, cs => by
    rw [withC]
    exact (withC_perm ns (insC n cs)).trans (((insC_perm n cs).append_left ns).trans List.perm_middle)
theorem withC_snoc : ∀ (ns cs : List CoinD) (n : CoinD), withC cs (ns ++ [n]) = insC n (withC cs ns)
  | [], cs, n => rfl
  | m :: ns, cs, n => by rw [List.cons_append, withC, withC, withC_snoc ns]
theorem mem_insC {n : CoinD} {cs : List CoinD} {x : CoinD} : x ∈ insC n cs ↔ x = n ∨ x ∈ cs := by rw [(insC_perm n cs).mem_iff, List.mem_cons]
theorem mem_withC {ns cs : List CoinD} {x : CoinD} : x ∈ withC cs ns ↔ x ∈ ns ∨ x ∈ cs := by rw [(withC_perm ns cs).mem_iff, List.mem_append]
theorem mem_lessC {cs gone : List CoinD} {x : CoinD} : x ∈ lessC cs gone ↔ x ∈ cs ∧ ¬ hasP gone x.place := by
  unfold lessC goneB hasP
  rw [List.mem_filter]
  simp only [Bool.not_eq_true', List.any_eq_false, plE_iff]
  constructor
  · rintro ⟨h1, h2⟩; exact ⟨h1, fun ⟨c, hc, he⟩ => h2 c hc he⟩
  · rintro ⟨h1, h2⟩; exact ⟨h1, fun c hc he => h2 ⟨c, hc, he⟩⟩
theorem lessC_sorted {cs gone : List CoinD} (h : sortedP cs) : sortedP (lessC cs gone) := h.filter _
theorem ltC_trans {a b c : CoinD} (ha : a.tx.length = 32) (hb : b.tx.length = 32) (hc : c.tx.length = 32) (h1 : ltC a b) (h2 : ltC b c) : ltC a c := plC_trans _ _ _ ha hb hc h1 h2
theorem insC_sorted (n : CoinD) (hn : n.tx.length = 32) : ∀ (cs : List CoinD), all32' cs → sortedP cs → ¬ hasP cs n.place → sortedP (insC n cs)
  | [], _, _, _ => List.pairwise_singleton _ _
  | c :: cs, h32, h, hno => by
    obtain ⟨h1, h2⟩ := List.pairwise_cons.1 h
    rw [insC]
    split
    · rename_i hlt
      refine List.pairwise_cons.2 ⟨fun x hx => ?_, insC_sorted n hn cs (fun x hx => h32 x (by simp [hx])) h2 (fun ⟨x, hx, he⟩ => hno ⟨x, by simp [hx], he⟩)⟩
      rcases mem_insC.1 hx with rfl | hx
      · exact hlt
      · exact h1 x hx
    · rename_i hge
      have hc32 := h32 c (by simp)
      have hlt : ltC n c := by
        unfold ltC
        have hne : plC c.place n.place ≠ 0 := fun hz => hno ⟨c, by simp, plE_eq ((plC_zero _ _ (hc32.trans hn.symm)).1 hz)⟩
        rw [plC_swap c.place n.place]
        omega
      refine List.pairwise_cons.2 ⟨fun x hx => ?_, h⟩
      rcases List.mem_cons.1 hx with rfl | hx
      · exact hlt
      · exact ltC_trans hn hc32 (h32 x (by simp [hx])) hlt (h1 x hx)
theorem ltC_irrefl (a : CoinD) : ¬ ltC a a := by unfold ltC; rw [plC_refl]; omega
theorem ltC_asymm {a b : CoinD} (h : ltC a b) : ¬ ltC b a := by unfold ltC at *; rw [plC_swap a.place b.place]; omega
/-- Two sets in order that hold the same are one. -/
theorem sorted_ext : ∀ (a b : List CoinD), sortedP a → sortedP b → (∀ x, x ∈ a ↔ x ∈ b) → a = b
  | [], [], _, _, _ => rfl
  | [], y :: b, _, _, h => absurd ((h y).2 (by simp)) (by simp)
  | x :: a, [], _, _, h => absurd ((h x).1 (by simp)) (by simp)
  | x :: a, y :: b, ha, hb, h => by
    obtain ⟨a1, a2⟩ := List.pairwise_cons.1 ha
    obtain ⟨b1, b2⟩ := List.pairwise_cons.1 hb
    have hxy : x = y := by
      rcases List.mem_cons.1 ((h x).1 (by simp)) with e | hx
      · exact e
      · rcases List.mem_cons.1 ((h y).2 (by simp)) with e | hy
        · exact e.symm
        · exact absurd (a1 y hy) (ltC_asymm (b1 x hx))
    subst hxy
    rw [sorted_ext a b a2 b2 (fun z => ?_)]
    constructor
    · intro hz
      rcases List.mem_cons.1 ((h z).1 (by simp [hz])) with rfl | h'
      · exact absurd (a1 _ hz) (ltC_irrefl _)
      · exact h'
    · intro hz
      rcases List.mem_cons.1 ((h z).2 (by simp [hz])) with rfl | h'
      · exact absurd (b1 _ hz) (ltC_irrefl _)
      · exact h'
/-- In order: one place, one coin. -/
theorem sorted_one {cs : List CoinD} (h : sortedP cs) {a b : CoinD} (ha : a ∈ cs) (hb : b ∈ cs) (he : a.place = b.place) : a = b := by
  obtain ⟨i, hi, rfl⟩ := List.getElem_of_mem ha
  obtain ⟨j, hj, rfl⟩ := List.getElem_of_mem hb
  have h' := (sorted_iff cs).2 h
  rcases Nat.lt_trichotomy i j with hij | rfl | hij
  · have := h' i j hi hj hij; rw [he, plC_refl] at this; omega
  · rfl
  · have := h' j i hj hi hij; rw [he, plC_refl] at this; omega
/-- Those that are put in are at places of their own. -/
def freshC (cs : List CoinD) : List CoinD → Prop
  | [] => True
  | n :: ns => ¬ hasP cs n.place ∧ ¬ hasP ns n.place ∧ freshC cs ns
theorem hasP_ins {n : CoinD} {cs : List CoinD} {p : PlaceD} : hasP (insC n cs) p ↔ n.place = p ∨ hasP cs p := by
  unfold hasP
  constructor
  · rintro ⟨c, hc, he⟩
    rcases mem_insC.1 hc with rfl | hc
    · exact .inl he
    · exact .inr ⟨c, hc, he⟩
  · rintro (h | ⟨c, hc, he⟩)
    · exact ⟨n, mem_insC.2 (.inl rfl), h⟩
    · exact ⟨c, mem_insC.2 (.inr hc), he⟩
theorem freshC_ins {n : CoinD} {cs : List CoinD} : ∀ {ns : List CoinD}, ¬ hasP ns n.place → freshC cs ns → freshC (insC n cs) ns
  | [], _, _ => trivial
  | m :: ns, h, ⟨h1, h2, h3⟩ => by
    refine ⟨fun hh => ?_, h2, freshC_ins (fun ⟨c, hc, he⟩ => h ⟨c, by simp [hc], he⟩) h3⟩
    rcases hasP_ins.1 hh with e | hh
    · exact h ⟨m, by simp, e.symm⟩
    · exact h1 hh
theorem all32_ins {n : CoinD} {cs : List CoinD} (hn : n.tx.length = 32) (h : all32' cs) : all32' (insC n cs) := fun x hx => by
  rcases mem_insC.1 hx with rfl | hx
  · exact hn
  · exact h x hx
theorem withC_sorted : ∀ (ns cs : List CoinD), all32' ns → all32' cs → sortedP cs → freshC cs ns → sortedP (withC cs ns)
  | [], cs, _, _, h, _ => h
  | n :: ns, cs, hn, hc, h, ⟨h1, h2, h3⟩ => by
    rw [withC]
    exact withC_sorted ns (insC n cs) (fun x hx => hn x (by simp [hx])) (all32_ins (hn n (by simp)) hc) (insC_sorted n (hn n (by simp)) cs hc h h1) (freshC_ins h2 h3)
theorem freshC_mono {cs ds : List CoinD} (h : ∀ p, hasP ds p → hasP cs p) : ∀ {ns : List CoinD}, freshC cs ns → freshC ds ns
  | [], _ => trivial
  | n :: ns, ⟨h1, h2, h3⟩ => ⟨fun hh => h1 (h _ hh), h2, freshC_mono h h3⟩
theorem hasP_less {cs gone : List CoinD} {p : PlaceD} : hasP (lessC cs gone) p ↔ hasP cs p ∧ ¬ hasP gone p := by
  constructor
  · rintro ⟨c, hc, rfl⟩
    obtain ⟨h1, h2⟩ := mem_lessC.1 hc
    exact ⟨⟨c, h1, rfl⟩, h2⟩
  · rintro ⟨⟨c, hc, rfl⟩, h⟩
    exact ⟨c, mem_lessC.2 ⟨hc, h⟩, rfl⟩
theorem hasP_with {ns cs : List CoinD} {p : PlaceD} : hasP (withC cs ns) p ↔ hasP ns p ∨ hasP cs p := by
  unfold hasP
  simp only [mem_withC]
  constructor
  · rintro ⟨c, hc | hc, he⟩
    · exact .inl ⟨c, hc, he⟩
    · exact .inr ⟨c, hc, he⟩
  · rintro (⟨c, hc, he⟩ | ⟨c, hc, he⟩)
    · exact ⟨c, .inl hc, he⟩
    · exact ⟨c, .inr hc, he⟩
end Go.Proofs.YtljcdkfafknnpaaGreatDoor
namespace Go.Proofs.YtljcdkfafknnpaaGreatDoor
set_option linter.unusedVariables false
set_option linter.unusedSimpArgs false
open Go.RowKit
attribute [local go_sem ↓] run_load_agg run_store_agg run_load_any

set_option maxHeartbeats 1000000 in
set_option maxRecDepth 100000 in
theorem gone1_any (g c : CoinD) (so : Option Addr) (n cap C : Nat) (hg : g.tx.length = 32) (hc : c.tx.length = 32) (w : World) (hr : rowAt w C 0 33 = some (plV c.place)) :
    Calls Tryz.prog 95 #[.agg (coinV g (.slice so n cap)), .pointer (some ⟨C, 0, none⟩)] w fun e w' => e = .returned (.bool (plE g.place c.place)) ∧ Below w.heap.size w w' := by
  obtain ⟨n1, n2, n3, n4⟩ := new_coin w g so n cap hg
  unfold zCoin at n1 n2
  have hCw := rowAt_lt hr
  have B0 := Lib.hid ((Below.refl w.heap.size w).alloc (Nat.le_refl _) (.cells (coinV g (.slice so n cap)) 105))
  have r1 := (CoinAt.new w g (.slice so n cap) hg).p
  have r2 : rowAt (w.alloc (.cells (coinV g (.slice so n cap)) 105)) C 0 33 = some (plV c.place) := (rowAt_alloc_past _ _ _ _ _ hCw).trans hr
  have hg32 : g.place.tx.length = 32 := hg
  have hc32 : c.place.tx.length = 32 := hc
  have he := run_eql_place g.place c.place hg32 hc32
  obtain ⟨b, hb⟩ : ∃ b, plE g.place c.place = b := ⟨_, rfl⟩
  rw [hb] at he ⊢
  clear hb hr
  go_enter Tryz.func95, Tryz.ntmps95
  go_upto_region 1 with fail
  clear n1 n2 n3 n4
  change Code.wp _ _ _ _ (w.alloc (.cells (coinV g (.slice so n cap)) 105))
  generalize w.alloc (.cells (coinV g (.slice so n cap)) 105) = wa at B0 r1 r2 ⊢
  go_wp2
  go_ret
  exact ⟨rfl, B0.out⟩
/-- The first of which it holds. -/
def idxF (p : CoinD → Bool) : List CoinD → Nat → Int
  | [], _ => -1
  | c :: cs, k => if p c = true then (k : Int) else idxF p cs (k + 1)
theorem idxF_hit (p : CoinD → Bool) (cs : List CoinD) (j : Nat) (hj : j < cs.length) (h : p cs[j] = true) (k : Nat) : idxF p (cs.drop j) k = k := by
  rw [List.drop_eq_getElem_cons hj, idxF, if_pos h]
theorem idxF_step (p : CoinD → Bool) (cs : List CoinD) (j : Nat) (hj : j < cs.length) (h : p cs[j] = false) (k : Nat) : idxF p (cs.drop j) k = idxF p (cs.drop (j + 1)) (k + 1) := by
  rw [List.drop_eq_getElem_cons hj, idxF, if_neg (by rw [h]; decide)]
theorem idxF_neg (p : CoinD → Bool) : ∀ (cs : List CoinD) (k : Nat), decide (0 ≤ idxF p cs k) = cs.any p
  | [], k => rfl
  | c :: cs, k => by
    unfold idxF
    rw [List.any_cons]
    cases h : p c with
    | true => simp
    | false => simp [idxF_neg p cs (k + 1)]
/-- A function that is walked into. -/
def Enters (f : FuncId) : Prop := ∀ (args : Array Value) (W : World), (callFunc f args).run Tryz.prog W = .ok (.enter f args) W
theorem enters_gone1 : Enters 95 := fun args W => by kernel_rfl
theorem enters_del1 : Enters 93 := fun args W => by kernel_rfl
/-- A closure that tells of a coin whether p holds, in each world that has come of this one. -/
def Tells (w0 : World) (f : FuncId) (cv : Value) (p : CoinD → Bool) : Prop :=
  ∀ (W : World) (c : CoinD) (so : Option Addr) (n cap : Nat), Below w0.heap.size w0 W → c.tx.length = 32 → Calls Tryz.prog f #[.agg (coinV c (.slice so n cap)), cv] W fun e w' => e = .returned (.bool (p c)) ∧ Below W.heap.size W w'
set_option maxHeartbeats 1000000 in
set_option maxRecDepth 100000 in
theorem indexC_any (p : CoinD → Bool) (f : FuncId) (cv : Value) (cs : List CoinD) (ao : Option Addr) (cap : Nat) (w : World) (h : rdSl coinR 36 w (.slice ao cs.length cap) cs) (hp : Tells w f cv p) (hcf : Enters f) :
    Calls Tryz.prog 126 #[.slice ao cs.length cap, .func (Fn.func f) #[] #[cv]] w fun e w' => e = .returned (.int .i64 (idxF p cs 0)) ∧ Below w.heap.size w w' := by
  obtain ⟨_, _, e, hcap, hmax⟩ := sl_bounds h
  cases e
  unfold maxLen at hmax
  have HS := Lib.hid h; have HP := Lib.hid hp; clear h hp
  unfold Enters at hcf
  go_enter Tryz.func126, Tryz.ntmps126
  go_wp2_with fail
  go_loopw [8] (fun c wr => ∃ j : Nat, j ≤ cs.length ∧ c = .int .i64 j ∧ Hid (Below w.heap.size w wr) ∧ Hid (idxF p cs 0 = idxF p (cs.drop j) j)) (fun c _ => cs.length - (intOf c).toNat)
  case atStart => exact ⟨0, by omega, rfl, Lib.hid (Below.refl _ _), Lib.hid rfl⟩
  case round =>
    obtain ⟨j, hj, rfl, HB, HF⟩ := hrel
    by_cases hlt : j < cs.length
    · obtain ⟨g, off, so, scap, rfl, -, h32, d1, d2, hlock, hrow⟩ := coin_at (coinR_stays.slB HS.out HB.out (Nat.le_refl _)) j hlt
      have HH := Lib.hid (idxF_hit p cs j hlt); have HT := Lib.hid (idxF_step p cs j hlt)
      obtain ⟨c, hc⟩ : ∃ c, cs[j] = c := ⟨_, rfl⟩
      rw [hc] at hrow h32 HH HT
      have HC := Lib.hid (HP.out wr c so c.lock.length scap HB.out h32)
      rw [hc] at *
      obtain ⟨b, hb⟩ : ∃ b, p c = b := ⟨_, rfl⟩
      rw [hb] at HC HH HT
      clear hlock d1 d2 hc hb
      go_wp2_with fail
      refine Calls.mono HC.out ?_
      rintro e w1 ⟨rfl, hb1⟩
      have B1 := Lib.hid (HB.out.trans (hb1.mono HB.out.size))
      clear hb1
      cases b
      · have HF2 := Lib.hid (HF.out.trans (HT.out rfl j))
        go_wp2
        go_roundw
        case rel => exact ⟨j + 1, by omega, by go_num, B1, HF2⟩
        case measure => simp [intOf]; omega
      · have HF2 := Lib.hid (HF.out.trans (HH.out rfl j))
        go_wp2
        go_ret
        exact ⟨by rw [HF2.out]; rfl, B1.out⟩
    · have hz : idxF p cs 0 = -1 := by rw [HF.out, List.drop_eq_nil_of_le (by omega)]; rfl
      have HZ := Lib.hid hz
      clear hz
      go_wp2
      go_ret
      exact ⟨by rw [HZ.out]; rfl, HB.out⟩
set_option maxHeartbeats 1000000 in
set_option maxRecDepth 100000 in
theorem containsC_any (p : CoinD → Bool) (f : FuncId) (cv : Value) (cs : List CoinD) (ao : Option Addr) (cap : Nat) (w : World) (h : rdSl coinR 36 w (.slice ao cs.length cap) cs) (hp : Tells w f cv p) (hcf : Enters f) :
    Calls Tryz.prog 94 #[.slice ao cs.length cap, .func (Fn.func f) #[] #[cv]] w fun e w' => e = .returned (.bool (cs.any p)) ∧ Below w.heap.size w w' := by
  have HI := Lib.hid (indexC_any p f cv cs ao cap w h hp hcf)
  have HN := Lib.hid (idxF_neg p cs 0)
  clear h hp hcf
  obtain ⟨x, hx⟩ : ∃ x, idxF p cs 0 = x := ⟨_, rfl⟩
  obtain ⟨b, hb⟩ : ∃ b, cs.any p = b := ⟨_, rfl⟩
  rw [hx] at HI HN
  rw [hb] at HN ⊢
  clear hx hb
  go_enter Tryz.func94, Tryz.ntmps94
  go_wp2_with fail
  refine Calls.mono HI.out ?_
  rintro e w1 ⟨rfl, hd⟩
  have HD := Lib.hid hd
  clear hd HI
  go_wp2
  go_ret
  exact ⟨by rw [← HN.out]; rfl, HD.out⟩
set_option maxHeartbeats 1000000 in
set_option maxRecDepth 100000 in
theorem del1_any (gone : List CoinD) (ga : Option Addr) (gcap B : Nat) (c : CoinD) (so : Option Addr) (n cap : Nat) (hc : c.tx.length = 32) (w : World) (hB : w.cell? ⟨B, 0, none⟩ = some (.slice ga gone.length gcap)) (h : rdSl coinR 36 w (.slice ga gone.length gcap) gone) :
    Calls Tryz.prog 93 #[.agg (coinV c (.slice so n cap)), .pointer (some ⟨B, 0, none⟩)] w fun e w' => e = .returned (.bool (goneB gone c)) ∧ Below w.heap.size w w' := by
  obtain ⟨n1, n2, n3, n4⟩ := new_coin w c so n cap hc
  unfold zCoin at n1 n2
  have hBl : B < w.heap.size := World.block_lt_of_cell? w _ hB
  have B0 := Lib.hid ((Below.refl w.heap.size w).alloc (Nat.le_refl _) (.cells (coinV c (.slice so n cap)) 105))
  have hr0 := (CoinAt.new w c (.slice so n cap) hc).p
  have HR := Lib.hid hr0
  have HS := Lib.hid (coinR_stays.slB h B0.out (Nat.le_refl _))
  have hB1 : (w.alloc (.cells (coinV c (.slice so n cap)) 105)).cell? ⟨B, 0, none⟩ = some (.slice ga gone.length gcap) := (B0.out.cell (p := ⟨B, 0, none⟩) hBl).trans hB
  obtain ⟨b, hb⟩ : ∃ b, goneB gone c = b := ⟨_, rfl⟩
  have HG : Hid (gone.any (fun g => plE g.place c.place) = b) := hb
  rw [hb]
  clear h hB hr0 hb
  go_enter Tryz.func93, Tryz.ntmps93
  go_upto_region 1 with fail
  clear n1 n2 n3 n4
  change Code.wp _ _ _ _ (w.alloc (.cells (coinV c (.slice so n cap)) 105))
  obtain ⟨C, hC⟩ : ∃ C, w.heap.size = C := ⟨_, rfl⟩
  rw [hC] at HR ⊢
  clear hC
  generalize w.alloc (.cells (coinV c (.slice so n cap)) 105) = wa at B0 HR HS hB1 ⊢
  have HT : Hid (Tells wa 95 (.pointer (some ⟨C, 0, none⟩)) fun g => plE g.place c.place) := fun W g so n cap hW hg => gone1_any g c so n cap C hg hc W ((rowAt_below hW (rowAt_lt HR.out) _ _).trans HR.out)
  have HCC := Lib.hid (containsC_any (fun g => plE g.place c.place) 95 (.pointer (some ⟨C, 0, none⟩)) gone ga gcap wa HS.out HT.out enters_gone1)
  rw [HG.out] at HCC
  clear HG
  go_wp2_with fail
  refine Calls.mono HCC.out ?_
  rintro e w1 ⟨rfl, hd⟩
  have B1 := Lib.hid (B0.out.trans (hd.mono B0.out.size))
  clear hd
  go_wp2
  go_ret
  exact ⟨rfl, B1.out⟩
end Go.Proofs.YtljcdkfafknnpaaGreatDoor
namespace Go.Proofs.YtljcdkfafknnpaaGreatDoor
set_option linter.unusedVariables false
set_option linter.unusedSimpArgs false
open Go.RowKit

theorem opO_but {w w' : World} {base g : Nat} {c : Array Value} {fr : Nat × Nat} {t : TypeId} (ht : 5 ≠ t) (hg : w.heap[g]? = some (.cells c t fr)) (hk : ∀ k, k ≠ g → k < w.heap.size → w'.heap[k]? = w.heap[k]?) {o : OpD} {cs : List Value} (h : opO base w o cs) : opO base w' o cs := by
  obtain ⟨s, h1, h2⟩ := h
  exact ⟨s, h1, own_kept h2 fun k hk2 _ hlt => hk k (fun e => own_ne h2 hg ht (by rw [hk2, e])) hlt⟩
theorem coinO_but {w w' : World} {base g : Nat} {cc : Array Value} {fr : Nat × Nat} (hg : w.heap[g]? = some (.cells cc 105 fr)) (hk : ∀ k, k ≠ g → k < w.heap.size → w'.heap[k]? = w.heap[k]?) {c : CoinD} {cs : List Value} (h : coinO base w c cs) : coinO base w' c cs := by
  obtain ⟨s, ys, h1, h2, h3, h4⟩ := h
  exact ⟨s, ys, h1, h2, own_kept h3 fun k hk2 _ hlt => hk k (fun e => own_ne h3 hg (by decide) (by rw [hk2, e])) hlt, rdEach_map h4 (fun a cs ha => opO_but (by decide) hg hk ha)⟩
theorem coinO_base {w : World} {base base' : Nat} (hb : base' ≤ base) {c : CoinD} {cs : List Value} (h : coinO base w c cs) : coinO base' w c cs := by
  obtain ⟨s, ys, h1, h2, h3, h4⟩ := h
  exact ⟨s, ys, h1, h2, own_base h3 hb, rdEach_map h4 (fun a cs ⟨s, q1, q2⟩ => ⟨s, q1, own_base q2 hb⟩)⟩
/-- A set of the call's own. -/
def setO (base : Nat) (w : World) (v : Value) (cs : List CoinD) : Prop := ∃ xs, own w base 105 36 v cs.length xs ∧ rdEach (coinO base) 36 w cs xs
theorem setO.rd {base : Nat} {w : World} {v : Value} {cs : List CoinD} (h : setO base w v cs) : rdSl coinR 36 w v cs := by
  obtain ⟨xs, h1, h2⟩ := h
  exact ⟨xs, own_rd h1, rdEach_map h2 (fun a cs ha => coinO_rd ha)⟩
theorem setO.below {base : Nat} {w w' : World} {v : Value} {cs : List CoinD} (h : setO base w v cs) (hb : Below w.heap.size w w') : setO base w' v cs := by
  obtain ⟨xs, h1, h2⟩ := h
  exact ⟨xs, own_below hb h1 (Nat.le_refl _), rdEach_map h2 (fun a cs ha => coinO_below hb ha)⟩
theorem setO.alloc {base : Nat} {w : World} {v : Value} {cs : List CoinD} (h : setO base w v cs) (o : Obj) : setO base (w.alloc o) v cs := h.below ((Below.refl _ _).alloc (Nat.le_refl _) o)
theorem setO.base {base base' : Nat} {w : World} {v : Value} {cs : List CoinD} (h : setO base w v cs) (hb : base' ≤ base) : setO base' w v cs := by
  obtain ⟨xs, h1, h2⟩ := h
  exact ⟨xs, own_base h1 hb, rdEach_map h2 (fun a cs ha => coinO_base hb ha)⟩
theorem setO.nil (base : Nat) (w : World) : setO base w (.slice none 0 0) [] := ⟨[], own_nil _ _ _ _, rdEach_nil _ _ _⟩
/-- Writes to one row of coins that is no row of it. -/
theorem setO.grown {base : Nat} {w w' : World} {v u : Value} {cs : List CoinD} {base2 sz n : Nat} {xs : List Value} (h : setO base w v cs) (hu : own w base2 105 sz u n xs) (hg : w.grownBy w' (wrow u)) (hne : ∀ k, wrow v = some k → wrow u ≠ some k) : setO base w' v cs := by
  obtain ⟨ys, h1, h2⟩ := h
  refine ⟨ys, own_kept h1 fun k hk _ hlt => hg.block k hlt (fun e => hne k hk e.symm), rdEach_map h2 (fun a cs ha => coinO_grown hu hg ha)⟩
theorem coinV_back {c : CoinD} {s : Value} {es : List Value} (h : es = c.tx.map vB ++ [.int .i64 c.ix, .int .i64 c.amount, s, .int .i64 c.height]) : es.toArray = coinV c s := by
  subst h
  simp [coinV, dgV]
theorem setO.at {base : Nat} {w : World} {ao : Option Addr} {n cap : Nat} {cs : List CoinD} (h : setO base w (.slice ao n cap) cs) (j : Nat) (hj : j < cs.length) :
    ∃ g off so scap, ao = some ⟨g, off, none⟩ ∧ n = cs.length ∧ cs[j].tx.length = 32 ∧ cs[j].lock.length ≤ scap ∧ scap ≤ 2 ^ 63 - 1 ∧ rowAt w g (off + j * 36) 36 = some (coinV cs[j] (.slice so cs[j].lock.length scap)) ∧
      coinO base w cs[j] (coinV cs[j] (.slice so cs[j].lock.length scap)).toList := by
  obtain ⟨xs, h1, h2⟩ := h
  obtain ⟨g, off, cap', es, e, hO, hl, hrow⟩ := rdSl_row (R := coinO base) (sz := 36) ⟨xs, own_rd h1, h2⟩ (by decide) j cs[j] (List.getElem?_eq_getElem hj)
  cases e
  have hO' := hO
  obtain ⟨s, ys, e2, h32, h3, h4⟩ := hO'
  have h3' := h3
  obtain ⟨-, so, scap, rfl, s1, s2, -⟩ := h3'
  have e3 := coinV_back e2
  refine ⟨g, off, so, scap, rfl, rfl, h32, s1, by unfold maxLen at s2; omega, by rw [hrow, e3], ?_⟩
  rw [← e3]; exact hO
theorem own_elem {w : World} {base : Nat} {e : TypeId} {sz g off n cap : Nat} {xs : List Value} (h : own w base e sz (.slice (some ⟨g, off, none⟩) n cap) n xs) (i : Nat) (hi : i < n) :
    (rowAt w g (off + i * sz) sz).isSome = true ∧ wrAt w g = true ∧ base ≤ g ∧ g < w.heap.size ∧ ∃ c, w.heap[g]? = some (.cells c e (0, 0)) := by
  obtain ⟨hl, ao', cap', hv, h1, h2, h3⟩ := h
  cases hv
  rcases h3 with h3 | ⟨g', off', cur, e2, hb, hg, hs, hx⟩
  · omega
  · cases e2
    have hle : i * sz + sz ≤ cap * sz := by
      have := Nat.mul_le_mul_right sz (show i + 1 ≤ cap by omega)
      rw [Nat.add_mul] at this; omega
    exact ⟨by rw [rowAt_of_heap hg _ _ (by omega)]; rfl, wrAt_of_heap hg, hb, (Array.getElem?_eq_some_iff.1 hg).1, cur, hg⟩
theorem own_put {w : World} {base : Nat} {e : TypeId} {sz g off n cap : Nat} {xs : List Value} (h : own w base e sz (.slice (some ⟨g, off, none⟩) n cap) n xs) (i : Nat) (hi : i < n) (cs : Array Value) (hc : cs.size = sz) :
    own (putAt w g (off + i * sz) cs) base e sz (.slice (some ⟨g, off, none⟩) n cap) n (xs.take (i * sz) ++ cs.toList ++ xs.drop ((i + 1) * sz)) := by
  obtain ⟨hl, ao', cap', hv, h1, h2, h3⟩ := h
  cases hv
  have hle : i * sz + sz ≤ n * sz := by
    have := Nat.mul_le_mul_right sz (show i + 1 ≤ n by omega)
    rw [Nat.add_mul] at this; omega
  have hle2 : n * sz ≤ cap * sz := Nat.mul_le_mul_right _ h1
  have e1 : (i + 1) * sz = i * sz + sz := by rw [Nat.add_mul]; omega
  refine ⟨by simp only [List.length_append, List.length_take, List.length_drop, Array.length_toList]; omega, _, _, rfl, h1, h2, ?_⟩
  rcases h3 with h3 | ⟨g', off', cur, e2, hb, hg, hs, hx⟩
  · omega
  · cases e2
    refine .inr ⟨g, off, spliceAt cur (off + i * sz) cs, rfl, hb, by rw [putAt_of_heap hg]; exact setRow_heap _ _ _ _ _ _ hg, ?_, ?_⟩
    · simp only [spliceAt, List.size_toArray, List.length_append, List.length_take, List.length_drop, Array.length_toList]; omega
    · subst hx
      apply List.ext_getElem?
      intro k
      simp only [spliceAt, List.toList_toArray]
      rw [List.getElem?_take]
      by_cases hk : k < n * sz
      · rw [if_pos hk, List.getElem?_drop]
        by_cases h5 : k < i * sz
        · rw [List.append_assoc, List.getElem?_append_left (by simp; omega), List.getElem?_take, if_pos (by omega), List.append_assoc, List.getElem?_append_left (by simp; omega), List.getElem?_take, if_pos h5, List.getElem?_take, if_pos hk, List.getElem?_drop]
        · by_cases h6 : k < i * sz + sz
          · rw [List.append_assoc, List.getElem?_append_right (by simp; omega), List.getElem?_append_left (by simp; omega), List.append_assoc, List.getElem?_append_right (by simp; omega), List.getElem?_append_left (by simp; omega)]
            congr 1; simp; omega
          · rw [List.getElem?_append_right (by simp; omega), List.getElem?_append_right (by simp; omega), List.getElem?_drop, List.getElem?_drop, List.getElem?_take, if_pos (by simp; omega), List.getElem?_drop]
            congr 1; simp; omega
      · rw [if_neg hk, List.getElem?_eq_none (by simp; omega)]
theorem rdEach_set {α : Type} {R : Rd α} {sz : Nat} {w : World} {c : α} {cs : List Value} (hc : R w c cs) (hl : cs.length = sz) : ∀ (ds : List α) (i : Nat) (xs : List Value), i < ds.length → rdEach R sz w ds xs → rdEach R sz w (ds.set i c) (xs.take (i * sz) ++ cs ++ xs.drop ((i + 1) * sz))
  | d :: ds, 0, xs, _, h => by
    obtain ⟨h1, h2, h3⟩ := rdEach_cons h
    simp only [Nat.zero_mul, List.take_zero, List.nil_append, List.set_cons_zero, Nat.zero_add, Nat.one_mul]
    exact rdEach_cons_mk hc hl h3
  | d :: ds, i + 1, xs, hi, h => by
    obtain ⟨h1, h2, h3⟩ := rdEach_cons h
    have := rdEach_cons_mk h1 h2 (rdEach_set hc hl ds i (xs.drop sz) (by simpa using hi) h3)
    rw [List.set_cons_succ]
    have e : xs.take ((i + 1) * sz) ++ cs ++ xs.drop ((i + 1 + 1) * sz) = xs.take sz ++ ((xs.drop sz).take (i * sz) ++ cs ++ (xs.drop sz).drop ((i + 1) * sz)) := by
      rw [List.drop_drop, show (i + 1) * sz = sz + i * sz from by rw [Nat.add_mul]; omega, show (i + 1 + 1) * sz = sz + (sz + i * sz) from by rw [Nat.add_mul, Nat.add_mul]; omega, List.take_add]
      simp only [List.append_assoc]
    rw [e]; exact this
/-- A coin is laid over another one. -/
theorem setO.put {base : Nat} {w : World} {g off n cap : Nat} {cs : List CoinD} (h : setO base w (.slice (some ⟨g, off, none⟩) n cap) cs) (hn : n = cs.length) (i : Nat) (hi : i < cs.length) (c : CoinD) (s : Value) (hc : coinO base w c (coinV c s).toList) (h32 : c.tx.length = 32) :
    (rowAt w g (off + i * 36) 36).isSome = true ∧ wrAt w g = true ∧ base ≤ g ∧ setO base (putAt w g (off + i * 36) (coinV c s)) (.slice (some ⟨g, off, none⟩) n cap) (cs.set i c) := by
  subst hn
  obtain ⟨xs, h1, h2⟩ := h
  obtain ⟨q1, q2, q3, q4, cc, q5⟩ := own_elem h1 i hi
  have hk : ∀ k, k ≠ g → k < w.heap.size → (putAt w g (off + i * 36) (coinV c s)).heap[k]? = w.heap[k]? := fun k hk _ => putAt_other _ _ _ _ k hk
  refine ⟨q1, q2, q3, xs.take (i * 36) ++ (coinV c s).toList ++ xs.drop ((i + 1) * 36), ?_, ?_⟩
  · rw [List.length_set]; exact own_put h1 i hi (coinV c s) (coinV_size c s h32)
  · exact rdEach_set (coinO_but q5 hk hc) (by rw [Array.length_toList, coinV_size c s h32]) cs i xs hi (rdEach_map h2 (fun a es ha => coinO_but q5 hk ha))
theorem rdEach_take {α : Type} {R : Rd α} {sz : Nat} {w : World} {zs : List α} {xs : List Value} (h : rdEach R sz w zs xs) (i : Nat) (hi : i ≤ zs.length) : rdEach R sz w (zs.take i) (xs.take (i * sz)) := by
  obtain ⟨h1, h2⟩ := h
  have hle : i * sz ≤ zs.length * sz := Nat.mul_le_mul_right _ hi
  refine ⟨by simp only [List.length_take]; rw [Nat.min_eq_left hi]; omega, fun j a ha => ?_⟩
  rw [List.getElem?_take] at ha
  split at ha
  · rename_i hj
    have := h2 j a ha
    have hle2 : j * sz + sz ≤ i * sz := by
      have := Nat.mul_le_mul_right sz (show j + 1 ≤ i by omega)
      rw [Nat.add_mul] at this; omega
    rw [List.drop_take, List.take_take, Nat.min_eq_left (by omega)]
    exact this
  · cases ha
theorem zero_plain (z : Array Value) (n : Nat) (h : plainCells z = true) : ∀ u ∈ (Builtin.zeroCells z n).toList, u.oneCell' = true := by
  intro u hu
  unfold Builtin.zeroCells at hu
  rw [Array.toList_map] at hu
  obtain ⟨i, hi, rfl⟩ := List.mem_map.1 hu
  have hi' : i < n * z.size := by simpa using hi
  have hz : 0 < z.size := by
    rcases Nat.eq_zero_or_pos z.size with e | e
    · rw [e] at hi'; omega
    · exact e
  have hlt := Nat.mod_lt i hz
  unfold plainCells at h
  rw [getElem!_pos z (i % z.size) hlt]
  exact List.all_eq_true.1 h _ (by simp)
section
variable {P : Program}
theorem run_clear (w : World) (t ty e : TypeId) (i : TypeInfo) (z : Value) (ht : P.underlying t = some (.slice e)) (hi : P.info? e = some i) (hz : i.zero = some z) (hp : plainCells z.cells = true) (g off m cap : Nat) (cur : Array Value) (t' : TypeId) (hm : 0 < m)
    (hg : w.heap[g]? = some (.cells cur t' (0, 0))) (hfit : off + m * z.cells.size ≤ cur.size) :
    (Builtin.clear_ #[t] ty #[.slice (some ⟨g, off, none⟩) m cap]).run P w = .ok (.tuple #[]) (w.setRow g (cur.toList.take off ++ (Builtin.zeroCells z.cells m).toList ++ cur.toList.drop (off + m * z.cells.size)).toArray) := by
  have hl : (Builtin.zeroCells z.cells m).toList.length = m * z.cells.size := by rw [Array.length_toList, size_zeroCells]
  have hst := run_storeCells_at P g off t' (Builtin.zeroCells z.cells m).toList 0 cur w hg (by rw [hl]; simpa using hfit) (zero_plain _ _ hp)
  simp only [Nat.add_zero, hl] at hst
  obtain ⟨m, rfl⟩ : ∃ k, m = k + 1 := ⟨m - 1, by omega⟩
  simp [Builtin.clear_, run_underlying ht, zeroValue, hi, hz, typeInfo, hst]
/-- 'clear(s[i:])' and then 's[:i]': what is left. -/
theorem wpList_clear_own {ops : Array Oper} {rest : List Oper} {o : Oper} {a : Act} {w : World} {Q : Exit → Act → World → Prop} (hgd : o.guard = none) (x : Operand) (t : TypeId)
    (ho : o.op = .call { callee := .builtin .clear, args := #[x], argTypes := #[t] })
    (e : TypeId) (i : TypeInfo) (z : Value) (sz : Nat) (ht : P.underlying t = some (.slice e)) (hi : P.info? e = some i) (hz : i.zero = some z) (hzs : z.cells.size = sz) (hp : plainCells z.cells = true)
    (base g off n cap k : Nat) (xs : List Value) (hown : own w base e sz (.slice (some ⟨g, off, none⟩) n cap) n xs) (hk : k < n) (hx : a.eval x = .slice (some ⟨g, off + k * sz, none⟩) (n - k) (cap - k))
    (h : ∀ w', own w' base e sz (.slice (some ⟨g, off, none⟩) k cap) k (xs.take (k * sz)) → (∀ q, q ≠ g → w'.heap[q]? = w.heap[q]?) → w.grownBy w' (some g) → wpList P ops Q rest (a.put o.dst (.tuple #[])) w') : wpList P ops Q (o :: rest) a w := by
  subst hzs
  refine wpList_plain hgd fun K hK => ?_
  obtain ⟨hl, ao', cap', hv, h1, h2, h3⟩ := hown
  cases hv
  rcases h3 with h3 | ⟨g', off', cur, e2, hb, hg, hs, hxs⟩
  · omega
  · cases e2
    have hle : k * z.cells.size ≤ n * z.cells.size := Nat.mul_le_mul_right _ (by omega)
    have hle2 : n * z.cells.size ≤ cap * z.cells.size := Nat.mul_le_mul_right _ h1
    have hmul : n * z.cells.size - k * z.cells.size = (n - k) * z.cells.size := (Nat.sub_mul _ _ _).symm
    have hrun := run_clear (P := P) w t o.type e i z ht hi hz hp g (off + k * z.cells.size) (n - k) (cap - k) cur e (by omega) hg (by omega)
    have hzl : (Builtin.zeroCells z.cells (n - k)).toList.length = (n - k) * z.cells.size := by rw [Array.length_toList, size_zeroCells]
    unfold Oper.wp
    simp [execOp, ho, resolve, invoke, builtin, hx, hrun, Result.andThen]
    refine hK _ _ (h _ ⟨by rw [List.length_take]; omega, _, _, rfl, by omega, h2, .inr ⟨g, off, _, rfl, hb, setRow_heap _ _ _ _ _ _ hg, ?_, ?_⟩⟩ (fun q hq => setRow_other w g q _ hq) ⟨rfl, rfl, rfl, by simp [World.setRow], fun q _ hq => setRow_other w g q _ (fun e => hq (by rw [e]))⟩)
    · simp only [List.size_toArray, List.length_append, List.length_take, List.length_drop, hzl, Array.length_toList, List.append_assoc]; omega
    · subst hxs
      simp only [List.append_assoc]
      rw [List.drop_append_of_le_length (by simp; omega), List.take_append_of_le_length (by simp; omega), List.take_take, Nat.min_eq_left (by omega), List.drop_take, List.take_take, Nat.min_eq_left (by omega)]
end
end Go.Proofs.YtljcdkfafknnpaaGreatDoor
