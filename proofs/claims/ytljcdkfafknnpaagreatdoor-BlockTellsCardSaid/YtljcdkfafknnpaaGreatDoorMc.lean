/- Merged: Ocp Ins Wth Mad Mde Tot Worth App Dlf Apl Mdl Alw Frmt. Conditions: none beyond each theorem's own. -/
import Derived.Test.YtljcdkfafknnpaaGreatDoorMb
import Derived.Lib.AppendZerosOnto
import Derived.Lib.Overlaps
import Derived.Laws.CopyOwn
import Derived.Deep.DeepCutAuto
import Derived.Outline
import Derived.Test.YtljcdkfafknnpaaGreatDoorMa
import Derived.Laws.Tables
import Derived.Test.YtljcdkfafknnpaaGreatDoorCards
import Derived.Test.YtljcdkfafknnpaaGreatDoorTie
import Derived.WalkKit
import Derived.ProofKit
import Derived.Deep.DeepHandedRow
import Derived.Lib.LaidTab
namespace Go.Proofs.YtljcdkfafknnpaaGreatDoor
set_option linter.unusedVariables false
set_option linter.unusedSimpArgs false
open Go.RowKit
section
variable {P : Program}
/-- For the walk; where the slice lies then. -/
theorem wpList_append_row {ops : Array Oper} {rest : List Oper} {o : Oper} {a : Act} {w : World} {Q : Exit → Act → World → Prop} (hgd : o.guard = none) (s x : Operand) (t : TypeId)
    (ho : o.op = .call { callee := .builtin .append, args := #[s, x], argTypes := #[t, t] })
    (e : TypeId) (i : TypeInfo) (z : Value) (sz bytes : Nat) (ht : P.underlying t = some (.slice e)) (hi : P.info? e = some i) (hz : i.zero = some z)
    (hsz : i.size = sz) (hby : i.bytes = bytes) (hzs : z.cells.size = sz) (h0 : 0 < sz)
    (base n : Nat) (xs : List Value) (hown : own w base e sz (a.eval s) n xs)
    (m : Nat) (news : List Value) (hl : news.length = m * sz) (hx : rd w (a.eval x) m news) (h1 : ∀ u ∈ news, u.oneCell' = true)
    (h63 : n + m ≤ maxLen) (hbytes : (n + m) * bytes ≤ 140737488355328) (hbase : base ≤ w.heap.size)
    (h : ∀ v' w', own w' base e sz v' (n + m) (xs ++ news) → w.grownBy w' (wrow (a.eval s)) → (wrow v' = wrow (a.eval s) ∨ ∀ k, wrow v' = some k → w.heap.size ≤ k) → wpList P ops Q rest (a.put o.dst v') w') : wpList P ops Q (o :: rest) a w := by
  refine wpList_plain hgd fun K hK => ?_
  obtain ⟨v', w', hrun, r1, r2, r3, r4⟩ := run_append_row (P := P) w base t o.type e i z sz bytes ht hi hz hsz hby hzs h0 (a.eval s) n xs hown (a.eval x) m news hl hx h1 h63 hbytes hbase
  unfold Oper.wp
  simp [execOp, ho, resolve, invoke, builtin, hrun, Result.andThen]
  exact hK _ _ (h v' w' r1 r3 r4)
/-- A slice of the call's own, longer by one that it has to spare. -/
theorem own_more {w : World} {base : Nat} {e : TypeId} {sz : Nat} {ao : Option Addr} {n cap : Nat} {xs : List Value} (h : own w base e sz (.slice ao n cap) n xs) (hn : n < cap) : ∃ js : List Value, js.length = sz ∧ own w base e sz (.slice ao (n + 1) cap) (n + 1) (xs ++ js) := by
  obtain ⟨hl, ao', cap', hv, h1, h2, h3⟩ := h
  cases hv
  rcases h3 with h3 | ⟨g, off, cur, rfl, hb, hg, hs, hx⟩
  · omega
  · have hle : (n + 1) * sz ≤ cap * sz := Nat.mul_le_mul_right _ hn
    rw [Nat.add_mul, Nat.one_mul] at hle
    refine ⟨(cur.toList.drop (off + n * sz)).take sz, by simp; omega, ?_, _, _, rfl, hn, h2, .inr ⟨g, off, cur, rfl, hb, hg, hs, ?_⟩⟩
    · simp only [List.length_append, hl, List.length_take, List.length_drop, Array.length_toList, Nat.add_mul, Nat.one_mul]; omega
    · rw [Nat.add_mul, Nat.one_mul, List.take_add, hx, List.drop_drop]
/-- A copy into it. -/
theorem run_copy_own (w : World) (dT sT ty e : TypeId) (sz : Nat) (hu : P.underlying dT = some (.slice e)) (hs : (P.info? e).map (·.size) = some sz) (base g off N cap k dl dc sl sc m : Nat) (ys cs : List Value) (ad : Addr)
    (hown : own w base e sz (.slice (some ⟨g, off, none⟩) N cap) N ys) (hm : m = Nat.min sl dl) (hl : cs.length = m * sz) (hk : k + m ≤ N) (hN : 0 < N) (hsrc : ∀ j u, cs[j]? = some u → w.cell? (ad.add j) = some u) (h1 : ∀ u ∈ cs, u.oneCell' = true) :
    ∃ w', (Builtin.copy_ #[dT, sT] ty #[.slice (some ⟨g, off + k * sz, none⟩) dl dc, .slice (some ad) sl sc]).run P w = .ok (goInt m) w' ∧ own w' base e sz (.slice (some ⟨g, off, none⟩) N cap) N (splice ys (k * sz) cs) ∧ (∀ q, q ≠ g → w'.heap[q]? = w.heap[q]?) ∧ w.grownBy w' (some g) := by
  obtain ⟨hyl, ao', cap', hv, q1, q2, q3⟩ := hown
  cases hv
  rcases q3 with q3 | ⟨g', off', cur, e2, hb, hg, hsz, hx⟩
  · omega
  · cases e2
    have hle : (k + m) * sz ≤ N * sz := Nat.mul_le_mul_right _ hk
    rw [Nat.add_mul] at hle
    have hle2 : N * sz ≤ cap * sz := Nat.mul_le_mul_right _ q1
    have hld := run_loadCells_list (P := P) w ad cs hsrc
    have hst := run_storeCells_at P g (off + k * sz) e cs 0 cur w hg (by omega) h1
    simp only [Nat.add_zero] at hst
    refine ⟨w.setRow g (cur.toList.take (off + k * sz) ++ cs ++ cur.toList.drop (off + k * sz + cs.length)).toArray, ?_, ⟨?_, _, _, rfl, q1, q2, .inr ⟨g, off, _, rfl, hb, setRow_heap _ _ _ _ _ _ hg, ?_, ?_⟩⟩, fun q hq => setRow_other w g q _ hq, ⟨rfl, rfl, rfl, by simp [World.setRow], fun q _ hq => setRow_other w g q _ (fun e => hq (by rw [e]))⟩⟩
    · cases hq : P.info? e with
      | none => simp [hq] at hs
      | some i =>
        have hi : i.size = sz := by simpa [hq] using hs
        have hmn : Nat.min sl dl * sz = cs.length := by rw [← hm, hl]
        simp [Builtin.copy_, run_underlying hu, Builtin.lenOf, Builtin.firstCells, sizeOf, typeInfo, hq, hi, ← hm, ← hl, hld, hst]
    · rw [length_splice _ _ _ (by omega)]; exact hyl
    · simp only [List.size_toArray, List.length_append, List.length_take, List.length_drop, Array.length_toList]; omega
    · subst hx
      simp only [splice]
      have e1 : (cur.toList.take (off + k * sz) ++ cs ++ cur.toList.drop (off + k * sz + cs.length)).drop off = (cur.toList.drop off).take (k * sz) ++ (cs ++ (cur.toList.drop off).drop (k * sz + cs.length)) := by
        rw [List.append_assoc, List.drop_append_of_le_length (by simp; omega), List.drop_take, List.drop_drop, show off + k * sz - off = k * sz from by omega, Nat.add_assoc]
      rw [e1, List.take_append, List.take_append]
      simp only [List.take_take, List.length_take, List.length_drop, Array.length_toList]
      rw [show min (N * sz) (k * sz) = k * sz from by omega, show min (k * sz) (N * sz) = k * sz from by omega, show min (k * sz) (cur.size - off) = k * sz from by omega, List.take_of_length_le (l := cs) (by omega), List.drop_take]
      congr 3
      omega
theorem wpList_copy_ownN {ops : Array Oper} {rest : List Oper} {o : Oper} {a : Act} {w : World} {Q : Exit → Act → World → Prop} (hgd : o.guard = none) (d s : Operand) (dT sT : TypeId)
    (ho : o.op = .call { callee := .builtin .copy, args := #[d, s], argTypes := #[dT, sT] }) (e : TypeId) (sz : Nat) (hu : P.underlying dT = some (.slice e)) (hs : (P.info? e).map (·.size) = some sz) (base g off N cap k dl dc sl sc m : Nat) (ys cs : List Value) (ad : Addr)
    (hd : a.eval d = .slice (some ⟨g, off + k * sz, none⟩) dl dc) (hsv : a.eval s = .slice (some ad) sl sc)
    (hown : own w base e sz (.slice (some ⟨g, off, none⟩) N cap) N ys) (hm : m = Nat.min sl dl) (hl : cs.length = m * sz) (hk : k + m ≤ N) (hN : 0 < N) (hsrc : ∀ j u, cs[j]? = some u → w.cell? (ad.add j) = some u) (h1 : ∀ u ∈ cs, u.oneCell' = true)
    (h : ∀ w', own w' base e sz (.slice (some ⟨g, off, none⟩) N cap) N (splice ys (k * sz) cs) → (∀ q, q ≠ g → w'.heap[q]? = w.heap[q]?) → w.grownBy w' (some g) → wpList P ops Q rest (a.put o.dst (goInt m)) w') : wpList P ops Q (o :: rest) a w := by
  refine wpList_plain hgd fun K hK => ?_
  obtain ⟨w', hrun, r1, r2, r3⟩ := run_copy_own (P := P) w dT sT o.type e sz hu hs base g off N cap k dl dc sl sc m ys cs ad hown hm hl hk hN hsrc h1
  unfold Oper.wp
  simp [execOp, ho, resolve, invoke, builtin, hd, hsv, hrun, Result.andThen]
  exact hK _ _ (h w' r1 r2 r3)
theorem step_copy_ownN {ops : Array Oper} {o : Oper} {a : Act} {w : World} {K : Act → World → Prop} {Q : Exit → Act → World → Prop} {E : Prop} (hgd : o.guard = none) (d s : Operand) (dT sT : TypeId)
    (ho : o.op = .call { callee := .builtin .copy, args := #[d, s], argTypes := #[dT, sT] }) (e : TypeId) (sz : Nat) (hu : P.underlying dT = some (.slice e)) (hs : (P.info? e).map (·.size) = some sz) (base g off N cap k dl dc sl sc m : Nat) (ys cs : List Value) (ad : Addr)
    (hd : a.eval d = .slice (some ⟨g, off + k * sz, none⟩) dl dc) (hsv : a.eval s = .slice (some ad) sl sc)
    (hown : own w base e sz (.slice (some ⟨g, off, none⟩) N cap) N ys) (hm : m = Nat.min sl dl) (hl : cs.length = m * sz) (hk : k + m ≤ N) (hN : 0 < N) (hsrc : ∀ j u, cs[j]? = some u → w.cell? (ad.add j) = some u) (h1 : ∀ u ∈ cs, u.oneCell' = true)
    (h : ∀ w', own w' base e sz (.slice (some ⟨g, off, none⟩) N cap) N (splice ys (k * sz) cs) → (∀ q, q ≠ g → w'.heap[q]? = w.heap[q]?) → w.grownBy w' (some g) → K (a.put o.dst (goInt m)) w') :
    if Region.wanted o (yielded ops a.tmps) = true then Oper.wp P o a w K Q else E := by
  have hw : Region.wanted o (yielded ops a.tmps) = true := by simp [Region.wanted, hgd]
  rw [if_pos hw]
  obtain ⟨w', hrun, r1, r2, r3⟩ := run_copy_own (P := P) w dT sT o.type e sz hu hs base g off N cap k dl dc sl sc m ys cs ad hown hm hl hk hN hsrc h1
  unfold Oper.wp
  simp [execOp, ho, resolve, invoke, builtin, hd, hsv, hrun, Result.andThen]
  exact h w' r1 r2 r3
/-- 'append(s[:i], make(S, k)...)' where there is no room for k more. -/
theorem wpList_grow_zeros {ops : Array Oper} {rest : List Oper} {o : Oper} {a : Act} {w : World} {Q : Exit → Act → World → Prop} (hgd : o.guard = none) (s x : Operand) (t tn : TypeId)
    (ho : o.op = .call { callee := .builtin .append, args := #[s, x], argTypes := #[t, tn] })
    (e : TypeId) (ti : TypeInfo) (z : Value) (kn kq : IntKind) (sz bytes : Nat) (ht : P.underlying t = some (.slice e)) (htn : P.underlying tn = some (.int kn)) (hi : P.info? e = some ti) (hz : ti.zero = some z)
    (hsz : ti.size = sz) (hby : ti.bytes = bytes) (hzs : z.cells.size = sz) (h0 : 0 < sz)
    (base i cap k : Nat) (ao : Option Addr) (xs : List Value) (hs : a.eval s = .slice ao i cap) (hx : a.eval x = .int kq k) (hown : own w base e sz (.slice ao i cap) i xs) (hk : 0 < k) (hroom : cap < i + k)
    (h63 : i + k ≤ maxLen) (hbytes : (i + k) * bytes ≤ 140737488355328) (hbase : base ≤ w.heap.size)
    (h : ∀ cap' w', own w' base e sz (.slice (some ⟨w.heap.size, 0, none⟩) (i + k) cap') (i + k) (xs ++ (Builtin.zeroCells z.cells k).toList) → Below w.heap.size w w' → wpList P ops Q rest (a.put o.dst (.slice (some ⟨w.heap.size, 0, none⟩) (i + k) cap')) w') : wpList P ops Q (o :: rest) a w := by
  subst hsz
  subst hby
  refine wpList_plain hgd fun K hK => ?_
  obtain ⟨hl, ao', cap', hv, q1, q2, q3⟩ := hown
  cases hv
  have holds : (Builtin.firstCells ti.size i (.slice ao i cap)).run P w.drew = .ok xs.toArray w.drew := by
    rcases q3 with q3 | ⟨g, off, cur, rfl, hbg, hg, hsz, htake⟩
    · subst q3
      obtain rfl : i = 0 := by omega
      obtain rfl : xs = [] := List.eq_nil_of_length_eq_zero (by simpa using hl)
      cases ao <;> simp [Builtin.firstCells, loadCells, loadCellsFrom]
    · refine run_firstCells_some (P := P) w.drew ti.size i ⟨g, off, none⟩ i cap xs hl (fun j u hj => ?_)
      rw [Addr.add_lit]
      rw [← htake, List.getElem?_take] at hj
      split at hj
      · rw [List.getElem?_drop] at hj
        show w.cell? _ = _
        simpa [World.cell?, hg] using hj
      · cases hj
  unfold maxLen at h63
  have hkb : k * ti.bytes ≤ 281474976710656 := by rw [Nat.add_mul] at hbytes; omega
  have hrun := Lib.run_append_grow_zeros (P := P) w t tn o.type e ti z kq kn ht htn hi hz ao i cap xs holds k hk h0 hroom (by omega) hkb (growslice_fits (need := i + k) (old := cap) (by omega) hbytes)
  have hge := grownCap_ge w (i + k) cap e
  have hcm := grownCap_le_maxLen w (i + k) cap e (by unfold maxLen; omega)
  unfold Oper.wp
  simp [execOp, ho, resolve, invoke, builtin, hs, hx, hrun, Result.andThen]
  refine hK _ _ (h _ _ ⟨?_, _, _, rfl, hge, hcm, .inr ⟨w.heap.size, 0, _, rfl, hbase, heap_alloc_new w.drew _, ?_, ?_⟩⟩ ((Below.refl _ _).drew.alloc (Nat.le_refl _) _))
  · rw [List.length_append, hl, Array.length_toList, size_zeroCells, hzs, Nat.add_mul]
  · simp only [Array.size_append, List.size_toArray, size_zeroCells, hzs, hl, ← Nat.add_mul]
    rw [Nat.zero_add]
    exact Nat.mul_le_mul_right _ (by omega)
  · have hlen : (xs ++ (Builtin.zeroCells z.cells k).toList).length = (i + k) * ti.size := by rw [List.length_append, hl, Array.length_toList, size_zeroCells, hzs, Nat.add_mul]
    simp only [Array.toList_append, List.drop_zero]
    rw [← hlen, ← List.append_assoc]
    exact List.take_left
end
theorem rdEach_drop {α : Type} {R : Rd α} {sz : Nat} {w : World} {zs : List α} {xs : List Value} (h : rdEach R sz w zs xs) (i : Nat) : rdEach R sz w (zs.drop i) (xs.drop (i * sz)) := by
  obtain ⟨h1, h2⟩ := h
  refine ⟨by simp only [List.length_drop, h1, Nat.sub_mul], fun j a ha => ?_⟩
  rw [List.getElem?_drop] at ha
  have := h2 (i + j) a ha
  rw [List.drop_drop, ← Nat.add_mul]
  exact this
theorem rdEach_append {α : Type} {R : Rd α} {sz : Nat} {w : World} : ∀ {zs : List α} {xs : List Value} {zs' : List α} {xs' : List Value}, rdEach R sz w zs xs → rdEach R sz w zs' xs' → rdEach R sz w (zs ++ zs') (xs ++ xs')
  | [], xs, zs', xs', h, h' => by
    have : xs = [] := List.eq_nil_of_length_eq_zero (by simpa using h.1)
    subst this; exact h'
  | a :: zs, xs, zs', xs', h, h' => by
    obtain ⟨h1, h2, h3⟩ := rdEach_cons h
    have := rdEach_cons_mk h1 h2 (rdEach_append h3 h')
    rw [← List.append_assoc, List.take_append_drop] at this
    exact this
theorem own_src {w : World} {base : Nat} {e : TypeId} {sz g off n cap : Nat} {xs : List Value} (h : own w base e sz (.slice (some ⟨g, off, none⟩) n cap) n xs) (i : Nat) (m : Nat) (j : Nat) (u : Value) (hj : ((xs.drop (i * sz)).take m)[j]? = some u) : w.cell? ((⟨g, off + i * sz, none⟩ : Addr).add j) = some u := by
  rw [List.getElem?_take] at hj
  split at hj
  · rw [List.getElem?_drop] at hj
    have hlt := (List.getElem?_eq_some_iff.1 hj).1
    rw [h.1] at hlt
    rw [Addr.add_lit, Nat.add_assoc, (own_cellN h (i * sz + j) hlt).1]
    exact hj
  · cases hj
theorem own_oneCell {w : World} {base : Nat} {v : Value} {n : Nat} {xs : List Value} {cs : List CoinD} (h : rdEach (coinO base) 36 w cs xs) : ∀ u ∈ xs, u.oneCell' = true := by
  induction cs generalizing xs with
  | nil =>
    have : xs = [] := List.eq_nil_of_length_eq_zero (by simpa using h.1)
    subst this; intro u hu; cases hu
  | cons c cs ih =>
    obtain ⟨h1, h2, h3⟩ := rdEach_cons h
    intro u hu
    rw [← List.take_append_drop 36 xs] at hu
    rcases List.mem_append.1 hu with hu | hu
    · obtain ⟨s, ys, e, h32, hs, -⟩ := h1
      obtain ⟨-, so, scap, rfl, -, -, -⟩ := hs
      rw [e] at hu
      rcases List.mem_append.1 hu with hu | hu
      · exact vB_plain _ u hu
      · simp only [List.mem_cons, List.not_mem_nil, or_false] at hu
        rcases hu with rfl | rfl | rfl | rfl <;> rfl
    · exact ih h3 u hu
end Go.Proofs.YtljcdkfafknnpaaGreatDoor
namespace Go.Proofs.YtljcdkfafknnpaaGreatDoor
set_option linter.unusedVariables false
set_option linter.unusedSimpArgs false
open Go.RowKit
attribute [local go_sem ↓] run_load_agg run_store_agg run_load_any

def InsPost (cs : List CoinD) (c : CoinD) (i base : Nat) (u : Value) (w : World) (e : Ending) (w' : World) : Prop :=
  ∃ v, e = .returned v ∧ setO base w' v (cs.take i ++ c :: cs.drop i) ∧ w.grownBy w' (wrow u) ∧ (wrow v = wrow u ∨ ∀ k, wrow v = some k → w.heap.size ≤ k)
theorem insPost_mk {cs : List CoinD} {c : CoinD} {i base : Nat} {u : Value} {w w' : World} {e : Ending} (v : Value) (he : e = .returned v) (h1 : setO base w' v (cs.take i ++ c :: cs.drop i)) (h2 : w.grownBy w' (wrow u)) (h3 : wrow v = wrow u ∨ ∀ k, wrow v = some k → w.heap.size ≤ k) : InsPost cs c i base u w e w' := ⟨v, he, h1, h2, h3⟩
theorem sz_coin : (Tryz.prog.info? 105).map (·.size) = some 36 := by kernel_rfl
theorem rd_block1 {w : World} {g : Nat} {cs : Array Value} {t : TypeId} {fr : Nat × Nat} (h : w.heap[g]? = some (.cells cs t fr)) : rd w (.slice (some ⟨g, 0, none⟩) 1 1) 1 cs.toList := by
  refine ⟨_, _, rfl, Nat.le_refl _, by unfold maxLen; omega, .inr ⟨g, 0, rfl, fun j u hj => ?_⟩⟩
  rw [Nat.zero_add, cell_of_row _ _ _ _ _ _ h]
  simpa using hj
theorem coinO_plain {base : Nat} {w : World} {c : CoinD} {es : List Value} (h : coinO base w c es) : ∀ u ∈ es, u.oneCell' = true := by
  obtain ⟨s, ys, e, h32, hs, -⟩ := h
  obtain ⟨-, so, scap, rfl, -, -, -⟩ := hs
  subst e
  intro u hu
  rcases List.mem_append.1 hu with hu | hu
  · exact vB_plain _ u hu
  · simp only [List.mem_cons, List.not_mem_nil, or_false] at hu
    rcases hu with rfl | rfl | rfl | rfl <;> rfl
set_option maxHeartbeats 1000000 in
set_option maxRecDepth 100000 in
theorem insert_end (cs : List CoinD) (ao : Option Addr) (cap : Nat) (c : CoinD) (s : Value) (base gv : Nat) (w : World) (h : setO base w (.slice ao cs.length cap) cs) (hn : cs.length ≤ 3000) (hv : w.heap[gv]? = some (.cells (coinV c s) 105 (0, 0))) (hc : coinO base w c (coinV c s).toList)
    (hb : base ≤ w.heap.size) :
    Calls Tryz.prog 65 #[.slice ao cs.length cap, .int .i64 cs.length, .slice (some ⟨gv, 0, none⟩) 1 1] w (InsPost cs c cs.length base (.slice ao cs.length cap) w) := by
  obtain ⟨_, _, e, hcap, hmax⟩ := sl_bounds h.rd
  cases e
  unfold maxLen at hmax
  obtain ⟨i0, hi0, hz0, hz1, hz2⟩ := info_parts' info_coin
  obtain ⟨xs, ho, he⟩ := h
  have hc' := hc
  obtain ⟨s', ys', e1, h32, -, -⟩ := hc'
  have HL : Hid ((coinV c s).toList.length = 1 * 36) := by show _ = _; rw [Array.length_toList, coinV_size c s h32]
  have HR := Lib.hid (rd_block1 hv); have HP := Lib.hid (coinO_plain hc); have HO := Lib.hid ho; have HE := Lib.hid he; have HC := Lib.hid hc
  clear hv hc ho he e1
  obtain rfl | hq := Decidable.em (cap = cs.length)
  all_goals
    go_enter Tryz.func65, Tryz.ntmps65
    go_wp2_with (at_builtin; refine wpList_append_row rfl (.tmp 23) (.tmp 24) 55 rfl 105 i0 (.agg zCoin) 36 80 Tryz.underlying55 hi0 hz0 hz1 hz2 rfl (by decide) base cs.length xs HO.out 1 _ HL.out HR.out HP.out ?c2 ?c3 ?c4 ?_)
    case c2 => unfold maxLen; omega
    case c3 => omega
    case c4 => exact hb
    intro v1 w1 ho1 hg1 hr1
    have hr2 : wrow v1 = wrow (.slice ao cs.length _) ∨ ∀ k, wrow v1 = some k → w.heap.size ≤ k := hr1
    have HFIN : Hid (setO base w1 v1 (cs.take cs.length ++ c :: cs.drop cs.length)) := by
      show setO _ _ _ _
      rw [List.take_length, List.drop_length]
      refine ⟨xs ++ (coinV c s).toList, ?_, rdEach_snoc (rdEach_map HE.out (fun a es ha => coinO_grown HO.out hg1 ha)) (by rw [HL.out]) (coinO_grown HO.out hg1 HC.out)⟩
      rw [List.length_append]; exact ho1
    have HG := Lib.hid hg1; have HRW := Lib.hid hr2
    clear ho1 hg1 hr1 hr2
    go_wp2
    go_ret
    exact insPost_mk _ rfl HFIN.out HG.out HRW.out
theorem splice_shift {α : Type} (xs js C : List α) (a s : Nat) (ha : a ≤ xs.length) (hj : js.length = s) (hC : C.length = s) : splice (splice (xs ++ js) (a + s) (xs.drop a)) a C = xs.take a ++ (C ++ xs.drop a) := by
  have hd : (xs ++ js).drop (a + s + (xs.drop a).length) = [] := List.drop_eq_nil_of_le (by simp only [List.length_append, List.length_drop]; omega)
  have e1 : splice (xs ++ js) (a + s) (xs.drop a) = (xs ++ js).take (a + s) ++ xs.drop a := by
    unfold splice
    rw [hd, List.append_nil]
  have hl : ((xs ++ js).take (a + s)).length = a + s := by simp only [List.length_take, List.length_append]; omega
  have e2 : ((xs ++ js).take (a + s) ++ xs.drop a).drop (a + C.length) = xs.drop a := by rw [hC]; exact List.drop_left' hl
  rw [e1]
  unfold splice
  rw [e2, List.take_append_of_le_length (by omega), List.take_take, Nat.min_eq_left (by omega), List.take_append_of_le_length ha]
theorem grownBy_drew (w : World) (row : Option Nat) : w.grownBy w.drew row := ⟨rfl, rfl, rfl, Nat.le_refl _, fun _ _ _ => rfl⟩
set_option maxHeartbeats 2000000 in
set_option maxRecDepth 100000 in
theorem insert_room (cs : List CoinD) (g off : Nat) (cap : Nat) (c : CoinD) (s : Value) (i base gv : Nat) (w : World) (h : setO base w (.slice (some ⟨g, off, none⟩) cs.length cap) cs) (hi : i < cs.length) (hroom : cs.length < cap) (hn : cs.length ≤ 3000) (hv : w.heap[gv]? = some (.cells (coinV c s) 105 (0, 0))) (hc : coinO base w c (coinV c s).toList)
    (hne : gv ≠ g) (hb : base ≤ w.heap.size) :
    Calls Tryz.prog 65 #[.slice (some ⟨g, off, none⟩) cs.length cap, .int .i64 i, .slice (some ⟨gv, 0, none⟩) 1 1] w (InsPost cs c i base (.slice (some ⟨g, off, none⟩) cs.length cap) w) := by
  obtain ⟨_, _, e, hcap, hmax⟩ := sl_bounds h.rd
  cases e
  unfold maxLen at hmax
  obtain ⟨xs, ho, he⟩ := h
  have hc' := hc
  obtain ⟨s', ys', e1, h32, -, -⟩ := hc'
  have hz36 := coinV_size c s h32
  obtain ⟨js, hjl, hoj⟩ := own_more ho hroom
  obtain ⟨q1, q2, q3, q4, cc, q5⟩ := own_elem ho i hi
  have hcz : cc.size ≠ 0 := by
    intro e
    unfold rowAt at q1
    rw [q5] at q1
    simp [e] at q1
  have hx := @run_callFunc_extern Tryz.prog 100 _ (Extern.SlicesOverlaps.overlaps #[55, 55] #[4]) Tryz.func100 (by kernel_rfl) (by kernel_rfl) (by kernel_rfl) (by kernel_rfl)
  have hov := Lib.run_overlaps_apart (P := Tryz.prog) w 55 4 105 Tryz.underlying55 36 (fun w => by kernel_rfl) ⟨gv, 0, none⟩ ⟨g, off + (i + 1) * 36, none⟩ 1 1 (cs.length - i) (cap - (i + 1)) hne 105 105 36 cc.size
    (by unfold World.shape?; rw [hv]; simp [hz36]) (by unfold World.shape?; rw [q5]) hcz (frozen_of_row _ _ _ _ _ hv) (frozen_of_row _ _ _ _ _ hv)
  have hno : wrow (.slice (some ⟨g, off, none⟩) cs.length cap) = some g := by simp only [wrow]; rw [if_neg (by omega)]
  have HO := Lib.hid ho; have HE := Lib.hid he; have HC := Lib.hid hc; have HJ := Lib.hid hoj; have HV := Lib.hid hv; have HJL := Lib.hid hjl; have HZ := Lib.hid hz36; have HNO := Lib.hid hno; have HQ5 := Lib.hid q5
  clear ho he hc hoj hv e1 hjl q1 q2 q3 q5 hz36 hno
  go_enter Tryz.func65, Tryz.ntmps65
  have HOd : Hid (own w.drew base 105 36 (.slice (some ⟨g, off, none⟩) cs.length cap) cs.length xs) := HO.out
  have HJd : Hid (own w.drew base 105 36 (.slice (some ⟨g, off, none⟩) (cs.length + 1) cap) (cs.length + 1) (xs ++ js)) := HJ.out
  have hl1 : xs.length = cs.length * 36 := HO.out.1
  have HL1 : Hid ((xs.drop (i * 36)).length = (cs.length - i) * 36) := by show _ = _; rw [List.length_drop, hl1, Nat.sub_mul]
  have HP1 : Hid (∀ u ∈ xs.drop (i * 36), u.oneCell' = true) := fun u hu => own_oneCell (v := .nilIface) (n := 0) HE.out u (List.mem_of_mem_drop hu)
  have HS1 : Hid (∀ j u, (xs.drop (i * 36))[j]? = some u → w.drew.cell? ((⟨g, off + i * 36, none⟩ : Addr).add j) = some u) := fun j u hj => own_src HOd.out i ((xs.drop (i * 36)).length) j u (by rw [List.take_length]; exact hj)
  have HL1c := Lib.hid hl1
  clear hl1
  go_upto_region 15 with fail
  clear hx hov
  have hkN : (i + 1) + (cs.length - i) ≤ cs.length + 1 := by omega
  have hN0 : 0 < cs.length + 1 := by omega
  have hmin : cs.length - i = Nat.min (cs.length + 1 - i) (cs.length - i) := by show _ = min _ _; omega
  have HMIN := Lib.hid hmin
  clear hmin
  have wr1 : IntKind.i64.wrap ((i : Int) + 1) = (i : Int) + 1 := by rw [IntKind.wrap_i64]; omega
  have wr2 : ((i : Int) + 1).toNat = i + 1 := by omega
  have b1 : (0 : Int) ≤ (i : Int) + 1 := by omega
  have b2 : (i : Int) + 1 ≤ (cs.length : Int) + 1 := by omega
  have b3 : (0 : Int) ≤ (i : Int) := by omega
  have b4 : (i : Int) ≤ (cs.length : Int) + 1 := by omega
  have b5 : ¬ cap = i + 1 := by omega
  have b6 : ¬ cap = i := by omega
  go_region_law (refine step_copy_ownN rfl (.tmp 73) (.tmp 76) 55 55 rfl 105 36 Tryz.underlying55 sz_coin base g off (cs.length + 1) cap (i + 1) (cs.length - i) (cap - (i + 1)) (cs.length + 1 - i) (cap - i) (cs.length - i) (xs ++ js) (xs.drop (i * 36)) ⟨g, off + i * 36, none⟩ ?_ ?_ HJd.out HMIN.out HL1.out hkN hN0 HS1.out HP1.out ?_
                 · simp [Act.eval, Act.put]
                 · simp [Act.eval, Act.put]
                 intro w4 ho4 hk4 hg4)
  clear wr1 wr2 b1 b2 b3 b4
  have HO4 := Lib.hid ho4; have HK4 := Lib.hid hk4; have HG4 := Lib.hid hg4
  clear ho4 hk4 hg4
  have HV4 : Hid (w4.heap[gv]? = some (.cells (coinV c s) 105 (0, 0))) := (HK4.out gv hne).trans HV.out
  have HSV : Hid (∀ j u, (coinV c s).toList[j]? = some u → w4.cell? ((⟨gv, 0, none⟩ : Addr).add j) = some u) := fun j u hj => by
    rw [Addr.add_lit, Nat.zero_add, cell_of_row _ _ _ _ _ _ HV4.out]
    simpa using hj
  have HL2 : Hid ((coinV c s).toList.length = 1 * 36) := by show _ = _; rw [Array.length_toList, HZ.out]
  have HM2 : Hid (1 = Nat.min 1 (cs.length + 1 - i)) := by show 1 = min _ _; omega
  have HP2 := Lib.hid (coinO_plain HC.out)
  have hkN2 : i + 1 ≤ cs.length + 1 := by omega
  go_wp2_with (with_reducible refine wpList_copy_ownN rfl (.tmp 80) (.tmp 81) 55 55 rfl 105 36 Tryz.underlying55 sz_coin base g off (cs.length + 1) cap i (cs.length + 1 - i) (cap - i) 1 1 1 (splice (xs ++ js) ((i + 1) * 36) (xs.drop (i * 36))) (coinV c s).toList ⟨gv, 0, none⟩ ?d1 ?d2 HO4.out HM2.out HL2.out hkN2 hN0 HSV.out HP2.out ?_)
  case d1 => rfl
  case d2 => rfl
  intro w5 ho5 hk5 hg5
  have hkk : ∀ k, k ≠ g → k < w.heap.size → w5.heap[k]? = w.heap[k]? := fun k hk _ => (hk5 k hk).trans (HK4.out k hk)
  have HFIN : Hid (setO base w5 (.slice (some ⟨g, off, none⟩) (cs.length + 1) cap) (cs.take i ++ c :: cs.drop i)) := by
    have hxl := HL1c.out
    rw [show (i + 1) * 36 = i * 36 + 36 from by omega, splice_shift xs js _ (i * 36) 36 (by omega) HJL.out (by rw [HL2.out])] at ho5
    refine ⟨_, ?_, rdEach_append (rdEach_take (rdEach_map HE.out (fun a es ha => coinO_but HQ5.out hkk ha)) i (by omega)) (rdEach_cons_mk (coinO_but HQ5.out hkk HC.out) HL2.out (rdEach_drop (rdEach_map HE.out (fun a es ha => coinO_but HQ5.out hkk ha)) i))⟩
    rw [show (cs.take i ++ c :: cs.drop i).length = cs.length + 1 from by simp; omega]
    exact ho5
  have HGG := Lib.hid (((grownBy_drew w (some g)).trans HG4.out).trans hg5)
  clear ho5 hk5 hg5 hkk
  go_wp2
  go_ret
  refine insPost_mk _ rfl HFIN.out (by rw [HNO.out]; exact HGG.out) (.inl ?_)
  rw [HNO.out]
  show (if cap = 0 then none else some g) = some g
  rw [if_neg (by omega)]
theorem grownBy_below {w w' : World} (h : Below w.heap.size w w') (row : Option Nat) : w.grownBy w' row := by
  obtain ⟨h1, h2, h3, h4, h5⟩ := h
  exact ⟨h1, h2, h3, h4, fun k hk _ => h5 k hk⟩
theorem splice_full {α : Type} (X Z C D : List α) (s m : Nat) (hC : C.length = s) (hZ : Z.length = s + m) (hD : D.length = m) : splice (splice (X ++ Z) X.length C) (X.length + s) D = X ++ (C ++ D) := by
  have hd : (X ++ Z).drop (X.length + C.length) = Z.drop s := by rw [← List.drop_drop, List.drop_left, hC]
  have e1 : splice (X ++ Z) X.length C = X ++ (C ++ Z.drop s) := by unfold splice; rw [hd, List.take_left' rfl]
  have e2 : (X ++ (C ++ Z.drop s)).take (X.length + s) = X ++ C := by
    rw [← List.append_assoc, List.take_append_of_le_length (by simp only [List.length_append]; omega), List.take_of_length_le (by simp only [List.length_append]; omega)]
  have e3 : (X ++ (C ++ Z.drop s)).drop (X.length + s + D.length) = [] := List.drop_eq_nil_of_le (by simp only [List.length_append, List.length_drop]; omega)
  rw [e1]
  unfold splice
  rw [e2, e3, List.append_nil, List.append_assoc]
set_option maxHeartbeats 2000000 in
set_option maxRecDepth 100000 in
theorem insert_grow (cs : List CoinD) (g off : Nat) (c : CoinD) (s : Value) (i base gv : Nat) (w : World) (h : setO base w (.slice (some ⟨g, off, none⟩) cs.length cs.length) cs) (hi : i < cs.length) (hn : cs.length ≤ 3000) (hv : w.heap[gv]? = some (.cells (coinV c s) 105 (0, 0))) (hc : coinO base w c (coinV c s).toList)
    (hb : base ≤ w.heap.size) :
    Calls Tryz.prog 65 #[.slice (some ⟨g, off, none⟩) cs.length cs.length, .int .i64 i, .slice (some ⟨gv, 0, none⟩) 1 1] w (InsPost cs c i base (.slice (some ⟨g, off, none⟩) cs.length cs.length) w) := by
  obtain ⟨xs, ho, he⟩ := h
  obtain ⟨i0, hi0, hz0, hz1, hz2⟩ := info_parts' info_coin
  have hc' := hc
  obtain ⟨s', ys', e1, h32, -, -⟩ := hc'
  have hz36 := coinV_size c s h32
  have hot := own_take ho i (by omega)
  obtain ⟨k, hk⟩ : ∃ k, cs.length + 1 - i = k := ⟨_, rfl⟩
  have hki : (cs.length : Int) + 1 - (i : Int) = (k : Int) := by omega
  have hk0 : 0 < k := by omega
  have hik : cs.length < i + k := by omega
  have hik2 : i + k ≤ cs.length + 1 := by omega
  have HO := Lib.hid ho; have HE := Lib.hid he; have HC := Lib.hid hc; have HT := Lib.hid hot; have HV := Lib.hid hv; have HZ := Lib.hid hz36; have HK := Lib.hid hk
  have hxl := ho.1
  have HXL := Lib.hid hxl
  clear ho he hc hot hv hz36 e1 hk hxl
  go_enter Tryz.func65, Tryz.ntmps65
  go_wp2_with (at_builtin; refine wpList_grow_zeros rfl (.tmp 34) (.tmp 39) 55 3 rfl 105 i0 (.agg zCoin) .i64 .i64 36 80 Tryz.underlying55 Tryz.underlying3 hi0 hz0 hz1 hz2 rfl (by decide) base i cs.length k (some ⟨g, off, none⟩) _ rfl rfl HT.out hk0 hik ?c2 ?c3 hb ?_)
  case c2 => unfold maxLen; omega
  case c3 => omega
  intro cap' w1 ho1 hb1
  have ho1' := ho1
  obtain ⟨-, _, _, e, k1, k2, -⟩ := ho1'
  cases e
  unfold maxLen at k2
  have HO1 := Lib.hid ho1; have B1 := Lib.hid hb1
  clear ho1 hb1
  have b5 : ¬ cap' = i := by omega
  go_upto_region 10 with fail
  obtain ⟨W, hW⟩ : ∃ W, w.heap.size = W := ⟨_, rfl⟩
  have hWe : w.heap.size ≤ W := by omega
  have hgW : g < W := by
    obtain ⟨-, -, -, h4, -⟩ := own_elem HO.out i hi
    omega
  have hvW : gv < W := by have := (Array.getElem?_eq_some_iff.1 HV.out).1; omega
  have hbW : base ≤ W := by omega
  rw [hW] at HO1 ⊢
  clear hW
  have HV1 : Hid (w1.heap[gv]? = some (.cells (coinV c s) 105 (0, 0))) := (B1.out.block gv (Array.getElem?_eq_some_iff.1 HV.out).1).trans HV.out
  have HSV : Hid (∀ j u, (coinV c s).toList[j]? = some u → w1.cell? ((⟨gv, 0, none⟩ : Addr).add j) = some u) := fun j u hj => by
    rw [Addr.add_lit, Nat.zero_add, cell_of_row _ _ _ _ _ _ HV1.out]
    simpa using hj
  have HL2 : Hid ((coinV c s).toList.length = 1 * 36) := by show _ = _; rw [Array.length_toList, HZ.out]
  have HM2 : Hid (1 = Nat.min 1 k) := by show 1 = min _ _; omega
  have HP2 := Lib.hid (coinO_plain HC.out)
  have hkN2 : i + 1 ≤ i + k := by omega
  have hN0 : 0 < i + k := by omega
  obtain ⟨Y, hY⟩ : ∃ Y, xs.take (i * 36) ++ (Builtin.zeroCells zCoin k).toList = Y := ⟨_, rfl⟩
  rw [hY] at HO1
  have HY := Lib.hid hY
  clear hY
  go_wp2_with (refine wpList_copy_ownN rfl (.tmp 43) (.tmp 44) 55 55 rfl 105 36 Tryz.underlying55 sz_coin base W 0 (i + k) cap' i k (cap' - i) 1 1 1 Y (coinV c s).toList ⟨gv, 0, none⟩ ?d1 ?d2 HO1.out HM2.out HL2.out hkN2 hN0 HSV.out HP2.out ?_)
  case d1 => simp [Act.eval]
  case d2 => simp [Act.eval]
  intro w4 ho4 hk4 hg4
  have HO4 := Lib.hid ho4; have HK4 := Lib.hid hk4; have HG4 := Lib.hid hg4
  clear ho4 hk4 hg4
  go_upto_region 11 with fail
  have hkeep : ∀ q, q < w.heap.size → w4.heap[q]? = w.heap[q]? := fun q hq => (HK4.out q (by omega)).trans (B1.out.block q hq)
  have HOs : Hid (own w4.drew base 105 36 (.slice (some ⟨g, off, none⟩) cs.length cs.length) cs.length xs) := own_kept (w' := w4.drew) HO.out fun q hq _ hlt => hkeep q hlt
  have HO4d : Hid (own w4.drew base 105 36 (.slice (some ⟨W, 0, none⟩) (i + k) cap') (i + k) (splice Y (i * 36) (coinV c s).toList)) := HO4.out
  have HL1 : Hid ((xs.drop (i * 36)).length = (cs.length - i) * 36) := by show _ = _; rw [List.length_drop, HXL.out, Nat.sub_mul]
  have HP1 : Hid (∀ u ∈ xs.drop (i * 36), u.oneCell' = true) := fun u hu => own_oneCell (v := .nilIface) (n := 0) HE.out u (List.mem_of_mem_drop hu)
  have HS1 : Hid (∀ j u, (xs.drop (i * 36))[j]? = some u → w4.drew.cell? ((⟨g, off + i * 36, none⟩ : Addr).add j) = some u) := fun j u hj => own_src HOs.out i ((xs.drop (i * 36)).length) j u (by rw [List.take_length]; exact hj)
  have HMIN : Hid (cs.length - i = Nat.min (cs.length - i) (i + k - (i + 1))) := by show _ = min _ _; omega
  have hkN3 : (i + 1) + (cs.length - i) ≤ i + k := by omega
  have HKP := Lib.hid hkeep
  clear hkeep
  have wr1 : IntKind.i64.wrap ((i : Int) + 1) = (i : Int) + 1 := by rw [IntKind.wrap_i64]; omega
  have wr2 : ((i : Int) + 1).toNat = i + 1 := by omega
  have b1 : (0 : Int) ≤ (i : Int) + 1 := by omega
  have b2 : (i : Int) + 1 ≤ (i : Int) + (k : Int) := by omega
  have b3 : (0 : Int) ≤ (i : Int) := by omega
  have b4 : (i : Int) ≤ (cs.length : Int) := by omega
  have b6 : ¬ cap' = i + 1 := by omega
  have b7 : ¬ cs.length = i := by omega
  go_region_law (refine step_copy_ownN rfl (.tmp 50) (.tmp 53) 55 55 rfl 105 36 Tryz.underlying55 sz_coin base W 0 (i + k) cap' (i + 1) (i + k - (i + 1)) (cap' - (i + 1)) (cs.length - i) (cs.length - i) (cs.length - i) (splice Y (i * 36) (coinV c s).toList) (xs.drop (i * 36)) ⟨g, off + i * 36, none⟩ ?_ ?_ HO4d.out HMIN.out HL1.out hkN3 hN0 HS1.out HP1.out ?_
                 · simp [Act.eval, Act.put]
                 · simp [Act.eval, Act.put]
                 intro w5 ho5 hk5 hg5)
  clear wr1 wr2 b1 b2 b3 b4 b6 b7 b5
  have hkk : ∀ q, q < w.heap.size → w5.heap[q]? = w.heap[q]? := fun q hq => (hk5 q (by omega)).trans (HKP.out q hq)
  have HFIN : Hid (setO base w5 (.slice (some ⟨W, 0, none⟩) (i + k) cap') (cs.take i ++ c :: cs.drop i)) := by
    have hxl := HXL.out
    have hTl : (xs.take (i * 36)).length = i * 36 := by rw [List.length_take]; omega
    have e := splice_full (xs.take (i * 36)) (Builtin.zeroCells zCoin k).toList (coinV c s).toList (xs.drop (i * 36)) 36 ((cs.length - i) * 36) (by rw [HL2.out]) (by rw [Array.length_toList, size_zeroCells]; show k * 36 = _; omega) HL1.out
    rw [hTl, HY.out] at e
    rw [show (i + 1) * 36 = i * 36 + 36 from by omega, e] at ho5
    have HEk := rdEach_map HE.out (S := coinO base) (w' := w5) (fun a es ha => coinO_kept (fun q _ hq => hkk q hq) ha)
    refine ⟨_, ?_, rdEach_append (rdEach_take HEk i (by omega)) (rdEach_cons_mk (coinO_kept (fun q _ hq => hkk q hq) HC.out) HL2.out (rdEach_drop HEk i))⟩
    rw [show (cs.take i ++ c :: cs.drop i).length = i + k from by simp; omega]
    exact ho5
  have HGG : Hid (w.grownBy w5 (wrow (.slice (some ⟨g, off, none⟩) cs.length cs.length))) := grownBy_below (((B1.out.grown HG4.out B1.out.size (fun q hq => by cases hq; omega)).drew).grown hg5 (by have := B1.out.size; have := HG4.out.size; exact Nat.le_trans B1.out.size HG4.out.size) (fun q hq => by cases hq; omega)) _
  clear ho5 hk5 hg5 hkk
  go_wp2
  go_ret
  refine insPost_mk _ rfl HFIN.out HGG.out (.inr fun q hq => ?_)
  have : q = W := by
    have h : (if cap' = 0 then none else some W) = some q := hq
    split at h
    · cases h
    · injection h with h; exact h.symm
  omega
theorem insert_any (cs : List CoinD) (ao : Option Addr) (cap : Nat) (c : CoinD) (s : Value) (i base gv : Nat) (w : World) (h : setO base w (.slice ao cs.length cap) cs) (hi : i ≤ cs.length) (hn : cs.length ≤ 3000) (hv : w.heap[gv]? = some (.cells (coinV c s) 105 (0, 0))) (hc : coinO base w c (coinV c s).toList)
    (hne : wrow (.slice ao cs.length cap) ≠ some gv) (hb : base ≤ w.heap.size) :
    Calls Tryz.prog 65 #[.slice ao cs.length cap, .int .i64 i, .slice (some ⟨gv, 0, none⟩) 1 1] w (InsPost cs c i base (.slice ao cs.length cap) w) := by
  by_cases hin : i = cs.length
  · subst hin
    exact insert_end cs ao cap c s base gv w h hn hv hc hb
  · have h' := h
    obtain ⟨xs, ho, -⟩ := h'
    obtain ⟨g, off, rfl⟩ := own_ptr ho (by omega)
    obtain ⟨-, -, -, hw⟩ := own_cellN ho 0 (by omega)
    obtain ⟨_, _, e, hcap, -⟩ := sl_bounds h.rd
    cases e
    by_cases hce : cap = cs.length
    · subst hce
      exact insert_grow cs g off c s i base gv w h (by omega) hn hv hc hb
    · exact insert_room cs g off cap c s i base gv w h (by omega) (by omega) hn hv hc (fun e => hne (by rw [hw, e])) hb
end Go.Proofs.YtljcdkfafknnpaaGreatDoor
namespace Go.Proofs.YtljcdkfafknnpaaGreatDoor
set_option linter.unusedVariables false
set_option linter.unusedSimpArgs false
open Go.RowKit
attribute [local go_sem ↓] run_load_agg run_store_agg run_load_any run_build_coin

/-- Is a place in a set? -/
def atP (cs : List CoinD) (p : PlaceD) : Bool := cs.any fun c => plE c.place p
theorem atP_iff (cs : List CoinD) (p : PlaceD) : atP cs p = true ↔ hasP cs p := by
  unfold atP hasP
  rw [List.any_eq_true]
  simp only [plE_iff]
theorem found_atP {cs : List CoinD} {p : PlaceD} {i : Nat} {b : Bool} (h : foundAt cs p i b) : atP cs p = b := by
  cases b with
  | true =>
    obtain ⟨hi, he⟩ := h.1 rfl
    unfold atP
    rw [List.any_eq_true]
    exact ⟨_, List.getElem_mem hi, he⟩
  | false =>
    have := h.2.1 rfl
    unfold atP
    rw [List.any_eq_false]
    intro c hc
    obtain ⟨k, hk, rfl⟩ := List.getElem_of_mem hc
    rw [this k hk]; decide
/-- Is one of those there already? -/
def twiceB (old news : List CoinD) : Bool := news.any fun n => atP old n.place
def withE (old cs news : List CoinD) : Int := if twiceB old news = true then 6 else if 1000 < cs.length + news.length then 4 else 0
/-- Writes to a row and to those that came since. -/
theorem grownBy_then {w w1 w2 : World} {r r1 : Option Nat} (h : w.grownBy w1 r) (h1 : w1.grownBy w2 r1) (hr : r1 = r ∨ ∀ k, r1 = some k → w.heap.size ≤ k) : w.grownBy w2 r := by
  refine ⟨h1.os.trans h.os, h1.tape.trans h.tape, h1.output.trans h.output, Nat.le_trans h.size h1.size, fun k hk hne => ?_⟩
  rw [h1.block k (Nat.lt_of_lt_of_le hk h.size) (fun e => ?_)]
  · exact h.block k hk hne
  · rcases hr with rfl | hr
    · exact hne e
    · have := hr k e.symm; omega
def WithPost (old cs news : List CoinD) (base : Nat) (u : Value) (w : World) (e : Ending) (w' : World) : Prop :=
  ∃ v, e = .returned (.tuple #[v, errV (withE old cs news)]) ∧ (withE old cs news = 0 → setO base w' v (withC cs news)) ∧ (withE old cs news ≠ 0 → v = .slice none 0 0) ∧ w.grownBy w' (wrow u)
theorem withPost_no {old cs news : List CoinD} {base : Nat} {u : Value} {w : World} {e : Ending} {w' : World} (f : Int) (hf : withE old cs news = f) (hz : f ≠ 0) (he : e = .returned (.tuple #[.slice none 0 0, errV f])) (hg : w.grownBy w' (wrow u)) : WithPost old cs news base u w e w' :=
  ⟨_, by rw [hf]; exact he, fun h => absurd (hf.symm.trans h) hz, fun _ => rfl, hg⟩
theorem withPost_yes {old cs news : List CoinD} {base : Nat} {u : Value} {w : World} {e : Ending} {w' : World} (v : Value) (hf : withE old cs news = 0) (he : e = .returned (.tuple #[v, errV 0])) (hs : setO base w' v (withC cs news)) (hg : w.grownBy w' (wrow u)) : WithPost old cs news base u w e w' :=
  ⟨v, by rw [hf]; exact he, fun _ => hs, fun h => absurd hf h, hg⟩
theorem all32_with {cs : List CoinD} : ∀ {ns : List CoinD}, all32' cs → all32' ns → all32' (withC cs ns) := fun {ns} h1 h2 x hx => by
  rcases mem_withC.1 hx with h | h
  · exact h2 x h
  · exact h1 x h
theorem withC_length (ns cs : List CoinD) : (withC cs ns).length = cs.length + ns.length := by
  rw [(withC_perm ns cs).length_eq, List.length_append]; omega
/-- What is asked of coins that are put in, one behind the other. -/
structure NewsOk (old cs news : List CoinD) : Prop where
  cs32 : all32' cs
  sorted : sortedP cs
  sub : ∀ p, hasP cs p → hasP old p
  n32 : all32' news
  apart : news.Pairwise fun a b => a.place ≠ b.place
theorem NewsOk.fresh {old cs news : List CoinD} (h : NewsOk old cs news) (j : Nat) (hj : j ≤ news.length) (ht : ∀ n ∈ news.take j, atP old n.place = false) : sortedP (withC cs (news.take j)) ∧ (∀ hlt : j < news.length, atP old news[j].place = false → ¬ hasP (withC cs (news.take j)) news[j].place) := by
  have hap := List.pairwise_iff_getElem.1 h.apart
  have hfr : ∀ (ns : List CoinD), ns.Pairwise (fun a b => a.place ≠ b.place) → (∀ n ∈ ns, atP old n.place = false) → freshC cs ns := by
    intro ns
    induction ns with
    | nil => intro _ _; trivial
    | cons n ns ih =>
      intro hp hn
      obtain ⟨h1, h2⟩ := List.pairwise_cons.1 hp
      refine ⟨fun hh => ?_, fun ⟨c, hc, he⟩ => h1 c hc he.symm, ih h2 (fun m hm => hn m (by simp [hm]))⟩
      have := (atP_iff old n.place).2 (h.sub _ hh)
      rw [hn n (by simp)] at this; cases this
  refine ⟨withC_sorted _ _ (fun x hx => h.n32 x (List.mem_of_mem_take hx)) h.cs32 h.sorted (hfr _ (h.apart.sublist (List.take_sublist _ _)) ht), fun hlt hn hh => ?_⟩
  rcases hasP_with.1 hh with ⟨c, hc, he⟩ | hh
  · obtain ⟨i, hi, rfl⟩ := List.getElem_of_mem hc
    have hi' : i < j := by simp at hi; omega
    rw [List.getElem_take] at he
    exact hap i j (by omega) hlt hi' he
  · have := (atP_iff old news[j].place).2 (h.sub _ hh)
    rw [hn] at this; cases this
theorem twice_take {old news : List CoinD} (h : ∀ n ∈ news, atP old n.place = false) : twiceB old news = false := by
  unfold twiceB
  rw [List.any_eq_false]
  intro n hn; rw [h n hn]; decide
theorem setO_own {base : Nat} {w : World} {v : Value} {cs : List CoinD} (h : setO base w v cs) : ∃ xs, own w base 105 36 v cs.length xs := by
  obtain ⟨xs, h1, -⟩ := h
  exact ⟨xs, h1⟩
set_option maxHeartbeats 4000000 in
set_option maxRecDepth 100000 in
theorem with_any (old cs news : List CoinD) (oa ca na : Option Addr) (ocap ccap ncap base : Nat) (W0 w : World) (hO : rdSl coinR 36 W0 (.slice oa old.length ocap) old) (hW : Below W0.heap.size W0 w) (hbase : W0.heap.size ≤ base) (hbw : base ≤ w.heap.size)
    (ho : old.length ≤ 1000) (hos : sortedC old) (hC : setO base w (.slice ca cs.length ccap) cs) (hN : setO base w (.slice na news.length ncap) news) (hap : ∀ k, wrow (.slice na news.length ncap) = some k → wrow (.slice ca cs.length ccap) ≠ some k) (hok : NewsOk old cs news) (hcl : cs.length ≤ 1000) (hnl : news.length ≤ 40) :
    Calls Tryz.prog 59 #[.slice ca cs.length ccap, .slice oa old.length ocap, .slice na news.length ncap] w (WithPost old cs news base (.slice ca cs.length ccap) w) := by
  obtain ⟨_, _, e, c1, c2⟩ := sl_bounds hC.rd
  cases e
  obtain ⟨_, _, e, n1, n2⟩ := sl_bounds hN.rd
  cases e
  obtain ⟨_, _, e, o1, o2⟩ := sl_bounds hO
  cases e
  unfold maxLen at c2 n2 o2
  have HO := Lib.hid hO; have HW := Lib.hid hW; have HOS := Lib.hid hos; have HC := Lib.hid hC; have HN := Lib.hid hN; have HAP := Lib.hid hap; have HOK := Lib.hid hok
  have HO32 := Lib.hid (all32_of hO)
  clear hO hW hos hC hN hap hok
  go_enter Tryz.func59, Tryz.ntmps59
  go_wp2_with fail
  go_loopw [0, 16] (fun s c wr => ∃ (j : Nat) (va : Option Addr) (vcap : Nat), j ≤ news.length ∧ Value.slice va (withC cs (news.take j)).length vcap = s ∧ c = .int .i64 j ∧ Hid (setO base wr (.slice va (withC cs (news.take j)).length vcap) (withC cs (news.take j))) ∧ Hid (w.grownBy wr (wrow (.slice ca cs.length ccap))) ∧
    Hid (wrow (.slice va (withC cs (news.take j)).length vcap) = wrow (.slice ca cs.length ccap) ∨ ∀ k, wrow (.slice va (withC cs (news.take j)).length vcap) = some k → w.heap.size ≤ k) ∧ Hid (setO base wr (.slice na news.length ncap) news) ∧ Hid (∀ n ∈ news.take j, atP old n.place = false)) (fun _ c _ => news.length - (intOf c).toNat)
  case atStart => exact ⟨0, ca, ccap, by omega, rfl, rfl, HC, Lib.hid (World.grownBy.refl _ _), Lib.hid (.inl rfl), HN, Lib.hid (fun n hn => by simp at hn)⟩
  case round =>
    obtain ⟨j, va, vcap, hj, rfl, rfl, HS, HG, HRW, HNR, HNO⟩ := hrel
    have hSl := withC_length (news.take j) cs
    have hF := HOK.out.fresh j hj HNO.out
    obtain ⟨S, hS⟩ : ∃ S, withC cs (news.take j) = S := ⟨_, rfl⟩
    have HSE := Lib.hid hS
    rw [hS] at HS HRW hSl hF ⊢
    have hS2 : S.length ≤ 1040 := by rw [hSl, List.length_take]; omega
    have HSL := Lib.hid hSl
    clear hSl
    have HF := Lib.hid hF
    obtain ⟨_, _, e, s1, s2⟩ := sl_bounds HS.out.rd
    cases e
    unfold maxLen at s2
    clear hS hF
    by_cases hlt : j < news.length
    · obtain ⟨g, off, so, scap, rfl, -, h32, d1, d2, hrow, hO⟩ := HNR.out.at j hlt
      have HTK : Hid (news.take (j + 1) = news.take j ++ [news[j]]) := List.take_succ_eq_append_getElem hlt
      have HMEM := Lib.hid (List.getElem_mem hlt)
      have HFN := Lib.hid (HF.out.2 hlt)
      obtain ⟨n, hn⟩ : ∃ n, news[j] = n := ⟨_, rfl⟩
      rw [hn] at h32 hrow hO HTK HMEM d1 HFN
      obtain ⟨k1, k2, k3, k4⟩ := new_coin wr n so n.lock.length scap h32
      unfold zCoin at k1 k2
      have hgl := rowAt_lt hrow
      have HSX := Lib.hid (HS.out.alloc (.cells (coinV n (.slice so n.lock.length scap)) 105))
      have HNX := Lib.hid (HNR.out.alloc (.cells (coinV n (.slice so n.lock.length scap)) 105))
      have HGX := Lib.hid (grownBy_then HG.out (World.grownBy_alloc wr (.cells (coinV n (.slice so n.lock.length scap)) 105) none) (.inr fun k hk => by cases hk))
      have HOX := Lib.hid (coinO_alloc (.cells (coinV n (.slice so n.lock.length scap)) 105) hO)
      have hrx : rowAt (wr.alloc (.cells (coinV n (.slice so n.lock.length scap)) 105)) wr.heap.size 0 36 = some (coinV n (.slice so n.lock.length scap)) := rowAt_whole (heap_alloc_new wr _) 36 k4.symm
      have hpx := (CoinAt.new wr n (.slice so n.lock.length scap) h32).p
      have k3' := k3
      have k4' := k4
      clear hn hO
      go_upto_region 4 with fail
      clear k1 k2 hrow k3 k4
      change Code.wp _ _ _ _ (wr.alloc (.cells (coinV n (.slice so n.lock.length scap)) 105))
      obtain ⟨G, hG⟩ : ∃ G, wr.heap.size = G := ⟨_, rfl⟩
      rw [hG] at hrx hpx ⊢
      clear hG
      generalize wr.alloc (.cells (coinV n (.slice so n.lock.length scap)) 105) = w2 at HSX HNX HGX HOX hrx hpx ⊢
      have HB2 : Hid (Below W0.heap.size W0 w2) := HW.out.grown HGX.out HW.out.size (fun q hq => by
        obtain ⟨xs, ho⟩ := setO_own HC.out
        have := (own_lt ho hq).1; omega)
      have HRX := Lib.hid hrx
      have hp32 : n.place.tx.length = 32 := h32
      go_wp2_with fail
      refine (cfind_any old oa ocap n.place hp32 w2 (coinR_stays.slB HO.out HB2.out (Nat.le_refl _)) (by omega) HO32.out HOS.out).mono ?_
      rintro e w3 ⟨i1, b1, rfl, hf1, -, hb3⟩
      have HFA := Lib.hid (found_atP hf1)
      have HS3 := Lib.hid (HSX.out.below hb3)
      have HN3 := Lib.hid (HNX.out.below hb3)
      have HO3 := Lib.hid (coinO_below hb3 HOX.out)
      have HG3 := Lib.hid (grownBy_then HGX.out (grownBy_below hb3 none) (.inr fun k hk => by cases hk))
      have hrx3 := (rowAt_below hb3 (rowAt_lt hrx) 0 36).trans hrx
      have hpx3 := (rowAt_below hb3 (rowAt_lt hpx) 0 33).trans hpx
      clear hf1 hb3 hrx hpx
      cases b1
      case true =>
        have HE : Hid (withE old cs news = 6) := by
          show withE old cs news = 6
          unfold withE
          rw [if_pos]
          unfold twiceB
          rw [List.any_eq_true]
          exact ⟨n, HMEM.out, HFA.out⟩
        go_wp2
        go_ret2
        exact withPost_no 6 HE.out (by decide) rfl HG3.out
      case false =>
        go_wp2_with fail
        refine (cfind_any S va vcap n.place hp32 w3 HS3.out.rd (by omega) (all32_of HS3.out.rd) ((sorted_iff S).2 HF.out.1)).mono ?_
        rintro e w4 ⟨i2, b2, rfl, hf2, hi2, hb4⟩
        have HF2 := Lib.hid hf2
        have HS4 := Lib.hid (HS3.out.below hb4)
        have HN4 := Lib.hid (HN3.out.below hb4)
        have HO4 := Lib.hid (coinO_below hb4 HO3.out)
        have HG4 := Lib.hid (grownBy_then HG3.out (grownBy_below hb4 none) (.inr fun k hk => by cases hk))
        have hrx4 := (rowAt_below hb4 (rowAt_lt hrx3) 0 36).trans hrx3
        clear hf2 hb4 hrx3 hpx3
        have HV := Lib.hid (heap_alloc_new w4 (.cells (coinV n (.slice so n.lock.length scap)) 105))
        have HS5 := Lib.hid (HS4.out.alloc (.cells (coinV n (.slice so n.lock.length scap)) 105))
        have HN5 := Lib.hid (HN4.out.alloc (.cells (coinV n (.slice so n.lock.length scap)) 105))
        have HG5 := Lib.hid (grownBy_then HG4.out (World.grownBy_alloc w4 (.cells (coinV n (.slice so n.lock.length scap)) 105) none) (.inr fun k hk => by cases hk))
        have HO5 := Lib.hid (coinO_alloc (.cells (coinV n (.slice so n.lock.length scap)) 105) HO4.out)
        have hrow4 : Hid (∀ k, wrow (.slice va S.length vcap) = some k → k < w4.heap.size) := fun k hk => by
          obtain ⟨xs, ho⟩ := setO_own HS4.out
          exact (own_lt ho hk).2.1
        have hs5 : (w4.alloc (.cells (coinV n (.slice so n.lock.length scap)) 105)).heap.size = w4.heap.size + 1 := by simp
        have hbw4 : base ≤ w4.heap.size := Nat.le_trans hbw HG4.out.size
        have k3 := k3'
        have k4 := k4'
        go_wp2_with fail
        clear hrx4 k3 k4 k3' k4'
        change Calls _ _ _ (w4.alloc (.cells (coinV n (.slice so n.lock.length scap)) 105)) _
        obtain ⟨G4, hG4⟩ : ∃ G4, w4.heap.size = G4 := ⟨_, rfl⟩
        rw [hG4] at HV hs5 hbw4 hrow4 ⊢
        have hG4e : w.heap.size ≤ G4 := by rw [← hG4]; exact HG4.out.size
        clear hG4
        generalize w4.alloc (.cells (coinV n (.slice so n.lock.length scap)) 105) = w5 at HV HS5 HN5 HG5 HO5 hs5 ⊢
        refine (insert_any S va vcap n (.slice so n.lock.length scap) i2 base G4 w5 HS5.out hi2 (by omega) HV.out HO5.out (fun e => by have := hrow4.out G4 e; omega) (by omega)).mono ?_
        rintro e w6 ⟨v6, rfl, hs6, hg6, hr6⟩
        have hins : S.take i2 ++ n :: S.drop i2 = withC cs (news.take (j + 1)) := by
          rw [HTK.out, withC_snoc, HSE.out]
          exact (insC_at n S i2 hi2 HF2.out.2.2.1 HF2.out.2.2.2).symm
        rw [hins] at hs6
        obtain ⟨va6, vcap6, hv6, -, -⟩ := sl_bounds hs6.rd
        subst hv6
        have HS6 := Lib.hid hs6
        have HG6 := Lib.hid (grownBy_then HG5.out hg6 (by
          rcases HRW.out with h | h
          · exact .inl h
          · exact .inr h))
        have HR6 : Hid (wrow (.slice va6 (withC cs (news.take (j + 1))).length vcap6) = wrow (.slice ca cs.length ccap) ∨ ∀ k, wrow (.slice va6 (withC cs (news.take (j + 1))).length vcap6) = some k → w.heap.size ≤ k) := by
          rcases hr6 with h | h
          · rcases HRW.out with h2 | h2
            · exact .inl (h.trans h2)
            · exact .inr fun k hk => h2 k (by rw [← h]; exact hk)
          · exact .inr fun k hk => by have := h k hk; omega
        have HN6 : Hid (setO base w6 (.slice (some ⟨g, off, none⟩) news.length ncap) news) := by
          obtain ⟨xs, ho⟩ := setO_own HS5.out
          refine HN5.out.grown ho hg6 fun k hk he => ?_
          rcases HRW.out with h | h
          · exact HAP.out k hk (by rw [← h]; exact he)
          · obtain ⟨ys, hn⟩ := setO_own HN.out
            have h1 := (own_lt hn hk).2.1
            have h2 := h k he
            omega
        have HNO6 : Hid (∀ m ∈ news.take (j + 1), atP old m.place = false) := by
          show ∀ m ∈ news.take (j + 1), atP old m.place = false
          rw [HTK.out]
          intro m hm
          rcases List.mem_append.1 hm with h | h
          · exact HNO.out m h
          · rw [List.mem_singleton.1 h]; exact HFA.out
        clear hs6 hg6 hr6 hins
        go_wp2
        go_roundw
        case rel => exact ⟨j + 1, va6, vcap6, by omega, rfl, by go_num, HS6, HG6, HR6, HN6, HNO6⟩
        case measure => simp [intOf]; omega
    · have hj2 : j = news.length := by omega
      have HSW : Hid (S = withC cs news) := by show S = _; rw [← HSE.out, List.take_of_length_le (by omega)]
      have HTW : Hid (twiceB old news = false) := twice_take (fun n hn => HNO.out n (by rw [List.take_of_length_le (by omega)]; exact hn))
      have hSL2 : S.length = cs.length + news.length := by rw [HSL.out, List.length_take]; omega
      have HSL2 := Lib.hid hSL2
      clear hj2 hSL2
      by_cases hbig : 1000 < S.length
      · have HE : Hid (withE old cs news = 4) := by
          show withE old cs news = 4
          unfold withE; rw [if_neg (by rw [HTW.out]; decide), if_pos (by rw [← HSL2.out]; exact hbig)]
        go_wp2
        go_ret2
        exact withPost_no 4 HE.out (by decide) rfl HG.out
      · have HE : Hid (withE old cs news = 0) := by
          show withE old cs news = 0
          unfold withE; rw [if_neg (by rw [HTW.out]; decide), if_neg (by rw [← HSL2.out]; exact hbig)]
        go_wp2
        go_ret2
        exact withPost_yes _ HE.out rfl (by rw [← HSW.out]; exact HS.out) HG.out
end Go.Proofs.YtljcdkfafknnpaaGreatDoor
namespace Go.Proofs.YtljcdkfafknnpaaGreatDoor
set_option linter.unusedVariables false
set_option linter.unusedSimpArgs false
open Go.RowKit
attribute [local go_sem ↓] run_load_agg run_store_agg run_load_any run_build_coin

theorem fill_step (place : Nat → Option (Nat × Nat)) (Z : Array Value) (i : Nat) (v : Value) (off n : Nat) (rest : List (Nat × Value)) (hp : place i = some (off, n)) (hv : v.cells.size = n) (hZ : off + n ≤ Z.size) :
    Instr.fill place Z ((i, v) :: rest) = Instr.fill place (Z.toList.take off ++ v.cells.toList ++ Z.toList.drop (off + n)).toArray rest := by
  have hnot : ¬ (v.cells.size ≠ n ∨ Z.size < off + v.cells.size) := by omega
  rw [Instr.fill, hp]
  simp only
  rw [← Array.foldl_toList, Array.toList_zipIdx]
  have f1 := fold_set v.cells.toList off 0 Z (by rw [Array.length_toList]; omega)
  simp only [Nat.add_zero, Array.length_toList] at f1
  rw [f1, if_neg (by simp; omega), hv]
def zPl : Array Value := #[.int .u8 0, .int .u8 0, .int .u8 0, .int .u8 0, .int .u8 0, .int .u8 0, .int .u8 0, .int .u8 0, .int .u8 0, .int .u8 0, .int .u8 0, .int .u8 0, .int .u8 0, .int .u8 0, .int .u8 0, .int .u8 0, .int .u8 0, .int .u8 0, .int .u8 0, .int .u8 0, .int .u8 0, .int .u8 0, .int .u8 0, .int .u8 0, .int .u8 0, .int .u8 0, .int .u8 0, .int .u8 0, .int .u8 0, .int .u8 0, .int .u8 0, .int .u8 0, .int .i64 0]
theorem built_place (parts : List (Nat × Value)) : Tryz.prog.built 97 parts = Instr.fill (fun x => #[(0, 32), (32, 1)][x]?) zPl parts := by kernel_rfl
theorem built_coin (parts : List (Nat × Value)) : Tryz.prog.built 105 parts = Instr.fill (fun x => #[(0, 33), (33, 2), (35, 1)][x]?) zCoin parts := by kernel_rfl
def plA (d : Array Value) (v : Value) : Array Value := d ++ #[v]
def coA (p o : Array Value) (v : Value) : Array Value := p ++ o ++ #[v]
theorem built_place2 (d : Array Value) (v : Value) (hd : d.size = 32) (hv : v.cells = #[v]) : Tryz.prog.built 97 [(0, .agg d), (1, v)] = some (plA d v) := by
  have hz : zPl.size = 33 := rfl
  rw [built_place, fill_step _ _ 0 (.agg d) 0 32 _ rfl (by simpa [Value.cells] using hd) (by omega), fill_step _ _ 1 v 32 1 _ rfl (by rw [hv]; rfl) (by simp [Value.cells, hd, hz])]
  have hag : (Value.agg d).cells = d := rfl
  have hl : d.toList.length = 32 := by rw [Array.length_toList, hd]
  rw [hv, hag]
  simp only [Instr.fill, List.take_zero, List.nil_append, plA]
  congr 1
  apply Array.ext'
  simp only [List.toList_toArray, Array.toList_append]
  rw [List.take_left' hl, List.drop_eq_nil_of_le (by simp only [List.length_append, List.length_drop, Array.length_toList]; omega), List.append_nil]
theorem built_coin3 (p o : Array Value) (v : Value) (hp : p.size = 33) (ho : o.size = 2) (hv : v.cells = #[v]) : Tryz.prog.built 105 [(0, .agg p), (1, .agg o), (2, v)] = some (coA p o v) := by
  have hz : zCoin.size = 36 := rfl
  rw [built_coin, fill_step _ _ 0 (.agg p) 0 33 _ rfl (by simpa [Value.cells] using hp) (by omega), fill_step _ _ 1 (.agg o) 33 2 _ rfl (by simpa [Value.cells] using ho) (by simp [Value.cells, hp, hz]),
    fill_step _ _ 2 v 35 1 _ rfl (by rw [hv]; rfl) (by simp [Value.cells, hp, ho, hz])]
  have hag : (Value.agg p).cells = p := rfl
  have hag2 : (Value.agg o).cells = o := rfl
  have hl : p.toList.length = 33 := by rw [Array.length_toList, hp]
  have hl2 : (p.toList ++ o.toList).length = 35 := by simp only [List.length_append, Array.length_toList]; omega
  rw [hv, hag, hag2]
  simp only [Instr.fill, List.take_zero, List.nil_append, coA]
  congr 1
  apply Array.ext'
  simp only [List.toList_toArray, Array.toList_append]
  rw [List.take_left' hl, List.take_left' hl2, List.drop_eq_nil_of_le (i := 35 + 1) (by simp only [List.length_append, List.length_drop, Array.length_toList]; omega), List.append_nil]
theorem exec_build_place (ev : Operand → Value) (w : World) (dst : Option Tmp) (x y : Operand) (type : TypeId) (pos : String) (after : Array Edge) (guard : Option (Nat × Bool)) (hx : isAggV (ev x) = true) (hsx : (aggCells (ev x)).size = 32) (hy : (ev y).cells = #[ev y]) :
    (execOp ev ⟨dst, .build 97 #[(0, x), (1, y)], type, pos, after, guard⟩).run Tryz.prog w = .ok (.value (.agg (plA (aggCells (ev x)) (ev y)))) w := by
  unfold isAggV at hx
  split at hx
  · rename_i d hd
    rw [hd] at hsx ⊢
    simp only [aggCells] at hsx ⊢
    have := run_build (P := Tryz.prog) w 97 #[(0, .agg d), (1, ev y)] _ (built_place2 d (ev y) hsx hy)
    simp only [execOp, List.map_toArray, List.map_cons, List.map_nil, hd, Sem.run_bind, this]
    rfl
  · cases hx
theorem exec_build_coin3 (ev : Operand → Value) (w : World) (dst : Option Tmp) (x y z : Operand) (type : TypeId) (pos : String) (after : Array Edge) (guard : Option (Nat × Bool)) (hx : isAggV (ev x) = true) (hsx : (aggCells (ev x)).size = 33) (hy : isAggV (ev y) = true) (hsy : (aggCells (ev y)).size = 2) (hz : (ev z).cells = #[ev z]) :
    (execOp ev ⟨dst, .build 105 #[(0, x), (1, y), (2, z)], type, pos, after, guard⟩).run Tryz.prog w = .ok (.value (.agg (coA (aggCells (ev x)) (aggCells (ev y)) (ev z)))) w := by
  unfold isAggV at hx hy
  split at hx
  · rename_i d hd
    split at hy
    · rename_i o ho
      rw [hd] at hsx ⊢
      rw [ho] at hsy ⊢
      simp only [aggCells] at hsx hsy ⊢
      have := run_build (P := Tryz.prog) w 105 #[(0, .agg d), (1, .agg o), (2, ev z)] _ (built_coin3 d o (ev z) hsx hsy hz)
      simp only [execOp, List.map_toArray, List.map_cons, List.map_nil, hd, ho, Sem.run_bind, this]
      rfl
    · cases hy
  · cases hx
/-- The coins of outs. -/
def newsC (id : List UInt8) (h : Int) : Nat → List OutD → List CoinD
  | _, [] => []
  | i, o :: os => ⟨id, i, o.amount, o.lock, h⟩ :: newsC id h (i + 1) os
theorem newsC_length (id : List UInt8) (h : Int) : ∀ (os : List OutD) (i : Nat), (newsC id h i os).length = os.length
  | [], _ => rfl
  | o :: os, i => by simp [newsC, newsC_length id h os (i + 1)]
theorem newsC_snoc (id : List UInt8) (h : Int) : ∀ (os : List OutD) (i : Nat) (o : OutD), newsC id h i (os ++ [o]) = newsC id h i os ++ [⟨id, (i + os.length : Nat), o.amount, o.lock, h⟩]
  | [], i, o => rfl
  | a :: os, i, o => by
    rw [List.cons_append, newsC, newsC, newsC_snoc id h os (i + 1) o, List.cons_append]
    congr 4
    simp; omega
theorem newsC_get (id : List UInt8) (h : Int) : ∀ (os : List OutD) (i k : Nat) (hk : k < os.length), (newsC id h i os)[k]? = some ⟨id, (i + k : Nat), (os[k]).amount, (os[k]).lock, h⟩
  | o :: os, i, 0, _ => by simp [newsC]
  | o :: os, i, k + 1, hk => by
    rw [newsC, List.getElem?_cons_succ, newsC_get id h os (i + 1) k (by simpa using hk)]
    simp; omega
/-- What is wrong with a set or a payment. -/
def chkF (cs : List CoinD) (t : TxD) : Int := if setF cs = 0 then txF t else setF cs
set_option maxHeartbeats 1000000 in
set_option maxRecDepth 100000 in
theorem checked_any (cs : List CoinD) (t : TxD) (ca ai ao : Option Addr) (cc ci co : Nat) (w : World) (hc : rdSl coinR 36 w (.slice ca cs.length cc) cs) (hi : rdSl inR 34 w (.slice ai t.ins.length ci) t.ins) (ho : rdSl outR 2 w (.slice ao t.outs.length co) t.outs) :
    Calls Tryz.prog 55 #[.slice ca cs.length cc, .agg #[.slice ai t.ins.length ci, .slice ao t.outs.length co, .int .i64 t.time]] w fun e w' => e = .returned (errV (chkF cs t)) ∧ Below w.heap.size w w' := by
  obtain ⟨n1, n2, n3⟩ := new_tx w ai ao t.ins.length t.outs.length ci co t.time
  unfold zTx at n1 n2
  have HC := Lib.hid hc; have HI := Lib.hid hi; have HO := Lib.hid ho
  have HX := Lib.hid (heap_alloc_new w (.cells #[.slice ai t.ins.length ci, .slice ao t.outs.length co, .int .i64 t.time] 59))
  have B0 := Lib.hid ((Below.refl w.heap.size w).alloc (Nat.le_refl _) (.cells #[.slice ai t.ins.length ci, .slice ao t.outs.length co, .int .i64 t.time] 59))
  clear hc hi ho
  go_enter Tryz.func55, Tryz.ntmps55
  go_upto_region 1 with fail
  clear n1 n2 n3
  change Code.wp _ _ _ _ (w.alloc (.cells #[.slice ai t.ins.length ci, .slice ao t.outs.length co, .int .i64 t.time] 59))
  obtain ⟨G, hG⟩ : ∃ G, w.heap.size = G := ⟨_, rfl⟩
  rw [hG] at HX ⊢
  clear hG
  generalize w.alloc (.cells #[.slice ai t.ins.length ci, .slice ao t.outs.length co, .int .i64 t.time] 59) = w0 at HX B0 ⊢
  go_wp2_with fail
  refine (coinCheck_any cs ca cc w0 (coinR_stays.slB HC.out B0.out (Nat.le_refl _))).mono ?_
  rintro e w1 ⟨rfl, hb⟩
  have B1 := Lib.hid (B0.out.trans (hb.mono B0.out.size))
  have r3 : rowAt w1 G 0 3 = some #[.slice ai t.ins.length ci, .slice ao t.outs.length co, .int .i64 t.time] := rowAt_whole ((hb.block G (Array.getElem?_eq_some_iff.1 HX.out).1).trans HX.out) 3 rfl
  clear hb
  obtain ⟨f, hf⟩ : ∃ f, setF cs = f := ⟨_, rfl⟩
  have HF : Hid (chkF cs t = if f = 0 then txF t else f) := by show chkF cs t = _; unfold chkF; rw [hf]
  rw [hf]
  clear hf
  by_cases hz : f = 0
  · subst hz
    have HF0 : Hid (chkF cs t = txF t) := by show chkF cs t = _; rw [HF.out, if_pos rfl]
    clear HF
    rw [errV_0]
    go_wp2_with fail
    refine (txCheck_any t ai ao ci co w1 (inR_stays.slB HI.out B1.out (Nat.le_refl _)) (outR_stays.slB HO.out B1.out (Nat.le_refl _))).mono ?_
    rintro e w2 ⟨rfl, hb⟩
    have B2 := Lib.hid (B1.out.trans (hb.mono B1.out.size))
    clear hb
    go_wp2
    go_ret
    exact ⟨by rw [HF0.out]; rfl, B2.out⟩
  · have HNZ := Lib.hid hz
    rw [errV_ne hz]
    clear hz
    go_wp2
    go_ret
    exact ⟨by rw [HF.out, if_neg HNZ.out, errV_ne HNZ.out]; rfl, B1.out⟩
end Go.Proofs.YtljcdkfafknnpaaGreatDoor
namespace Go.Proofs.YtljcdkfafknnpaaGreatDoor
set_option linter.unusedVariables false
set_option linter.unusedSimpArgs false
open Go.RowKit
attribute [local go_sem ↓] run_load_agg run_store_agg run_load_any run_build_coin exec_build_place exec_build_coin3

def MadePost (cs : List CoinD) (w : World) (e : Ending) (w' : World) : Prop := ∃ v, e = .returned v ∧ setO w.heap.size w' v cs ∧ Below w.heap.size w w'
theorem madePost_mk {cs : List CoinD} {w w' : World} {e : Ending} (v : Value) (he : e = .returned v) (h1 : setO w.heap.size w' v cs) (h2 : Below w.heap.size w w') : MadePost cs w e w' := ⟨v, he, h1, h2⟩
theorem coinR_plain {w : World} : ∀ {cs : List CoinD} {xs : List Value}, rdEach coinR 36 w cs xs → ∀ u ∈ xs, u.oneCell' = true
  | [], xs, h => by
    have : xs = [] := List.eq_nil_of_length_eq_zero (by simpa using h.1)
    subst this; intro u hu; cases hu
  | c :: cs, xs, h => by
    obtain ⟨h1, h2, h3⟩ := rdEach_cons h
    intro u hu
    rw [← List.take_append_drop 36 xs] at hu
    rcases List.mem_append.1 hu with hu | hu
    · obtain ⟨s, e, h32, hs⟩ := h1
      obtain ⟨so, scap, rfl, -, -⟩ := sl_bounds hs
      rw [e] at hu
      rcases List.mem_append.1 hu with hu | hu
      · exact vB_plain _ u hu
      · simp only [List.mem_cons, List.not_mem_nil, or_false] at hu
        rcases hu with rfl | rfl | rfl | rfl <;> rfl
    · exact coinR_plain h3 u hu
/-- As it reads in one world, whatever the world. -/
def constR {α : Type} (R : Rd α) (W : World) : Rd α := fun _ a cs => R W a cs
theorem constR_on {α : Type} {R : Rd α} (hs : Stays R) {W w : World} (hb : Below W.heap.size W w) {sz : Nat} {u : World} {zs : List α} {xs : List Value} (h : rdEach (constR R W) sz u zs xs) : rdEach R sz w zs xs :=
  rdEach_map h fun a cs ha => hs W w a cs (fun k hk => hb.block k hk) ha
theorem constR_any {α : Type} {R : Rd α} {W w w' : World} {sz : Nat} {zs : List α} {xs : List Value} (h : rdEach (constR R W) sz w zs xs) : rdEach (constR R W) sz w' zs xs := rdEach_map h fun a cs ha => ha
set_option maxHeartbeats 4000000 in
set_option maxRecDepth 100000 in
theorem made_any (t : TxD) (ai ao : Option Addr) (ci co : Nat) (h : Int) (w : World) (hi : rdSl inR 34 w (.slice ai t.ins.length ci) t.ins) (ho : rdSl outR 2 w (.slice ao t.outs.length co) t.outs) (hT : tabAt w) (hok : txF t = 0) :
    Calls Tryz.prog 57 #[.agg #[.slice ai t.ins.length ci, .slice ao t.outs.length co, .int .i64 t.time], .int .i64 h] w (MadePost (newsC (idD t) h 0 t.outs) w) := by
  obtain ⟨n1, n2, n3⟩ := new_tx w ai ao t.ins.length t.outs.length ci co t.time
  unfold zTx at n1 n2
  obtain ⟨_, _, e, o1, o2⟩ := sl_bounds ho
  cases e
  unfold maxLen at o2
  have hto := txOk_of hok
  have ho40 := hto.outs
  have HOK := Lib.hid hto
  have hidv : idV t = .tuple #[.agg (dgV (idD t)), .nilIface] := by unfold idV; rw [hok, if_pos rfl]; rfl
  have hgT := rowAt_lt hT
  have HI := Lib.hid hi; have HO := Lib.hid ho; have HT := Lib.hid hT
  have HX := Lib.hid (heap_alloc_new w (.cells #[.slice ai t.ins.length ci, .slice ao t.outs.length co, .int .i64 t.time] 59))
  have B0 := Lib.hid ((Below.refl w.heap.size w).alloc (Nat.le_refl _) (.cells #[.slice ai t.ins.length ci, .slice ao t.outs.length co, .int .i64 t.time] 59))
  have HID := Lib.hid (fun W => txID_any t ai ao ci co W)
  rw [hidv] at HID
  obtain ⟨id, hid⟩ : ∃ id, idD t = id := ⟨_, rfl⟩
  have hid32 : id.length = 32 := by rw [← hid]; exact idD_length t
  rw [hid] at HID ⊢
  obtain ⟨i0, hi0, hz0, hz1, hz2⟩ := info_parts' info_coin
  clear hi ho hT hok hto hidv hid
  go_enter Tryz.func57, Tryz.ntmps57
  go_upto_region 1 with fail
  clear n1 n2 n3
  change Code.wp _ _ _ _ (w.alloc (.cells #[.slice ai t.ins.length ci, .slice ao t.outs.length co, .int .i64 t.time] 59))
  obtain ⟨G, hG⟩ : ∃ G, w.heap.size = G := ⟨_, rfl⟩
  have hGe : w.heap.size ≤ G := by omega
  rw [hG] at HX ⊢
  clear hG
  generalize w.alloc (.cells #[.slice ai t.ins.length ci, .slice ao t.outs.length co, .int .i64 t.time] 59) = w0 at HX B0 ⊢
  have r3 : rowAt w0 G 0 3 = some #[.slice ai t.ins.length ci, .slice ao t.outs.length co, .int .i64 t.time] := rowAt_whole HX.out 3 rfl
  go_wp2_with fail
  refine (HID.out w0 (inR_stays.slB HI.out B0.out (Nat.le_refl _)) (outR_stays.slB HO.out B0.out (Nat.le_refl _)) ((rowAt_below B0.out hgT 0 64).trans HT.out)).mono ?_
  rintro e w1 ⟨rfl, hb⟩
  have B1 := Lib.hid (B0.out.trans (hb.mono B0.out.size))
  have HX1 : Hid (w1.heap[G]? = some (.cells #[.slice ai t.ins.length ci, .slice ao t.outs.length co, .int .i64 t.time] 59 (0, 0))) := (hb.block G (Array.getElem?_eq_some_iff.1 HX.out).1).trans HX.out
  have hs1 := hb.size
  clear hb r3 HID
  have m1 : (rowAt (w1.alloc (.cells zD 23)) w1.heap.size 0 32).isSome = true := by rw [rowAt_whole (heap_alloc_new w1 _) 32 rfl]; rfl
  have m2 := wrAt_of_heap (heap_alloc_new w1 (.cells zD 23))
  have m3 : plainCells (dgV id) = true := dgV_plain _
  have m4 : (dgV id).size = 32 := by rw [dgV_size, hid32]
  unfold zD at m1 m2
  go_upto_region 2 with fail
  clear m1 m2
  have B2 := Lib.hid (B1.out.alloc B1.out.size (.cells (dgV id) 23))
  have HD2 := Lib.hid (heap_alloc_new w1 (.cells (dgV id) 23))
  have HX2 : Hid ((w1.alloc (.cells (dgV id) 23)).heap[G]? = some (.cells #[.slice ai t.ins.length ci, .slice ao t.outs.length co, .int .i64 t.time] 59 (0, 0))) := (Below.heap_alloc _ _ _ (Array.getElem?_eq_some_iff.1 HX1.out).1).trans HX1.out
  change Code.wp _ _ _ _ (w1.alloc (.cells (dgV id) 23))
  obtain ⟨D, hD⟩ : ∃ D, w1.heap.size = D := ⟨_, rfl⟩
  rw [hD] at HD2 ⊢
  clear hD
  generalize w1.alloc (.cells (dgV id) 23) = w2 at B2 HD2 HX2 ⊢
  have c1 : w2.cell? ⟨G, 1, none⟩ = some (.slice ao t.outs.length co) := by rw [cell_of_row _ _ _ _ _ _ HX2.out]; rfl
  have hs2 := B2.out.size
  go_wp2_with fail
  clear c1
  go_loopw [7, 18] (fun s c wr => ∃ (j : Nat) (v : Value) (xs : List Value), j ≤ t.outs.length ∧ v = s ∧ c = .int .i64 j ∧ Hid (own wr w.heap.size 105 36 v j xs) ∧ Hid (rdEach (constR coinR w) 36 wr (newsC id h 0 (t.outs.take j)) xs) ∧ Hid (Below w.heap.size w wr) ∧ Hid (wr.heap[D]? = some (.cells (dgV id) 23 (0, 0)))) (fun _ c _ => t.outs.length - (intOf c).toNat)
  case atStart => exact ⟨0, _, [], by omega, rfl, rfl, Lib.hid (own_nil _ _ _ _), Lib.hid (rdEach_nil _ _ _), B2, HD2⟩
  case round =>
    obtain ⟨j, v, xs, hj, rfl, rfl, HW, HE, HB, HD⟩ := hrel
    by_cases hlt : j < t.outs.length
    · obtain ⟨g, off, so, scap, rfl, -, hlock0, hrow0⟩ := out_at HO.out j hlt
      have hrow : rowAt wr g (off + j * 2) 2 = some #[.int .i64 t.outs[j].amount, .slice so t.outs[j].lock.length scap] := (rowAt_below HB.out (rowAt_lt hrow0) _ _).trans hrow0
      obtain ⟨_, _, e, l1, l2⟩ := sl_bounds hlock0
      cases e
      unfold maxLen at l2
      have htk : newsC id h 0 (t.outs.take (j + 1)) = newsC id h 0 (t.outs.take j) ++ [⟨id, (j : Nat), t.outs[j].amount, t.outs[j].lock, h⟩] := by
        rw [List.take_succ_eq_append_getElem hlt, newsC_snoc, List.length_take, Nat.zero_add, Nat.min_eq_left (by omega)]
      obtain ⟨o, hoj⟩ : ∃ o, t.outs[j] = o := ⟨_, rfl⟩
      rw [hoj] at hlock0 hrow l1 htk
      have HTK := Lib.hid htk
      have HLK := Lib.hid hlock0
      obtain ⟨n1, n2, n3⟩ := new_out wr o.amount so o.lock.length scap
      unfold zOut at n1 n2
      have hgl := rowAt_lt hrow
      have BX := Lib.hid (HB.out.alloc HB.out.size (.cells #[.int .i64 o.amount, .slice so o.lock.length scap] 103))
      have HWX := Lib.hid (own_alloc HW.out (.cells #[.int .i64 o.amount, .slice so o.lock.length scap] 103))
      have HDX : Hid ((wr.alloc (.cells #[.int .i64 o.amount, .slice so o.lock.length scap] 103)).heap[D]? = some (.cells (dgV id) 23 (0, 0))) := (Below.heap_alloc _ _ _ (Array.getElem?_eq_some_iff.1 HD.out).1).trans HD.out
      have hro : rowAt (wr.alloc (.cells #[.int .i64 o.amount, .slice so o.lock.length scap] 103)) wr.heap.size 0 2 = some #[.int .i64 o.amount, .slice so o.lock.length scap] := rowAt_whole (heap_alloc_new wr _) 2 rfl
      clear hoj hlock0 hrow0 htk
      go_upto_region 6 with fail
      clear n1 n2 n3 hrow
      change Code.wp _ _ _ _ (wr.alloc (.cells #[.int .i64 o.amount, .slice so o.lock.length scap] 103))
      obtain ⟨G3, hG3⟩ : ∃ G3, wr.heap.size = G3 := ⟨_, rfl⟩
      rw [hG3] at hro ⊢
      clear hG3
      generalize wr.alloc (.cells #[.int .i64 o.amount, .slice so o.lock.length scap] 103) = w3 at BX HWX HDX hro ⊢
      have hrd : rowAt w3 D 0 32 = some (dgV id) := rowAt_whole HDX.out 32 m4.symm
      obtain ⟨C, hC⟩ : ∃ C : CoinD, C = ⟨id, (j : Nat), o.amount, o.lock, h⟩ := ⟨_, rfl⟩
      have hC32 : C.tx.length = 32 := by rw [hC]; exact hid32
      have hpv : plA (dgV id) (.int .i64 (j : Int)) = plV ⟨id, j⟩ := rfl
      have hps : (plV ⟨id, (j : Int)⟩).size = 33 := plV_size _ hid32
      have hcv : coA (plV ⟨id, (j : Int)⟩) #[.int .i64 o.amount, .slice so o.lock.length scap] (.int .i64 h) = coinV C (.slice so o.lock.length scap) := by
        rw [hC]; simp [coA, plV, coinV]
      have hvs : (coinV C (.slice so o.lock.length scap)).size = 36 := coinV_size C _ hC32
      have HVL : Hid ((coinV C (.slice so o.lock.length scap)).toList.length = 1 * 36) := by show _ = _; rw [Array.length_toList, hvs]
      have HCR : Hid (coinR w C (coinV C (.slice so o.lock.length scap)).toList) := by
        show coinR _ _ _
        rw [coinV_list]
        refine ⟨_, rfl, hC32, ?_⟩
        have := HLK.out
        rw [hC]; exact this
      rw [← hC] at HTK
      obtain ⟨V, hV⟩ : ∃ V, coinV C (.slice so o.lock.length scap) = V := ⟨_, rfl⟩
      rw [hV] at hcv hvs HVL HCR
      have B4 := Lib.hid (BX.out.alloc BX.out.size (.cells V 105))
      have HW4 := Lib.hid (own_alloc HWX.out (.cells V 105))
      have HD4 : Hid ((w3.alloc (.cells V 105)).heap[D]? = some (.cells (dgV id) 23 (0, 0))) := (Below.heap_alloc _ _ _ (Array.getElem?_eq_some_iff.1 HDX.out).1).trans HDX.out
      have HN4 := Lib.hid (rd_new_row w3 V 105 _ rfl)
      have HP4 : Hid (∀ u ∈ V.toList, u.oneCell' = true) := fun u hu => by
        rw [← hV] at hu
        exact List.all_eq_true.1 (coinV_plain C so o.lock.length scap) u hu
      clear hV hC hC32 hrd
      have hrd : rowAt w3 D 0 32 = some (dgV id) := rowAt_whole HDX.out 32 m4.symm
      have hsz4 : (w3.alloc (.cells V 105)).heap.size = w3.heap.size + 1 := by simp
      have hbs := B4.out.size
      go_wp2_with (at_builtin; refine wpList_append_row rfl (.tmp 23) (.tmp 30) 55 rfl 105 i0 (.agg zCoin) 36 80 Tryz.underlying55 hi0 hz0 hz1 hz2 rfl (by decide) w.heap.size j xs HW4.out 1 _ HVL.out HN4.out HP4.out ?c2 ?c3 ?c4 ?_)
      case c2 => unfold maxLen; omega
      case c3 => omega
      case c4 => exact hbs
      intro v1 w5 ho5 hg5 hr5
      have hg5' : (w3.alloc (.cells V 105)).grownBy w5 (wrow v) := hg5
      have B5 := Lib.hid (B4.out.grown hg5' hbs (fun q hq => (own_lt HW4.out hq).1))
      have HD5 : Hid (w5.heap[D]? = some (.cells (dgV id) 23 (0, 0))) := (hg5'.block D (Array.getElem?_eq_some_iff.1 HD4.out).1 (fun e => own_ne HW4.out HD4.out (by decide) e.symm)).trans HD4.out
      have HO5 : Hid (own w5 w.heap.size 105 36 v1 (j + 1) (xs ++ V.toList)) := ho5
      have HE5 : Hid (rdEach (constR coinR w) 36 w5 (newsC id h 0 (t.outs.take (j + 1))) (xs ++ V.toList)) := by
        show rdEach _ _ _ _ _
        rw [HTK.out]
        exact rdEach_snoc (constR_any HE.out) (by rw [HVL.out]) HCR.out
      clear ho5 hg5 hr5 hg5'
      go_wp2
      go_roundw
      case rel => exact ⟨j + 1, v1, _, by omega, rfl, by go_num, HO5, HE5, B5, HD5⟩
      case measure => simp [intOf]; omega
    · have hj2 : j = t.outs.length := by omega
      have HN : Hid (newsC id h 0 (t.outs.take j) = newsC id h 0 t.outs) := by show newsC id h 0 (t.outs.take j) = _; rw [List.take_of_length_le (by omega)]
      have hnl : (newsC id h 0 t.outs).length = j := by rw [newsC_length]; omega
      have hw' := HW.out
      obtain ⟨-, vo, vcap, rfl, -, -, -⟩ := hw'
      have hrd : rdSl coinR 36 wr (.slice vo (newsC id h 0 t.outs).length vcap) (newsC id h 0 t.outs) := by
        rw [hnl]
        refine ⟨xs, by rw [hnl]; exact own_rd HW.out, ?_⟩
        rw [← HN.out]
        exact constR_on coinR_stays HB.out HE.out
      have hcp := copy_any (newsC id h 0 t.outs) vo vcap wr hrd (by rw [hnl]; omega) (fun c hc => by
        obtain ⟨k, hk, rfl⟩ := List.getElem_of_mem hc
        have hk' : k < t.outs.length := by rw [newsC_length] at hk; exact hk
        have e := newsC_get id h t.outs 0 k hk'
        rw [List.getElem?_eq_getElem hk] at e
        injection e with e
        rw [e]
        exact (HOK.out.out _ (List.getElem_mem hk')).lock)
      rw [hnl] at hcp
      have HCP := Lib.hid hcp
      clear hj2 hnl hrd hcp
      go_wp2_with fail
      refine Calls.mono HCP.out ?_
      rintro e w6 ⟨v6, ys, rfl, ho6, he6, hb6⟩
      have HS6 : Hid (setO wr.heap.size w6 v6 (newsC id h 0 t.outs)) := ⟨ys, ho6, he6⟩
      have B6 := Lib.hid (HB.out.trans (hb6.mono HB.out.size))
      have hbs := HB.out.size
      clear ho6 he6 hb6
      go_wp2
      go_ret
      exact madePost_mk _ rfl (HS6.out.base hbs) B6.out
end Go.Proofs.YtljcdkfafknnpaaGreatDoor
namespace Go.Proofs.YtljcdkfafknnpaaGreatDoor
set_option linter.unusedVariables false
set_option linter.unusedSimpArgs false
open Go.RowKit
attribute [local go_sem ↓] run_load_agg run_store_agg run_load_any

def iV64 (n : Int) : Value := .int .i64 n
theorem iV64_plain (l : List Int) : ∀ u ∈ l.map iV64, u.oneCell' = true := vs_oneCell .i64 (fun x => x) l
theorem info_int : (Tryz.prog.info? 3).map (fun i => (i.zero, i.size, i.bytes)) = some (some (.int .i64 0), 1, 8) := by kernel_rfl
/-- What amounts are together, and what is wrong with them. -/
def totC : Int → List Int → Int
  | _, [] => 0
  | s, n :: ns => if n < 0 ∨ 1125899906842624 < n then 2 else if 1125899906842624 < s + n then 4 else totC (s + n) ns
def totS : Int → List Int → Int
  | s, [] => s
  | s, n :: ns => totS (s + n) ns
def totV (ns : List Int) : Int := if totC 0 ns = 0 then totS 0 ns else 0
theorem tot_bad (s n : Int) (ns : List Int) (h : n < 0 ∨ 1125899906842624 < n) : totC s (n :: ns) = 2 := by rw [totC, if_pos h]
theorem tot_full (s n : Int) (ns : List Int) (h : ¬ (n < 0 ∨ 1125899906842624 < n)) (h2 : 1125899906842624 < s + n) : totC s (n :: ns) = 4 := by rw [totC, if_neg h, if_pos h2]
theorem tot_on (s n : Int) (ns : List Int) (h : ¬ (n < 0 ∨ 1125899906842624 < n)) (h2 : ¬ 1125899906842624 < s + n) : totC s (n :: ns) = totC (s + n) ns := by rw [totC, if_neg h, if_neg h2]
theorem drop_at (ns : List Int) (j : Nat) (hj : j < ns.length) : ns.drop j = ns[j] :: ns.drop (j + 1) := List.drop_eq_getElem_cons hj
/-- A number of a slice of numbers. -/
theorem int_at {w : World} {ao : Option Addr} {n cap : Nat} {ns : List Int} (h : rd w (.slice ao n cap) n (ns.map iV64)) (hl : ns.length = n) (hn : 0 < n) :
    ∃ g off, ao = some ⟨g, off, none⟩ ∧ ∀ j (hj : j < ns.length), w.cell? ⟨g, off + j, none⟩ = some (.int .i64 ns[j]) := by
  obtain ⟨_, _, e, -, -, h3⟩ := h
  cases e
  rcases h3 with h3 | ⟨g, off, rfl, h3⟩
  · have := congrArg List.length h3; rw [List.length_map, List.length_nil] at this; omega
  · exact ⟨g, off, rfl, fun j hj => h3 j _ (by rw [List.getElem?_map, List.getElem?_eq_getElem hj]; rfl)⟩
set_option maxHeartbeats 2000000 in
set_option maxRecDepth 100000 in
theorem total_any (ns : List Int) (v : Value) (n : Nat) (w : World) (h : rd w v n (ns.map iV64)) (hl : ns.length = n) :
    Calls Tryz.prog 87 #[v] w fun e w' => e = .returned (.tuple #[.int .i64 (totV ns), .int .i64 (totC 0 ns)]) ∧ w' = w := by
  have h' := h
  obtain ⟨ao, cap, rfl, k1, k2, -⟩ := h'
  unfold maxLen at k2
  have HA := Lib.hid (fun hn => int_at h hl hn)
  have HV : Hid (∀ c s, totC 0 ns = c → (c = 0 → totS 0 ns = s) → (c ≠ 0 → s = 0) → Ending.returned (.tuple #[.int .i64 s, .int .i64 c]) = .returned (.tuple #[.int .i64 (totV ns), .int .i64 (totC 0 ns)])) := fun c s h1 h2 h3 => by
    subst h1
    unfold totV
    by_cases hz : totC 0 ns = 0
    · rw [if_pos hz, h2 hz]
    · rw [if_neg hz, h3 hz]
  have HL := Lib.hid hl
  clear h hl
  go_enter Tryz.func87, Tryz.ntmps87
  go_wp2_with fail
  go_loop [4, 5] (fun s c => ∃ (j : Nat) (S : Int), j ≤ n ∧ c = .int .i64 j ∧ s = .int .i64 S ∧ 0 ≤ S ∧ S ≤ 1125899906842624 ∧ Hid (totC 0 ns = totC S (ns.drop j)) ∧ Hid (totS 0 ns = totS S (ns.drop j))) (fun _ c => n - (intOf c).toNat)
  case atStart => exact ⟨0, 0, by omega, rfl, rfl, by omega, by omega, Lib.hid rfl, Lib.hid rfl⟩
  case round =>
    obtain ⟨j, S, hj, rfl, rfl, s0, s1, HC, HS⟩ := hrel
    by_cases hlt : j < n
    · obtain ⟨g, off, rfl, hcs⟩ := HA.out (by omega)
      have hjl : j < ns.length := by rw [HL.out]; exact hlt
      have c1 := hcs j hjl
      have hd := drop_at ns j hjl
      obtain ⟨x, hx⟩ : ∃ x, ns[j] = x := ⟨_, rfl⟩
      rw [hx] at c1 hd
      have HD := Lib.hid hd
      have HM := Lib.hid (money_any x)
      clear hcs hx hd hjl
      by_cases hm : 0 ≤ x ∧ x ≤ 1125899906842624
      · have d1 : decide (0 ≤ x ∧ x ≤ 1125899906842624) = true := decide_eq_true hm
        rw [d1] at HM
        obtain ⟨m1, m2⟩ := hm
        clear d1
        by_cases hf : 1125899906842624 < S + x
        · have hc : totC 0 ns = 4 := by rw [HC.out, HD.out, tot_full _ _ _ (by omega) hf]
          have HZ := Lib.hid hc; clear hc
          go_wp2_with fail
          refine (HM.out _).mono ?_
          rintro e w' ⟨rfl, hw'⟩
          rw [hw']
          clear hw' w'
          go_wp2
          go_ret2
          exact ⟨HV.out 4 0 HZ.out (fun h => by cases h) (fun _ => rfl), rfl⟩
        · have HC2 := Lib.hid (HC.out.trans (by rw [HD.out, tot_on _ _ _ (by omega) hf]))
          have HS2 := Lib.hid (HS.out.trans (by rw [HD.out, totS]))
          go_wp2_with fail
          refine (HM.out _).mono ?_
          rintro e w' ⟨rfl, hw'⟩
          rw [hw']
          clear hw' w'
          go_wp2
          go_round
          case rel => exact ⟨j + 1, S + x, by omega, by go_num, rfl, by omega, by omega, HC2, HS2⟩
          case measure => simp [intOf]; omega
      · have d1 : decide (0 ≤ x ∧ x ≤ 1125899906842624) = false := decide_eq_false hm
        rw [d1] at HM
        have hc : totC 0 ns = 2 := by rw [HC.out, HD.out, tot_bad _ _ _ (by omega)]
        have HZ := Lib.hid hc
        clear d1 hm hc
        go_wp2_with fail
        refine (HM.out _).mono ?_
        rintro e w' ⟨rfl, hw'⟩
        rw [hw']
        clear hw' w'
        go_wp2
        go_ret2
        exact ⟨HV.out 2 0 HZ.out (fun h => by cases h) (fun _ => rfl), rfl⟩
    · have hd : ns.drop j = [] := List.drop_eq_nil_of_le (by rw [HL.out]; omega)
      have hc : totC 0 ns = 0 := by rw [HC.out, hd, totC]
      have hs : totS 0 ns = S := by rw [HS.out, hd, totS]
      have HZ := Lib.hid hc; have HZS := Lib.hid hs
      clear hd hc hs
      go_wp2
      go_ret2
      exact ⟨HV.out 0 S HZ.out (fun _ => HZS.out) (fun h => absurd rfl h), rfl⟩
set_option maxHeartbeats 2000000 in
set_option maxRecDepth 100000 in
theorem moneySum_any (ns : List Int) (v : Value) (n : Nat) (w : World) (h : rd w v n (ns.map iV64)) (hl : ns.length = n) :
    Calls Tryz.prog 91 #[v] w fun e w' => e = .returned (.tuple #[.int .i64 (totV ns), errV (totC 0 ns)]) ∧ w' = w := by
  have h' := h
  obtain ⟨ao, cap, rfl, k1, k2, -⟩ := h'
  unfold maxLen at k2
  have HA := Lib.hid (fun hn => int_at h hl hn)
  have HV : Hid (∀ c s v, v = errV c → totC 0 ns = c → (c = 0 → totS 0 ns = s) → (c ≠ 0 → s = 0) → Ending.returned (.tuple #[.int .i64 s, v]) = .returned (.tuple #[.int .i64 (totV ns), errV (totC 0 ns)])) := fun c s v hv h1 h2 h3 => by
    subst h1
    subst hv
    unfold totV
    by_cases hz : totC 0 ns = 0
    · rw [if_pos hz, h2 hz]
    · rw [if_neg hz, h3 hz]
  have HL := Lib.hid hl
  clear h hl
  go_enter Tryz.func91, Tryz.ntmps91
  go_wp2_with fail
  go_loop [4, 10] (fun s c => ∃ (j : Nat) (S : Int), j ≤ n ∧ c = .int .i64 j ∧ s = .int .i64 S ∧ 0 ≤ S ∧ S ≤ 1125899906842624 ∧ Hid (totC 0 ns = totC S (ns.drop j)) ∧ Hid (totS 0 ns = totS S (ns.drop j))) (fun _ c => n - (intOf c).toNat)
  case atStart => exact ⟨0, 0, by omega, rfl, rfl, by omega, by omega, Lib.hid rfl, Lib.hid rfl⟩
  case round =>
    obtain ⟨j, S, hj, rfl, rfl, s0, s1, HC, HS⟩ := hrel
    by_cases hlt : j < n
    · obtain ⟨g, off, rfl, hcs⟩ := HA.out (by omega)
      have hjl : j < ns.length := by rw [HL.out]; exact hlt
      have c1 := hcs j hjl
      have hd := drop_at ns j hjl
      obtain ⟨x, hx⟩ : ∃ x, ns[j] = x := ⟨_, rfl⟩
      rw [hx] at c1 hd
      have HD := Lib.hid hd
      have HM := Lib.hid (moneyCheck_any x)
      clear hcs hx hd hjl
      by_cases hm : x < 0 ∨ 1125899906842624 < x
      · have d1 : moneyF x = 2 := by unfold moneyF; rw [if_pos hm]
        rw [d1, errV_ne (c := 2) (by decide)] at HM
        have hc : totC 0 ns = 2 := by rw [HC.out, HD.out, tot_bad _ _ _ hm]
        have HZ := Lib.hid hc
        clear d1 hm hc
        go_wp2_with fail
        refine (HM.out _).mono ?_
        rintro e w' ⟨rfl, hw'⟩
        rw [hw']
        clear hw' w'
        go_wp2
        go_ret2
        exact ⟨HV.out 2 0 _ rfl HZ.out (fun h => by cases h) (fun _ => rfl), rfl⟩
      · have d1 : moneyF x = 0 := by unfold moneyF; rw [if_neg hm]
        rw [d1, errV_0] at HM
        have m1 : 0 ≤ x := by omega
        have m2 : x ≤ 1125899906842624 := by omega
        clear d1 hm
        by_cases hf : 1125899906842624 < S + x
        · have hc : totC 0 ns = 4 := by rw [HC.out, HD.out, tot_full _ _ _ (by omega) hf]
          have HZ := Lib.hid hc; clear hc
          go_wp2_with fail
          refine (HM.out _).mono ?_
          rintro e w' ⟨rfl, hw'⟩
          rw [hw']
          clear hw' w'
          go_wp2
          go_ret2
          exact ⟨HV.out 4 0 _ rfl HZ.out (fun h => by cases h) (fun _ => rfl), rfl⟩
        · have HC2 := Lib.hid (HC.out.trans (by rw [HD.out, tot_on _ _ _ (by omega) hf]))
          have HS2 := Lib.hid (HS.out.trans (by rw [HD.out, totS]))
          go_wp2_with fail
          refine (HM.out _).mono ?_
          rintro e w' ⟨rfl, hw'⟩
          rw [hw']
          clear hw' w'
          go_wp2
          go_round
          case rel => exact ⟨j + 1, S + x, by omega, by go_num, rfl, by omega, by omega, HC2, HS2⟩
          case measure => simp [intOf]; omega
    · have hd : ns.drop j = [] := List.drop_eq_nil_of_le (by rw [HL.out]; omega)
      have hc : totC 0 ns = 0 := by rw [HC.out, hd, totC]
      have hs : totS 0 ns = S := by rw [HS.out, hd, totS]
      have HZ := Lib.hid hc; have HZS := Lib.hid hs
      clear hd hc hs
      go_wp2
      go_ret2
      exact ⟨HV.out 0 S _ rfl HZ.out (fun _ => HZS.out) (fun h => absurd rfl h), rfl⟩
end Go.Proofs.YtljcdkfafknnpaaGreatDoor
namespace Go.Proofs.YtljcdkfafknnpaaGreatDoor
set_option linter.unusedVariables false
set_option linter.unusedSimpArgs false
open Go.RowKit
attribute [local go_sem ↓] run_load_agg run_store_agg run_load_any

def amounts (cs : List CoinD) : List Int := cs.map CoinD.amount
theorem amounts_take (cs : List CoinD) (j : Nat) (hj : j < cs.length) : (amounts (cs.take (j + 1))).map iV64 = (amounts (cs.take j)).map iV64 ++ [.int .i64 cs[j].amount] := by
  unfold amounts
  rw [List.take_succ_eq_append_getElem hj, List.map_append, List.map_append]
  rfl
set_option maxHeartbeats 2000000 in
set_option maxRecDepth 100000 in
theorem worthOf_any (cs : List CoinD) (ao : Option Addr) (cap : Nat) (w : World) (h : rdSl coinR 36 w (.slice ao cs.length cap) cs) (hn : cs.length ≤ 1000) :
    Calls Tryz.prog 51 #[.slice ao cs.length cap] w fun e w' => e = .returned (.tuple #[.int .i64 (totV (amounts cs)), .int .i64 (totC 0 (amounts cs))]) ∧ Below w.heap.size w w' := by
  obtain ⟨_, _, e, hcap, hmax⟩ := sl_bounds h
  cases e
  unfold maxLen at hmax
  have HS := Lib.hid h; clear h
  obtain ⟨i0, hi0, hz0, hz1, hz2⟩ := info_parts' info_int
  go_enter Tryz.func51, Tryz.ntmps51
  go_wp2_with fail
  go_loopw [4, 5] (fun v c wr => ∃ j : Nat, j ≤ cs.length ∧ c = .int .i64 j ∧ Hid (own wr w.heap.size 3 1 v j ((amounts (cs.take j)).map iV64)) ∧ Hid (Below w.heap.size w wr)) (fun _ c _ => cs.length - (intOf c).toNat)
  case atStart => exact ⟨0, by omega, rfl, Lib.hid (own_nil _ _ _ _), Lib.hid (Below.refl _ _)⟩
  case round =>
    obtain ⟨j, hj, rfl, HO, HB⟩ := hrel
    have ho' := HO.out
    obtain ⟨-, oo, ocap, rfl, o1, o2, -⟩ := ho'
    unfold maxLen at o2
    by_cases hlt : j < cs.length
    · obtain ⟨g, off, so, scap, rfl, -, h32, d1, d2, hlock, hrow⟩ := coin_at (coinR_stays.slB HS.out HB.out (Nat.le_refl _)) j hlt
      have c1 : wr.cell? ⟨g, off + j * 36 + 33, none⟩ = some (.int .i64 cs[j].amount) := (cell_of_rowAt hrow 33 (by omega)).trans (coinV_tail _ _ h32).2.1
      have HT := Lib.hid (amounts_take cs j hlt)
      obtain ⟨x, hx⟩ : ∃ x, cs[j].amount = x := ⟨_, rfl⟩
      rw [hx] at c1 HT
      clear hlock hrow d1 d2 hx
      have HN := Lib.hid (rd_new1 wr (.int .i64 x) 3 _ rfl)
      have HO2 := Lib.hid (own_alloc HO.out (.cells #[.int .i64 x] 3))
      have B2 := Lib.hid (HB.out.alloc HB.out.size (.cells #[.int .i64 x] 3))
      go_wp2_with (at_builtin; refine wpList_append_rd rfl (.tmp 12) (.tmp 19) 80 rfl 3 i0 (.int .i64 0) 1 8 Tryz.underlying80 hi0 hz0 hz1 hz2 rfl (by decide) w.heap.size j _ HO2.out 1 [.int .i64 x] ?c1 HN.out ?c5 ?c2 ?c3 ?c4 ?_)
      case c1 => rfl
      case c5 => intro u hu; rw [List.mem_singleton.1 hu]; rfl
      case c2 => unfold maxLen; omega
      case c3 => omega
      case c4 => exact B2.out.size
      intro v1 w2 ho1 _ hg1
      have B3 := Lib.hid (B2.out.grown hg1 B2.out.size (fun q hq => (own_lt HO2.out hq).1))
      have HO3 := Lib.hid ho1; clear ho1 hg1
      go_wp2_with fail
      go_roundw
      case rel => exact ⟨j + 1, by omega, by go_num, Lib.hid (by rw [HT.out]; exact HO3.out), B3⟩
      case measure => simp [intOf]; omega
    · have hj2 : j = cs.length := by omega
      have hr := own_rd HO.out
      rw [List.take_of_length_le (by omega)] at hr
      have HR := Lib.hid (total_any (amounts cs) _ j wr hr (by simp [amounts]; omega))
      clear hr hj2
      go_wp2_with fail
      refine Calls.mono HR.out ?_
      rintro e w1 ⟨rfl, hw'⟩
      rw [hw']
      clear hw' w1
      go_wp2
      go_ret2
      exact ⟨rfl, HB.out⟩
set_option maxHeartbeats 2000000 in
set_option maxRecDepth 100000 in
theorem coinTotal_any (cs : List CoinD) (ao : Option Addr) (cap : Nat) (w : World) (h : rdSl coinR 36 w (.slice ao cs.length cap) cs) (hn : cs.length ≤ 1000) :
    Calls Tryz.prog 58 #[.slice ao cs.length cap] w fun e w' => e = .returned (.tuple #[.int .i64 (totV (amounts cs)), errV (totC 0 (amounts cs))]) ∧ Below w.heap.size w w' := by
  obtain ⟨_, _, e, hcap, hmax⟩ := sl_bounds h
  cases e
  unfold maxLen at hmax
  have HS := Lib.hid h; clear h
  obtain ⟨i0, hi0, hz0, hz1, hz2⟩ := info_parts' info_int
  go_enter Tryz.func58, Tryz.ntmps58
  go_wp2_with fail
  go_loopw [4, 9] (fun v c wr => ∃ j : Nat, j ≤ cs.length ∧ c = .int .i64 j ∧ Hid (own wr w.heap.size 3 1 v j ((amounts (cs.take j)).map iV64)) ∧ Hid (Below w.heap.size w wr)) (fun _ c _ => cs.length - (intOf c).toNat)
  case atStart => exact ⟨0, by omega, rfl, Lib.hid (own_nil _ _ _ _), Lib.hid (Below.refl _ _)⟩
  case round =>
    obtain ⟨j, hj, rfl, HO, HB⟩ := hrel
    have ho' := HO.out
    obtain ⟨-, oo, ocap, rfl, o1, o2, -⟩ := ho'
    unfold maxLen at o2
    by_cases hlt : j < cs.length
    · obtain ⟨g, off, so, scap, rfl, -, h32, d1, d2, hlock, hrow⟩ := coin_at (coinR_stays.slB HS.out HB.out (Nat.le_refl _)) j hlt
      have HT := Lib.hid (amounts_take cs j hlt)
      obtain ⟨c, hc⟩ : ∃ c, cs[j] = c := ⟨_, rfl⟩
      rw [hc] at HT h32 d1 hrow
      obtain ⟨n1, n2, n3, n4⟩ := new_coin wr c so c.lock.length scap h32
      have B1 := Lib.hid (HB.out.alloc HB.out.size (.cells (coinV c (.slice so c.lock.length scap)) 105))
      have HCA := CoinAt.new wr c (.slice so c.lock.length scap) h32
      have c33 := HCA.amount
      have HO1 := Lib.hid (own_alloc HO.out (.cells (coinV c (.slice so c.lock.length scap)) 105))
      clear hlock d1 d2 hc HCA
      unfold zCoin at n1 n2
      go_upto_region 5 with fail
      clear n1 n2 n3 n4
      change Code.wp _ _ _ _ (wr.alloc (.cells (coinV c (.slice so c.lock.length scap)) 105))
      generalize wr.alloc (.cells (coinV c (.slice so c.lock.length scap)) 105) = w0 at B1 HO1 c33 ⊢
      obtain ⟨x, hx⟩ : ∃ x, c.amount = x := ⟨_, rfl⟩
      rw [hx] at c33 HT
      clear hx hrow
      have HN := Lib.hid (rd_new1 w0 (.int .i64 x) 3 _ rfl)
      have HO2 := Lib.hid (own_alloc HO1.out (.cells #[.int .i64 x] 3))
      have B2 := Lib.hid (B1.out.alloc B1.out.size (.cells #[.int .i64 x] 3))
      go_wp2_with (at_builtin; refine wpList_append_rd rfl (.tmp 13) (.tmp 17) 80 rfl 3 i0 (.int .i64 0) 1 8 Tryz.underlying80 hi0 hz0 hz1 hz2 rfl (by decide) w.heap.size j _ HO2.out 1 [.int .i64 x] ?c1 HN.out ?c5 ?c2 ?c3 ?c4 ?_)
      case c1 => rfl
      case c5 => intro u hu; rw [List.mem_singleton.1 hu]; rfl
      case c2 => unfold maxLen; omega
      case c3 => omega
      case c4 => exact B2.out.size
      intro v1 w2 ho1 _ hg1
      have B3 := Lib.hid (B2.out.grown hg1 B2.out.size (fun q hq => (own_lt HO2.out hq).1))
      have HO3 := Lib.hid ho1; clear ho1 hg1
      go_wp2_with fail
      go_roundw
      case rel => exact ⟨j + 1, by omega, by go_num, Lib.hid (by rw [HT.out]; exact HO3.out), B3⟩
      case measure => simp [intOf]; omega
    · have hj2 : j = cs.length := by omega
      have hr := own_rd HO.out
      rw [List.take_of_length_le (by omega)] at hr
      have HR := Lib.hid (moneySum_any (amounts cs) _ j wr hr (by simp [amounts]; omega))
      clear hr hj2
      go_wp2_with fail
      refine Calls.mono HR.out ?_
      rintro e w1 ⟨rfl, hw'⟩
      rw [hw']
      clear hw' w1
      go_wp2
      go_ret2
      exact ⟨rfl, HB.out⟩
end Go.Proofs.YtljcdkfafknnpaaGreatDoor
namespace Go.Proofs.YtljcdkfafknnpaaGreatDoor
set_option linter.unusedVariables false
set_option linter.unusedSimpArgs false
def getC (cs : List CoinD) (p : PlaceD) : Option CoinD := cs.find? fun c => plE c.place p
def spC (cs : List CoinD) (xs : List InD) : List CoinD := xs.filterMap fun x => getC cs x.place
def foundB (cs : List CoinD) (xs : List InD) : Bool := xs.all fun x => atP cs x.place
def newsT (t : TxD) (h : Int) : List CoinD := newsC (idD t) h 0 t.outs
def applyE (cs : List CoinD) (t : TxD) (h : Int) : Int :=
  if chkF cs t ≠ 0 then chkF cs t
  else if h < 0 ∨ 1073741824 < h then 2
  else if foundB cs t.ins = false then 5
  else if totC 0 (amounts (spC cs t.ins)) ≠ 0 then totC 0 (amounts (spC cs t.ins))
  else if totC 0 (amounts (newsT t h)) ≠ 0 then totC 0 (amounts (newsT t h))
  else if 0 < t.ins.length ∧ totV (amounts (spC cs t.ins)) < totV (amounts (newsT t h)) then 9
  else withE cs (lessC cs (spC cs t.ins)) (newsT t h)
def applyS (cs : List CoinD) (t : TxD) (h : Int) : List CoinD := withC (lessC cs (spC cs t.ins)) (newsT t h)
def applyL (cs : List CoinD) (t : TxD) (h : Int) : Int := if 0 < t.ins.length then totV (amounts (spC cs t.ins)) - totV (amounts (newsT t h)) else 0
theorem getC_some {cs : List CoinD} {p : PlaceD} {c : CoinD} (h : getC cs p = some c) : c ∈ cs ∧ c.place = p := by
  unfold getC at h
  have h2 := List.find?_some (p := fun c : CoinD => plE c.place p) h
  exact ⟨List.mem_of_find?_eq_some h, plE_eq h2⟩
theorem getC_of {cs : List CoinD} {p : PlaceD} (hs : sortedP cs) {c : CoinD} (hc : c ∈ cs) (hp : c.place = p) : getC cs p = some c := by
  cases hg : getC cs p with
  | none =>
    unfold getC at hg
    rw [List.find?_eq_none] at hg
    exact absurd ((plE_iff _ _).2 hp) (hg c hc)
  | some d =>
    obtain ⟨h1, h2⟩ := getC_some hg
    rw [sorted_one hs h1 hc (h2.trans hp.symm)]
theorem getC_none {cs : List CoinD} {p : PlaceD} (h : atP cs p = false) : getC cs p = none := by
  unfold getC
  rw [List.find?_eq_none]
  intro c hc he
  unfold atP at h
  rw [List.any_eq_false] at h
  exact h c hc he
theorem spC_snoc {cs : List CoinD} {xs : List InD} {x : InD} {c : CoinD} (h : getC cs x.place = some c) : spC cs (xs ++ [x]) = spC cs xs ++ [c] := by
  unfold spC
  rw [List.filterMap_append]
  simp [h]
theorem spC_mem {cs : List CoinD} {xs : List InD} {c : CoinD} (h : c ∈ spC cs xs) : c ∈ cs ∧ ∃ x ∈ xs, x.place = c.place := by
  unfold spC at h
  obtain ⟨x, hx, hg⟩ := List.mem_filterMap.1 h
  obtain ⟨h1, h2⟩ := getC_some hg
  exact ⟨h1, x, hx, h2.symm⟩
theorem foundB_false {cs : List CoinD} {xs : List InD} {x : InD} (hx : x ∈ xs) (h : atP cs x.place = false) : foundB cs xs = false := by
  unfold foundB
  rw [List.all_eq_false]
  exact ⟨x, hx, by rw [h]; decide⟩
theorem foundB_true {cs : List CoinD} {xs : List InD} (h : ∀ x ∈ xs, atP cs x.place = true) : foundB cs xs = true := by
  unfold foundB
  rw [List.all_eq_true]
  exact h
theorem newsC_mem (id : List UInt8) (h : Int) : ∀ (os : List OutD) (i : Nat) (c : CoinD), c ∈ newsC id h i os → c.tx = id ∧ (i : Int) ≤ c.ix ∧ c.ix < (i : Int) + os.length ∧ c.height = h ∧ ∃ o ∈ os, c.amount = o.amount ∧ c.lock = o.lock
  | [], i, c, hc => by cases hc
  | o :: os, i, c, hc => by
    rw [newsC] at hc
    rcases List.mem_cons.1 hc with rfl | hc
    · exact ⟨rfl, Int.le_refl _, by simp; omega, rfl, o, by simp, rfl, rfl⟩
    · obtain ⟨h1, h2, h3, h4, p, hp, h5⟩ := newsC_mem id h os (i + 1) c hc
      refine ⟨h1, by omega, ?_, h4, p, by simp [hp], h5⟩
      simp only [List.length_cons]; omega
theorem newsC_apart (id : List UInt8) (h : Int) : ∀ (os : List OutD) (i : Nat), (newsC id h i os).Pairwise fun a b => a.place ≠ b.place
  | [], _ => List.Pairwise.nil
  | o :: os, i => by
    rw [newsC]
    refine List.pairwise_cons.2 ⟨fun c hc he => ?_, newsC_apart id h os (i + 1)⟩
    have := (newsC_mem id h os (i + 1) c hc).2.1
    have e : (i : Int) = c.ix := congrArg PlaceD.ix he
    omega
theorem all32_of' {cs : List CoinD} (h : all32 cs) : all32' cs := (all32_iff cs).1 h
theorem newsOk_of {cs : List CoinD} (h32 : all32 cs) (hs : sortedC cs) (gone : List CoinD) (t : TxD) (h : Int) : NewsOk cs (lessC cs gone) (newsT t h) :=
  ⟨fun c hc => all32_of' h32 c (mem_lessC.1 hc).1, lessC_sorted ((sorted_iff cs).1 hs), fun p hp => (hasP_less.1 hp).1, fun c hc => by rw [(newsC_mem _ _ _ _ _ hc).1]; exact idD_length t, newsC_apart _ _ _ _⟩
theorem lessC_length (cs gone : List CoinD) : (lessC cs gone).length ≤ cs.length := List.length_filter_le _ _
end Go.Proofs.YtljcdkfafknnpaaGreatDoor
namespace Go.Proofs.YtljcdkfafknnpaaGreatDoor
set_option linter.unusedVariables false
set_option linter.unusedSimpArgs false
open Go.RowKit
attribute [local go_sem ↓] run_load_agg run_store_agg run_load_any

theorem idxF_spec (p : CoinD → Bool) : ∀ (cs : List CoinD) (k : Nat), (idxF p cs k = -1 ∧ cs.filter (fun c => !p c) = cs) ∨ ∃ i, i < cs.length ∧ idxF p cs k = ((k + i : Nat) : Int) ∧ (cs.take (i + 1)).filter (fun c => !p c) = cs.take i
  | [], k => .inl ⟨rfl, rfl⟩
  | c :: cs, k => by
    cases h : p c with
    | true =>
      refine .inr ⟨0, by simp, by simp [idxF, h], by simp [h]⟩
    | false =>
      rcases idxF_spec p cs (k + 1) with ⟨h1, h2⟩ | ⟨i, h1, h2, h3⟩
      · exact .inl ⟨by simp [idxF, h, h1], by simp [h, h2]⟩
      · refine .inr ⟨i + 1, by simpa using h1, ?_, ?_⟩
        · rw [idxF, if_neg (by rw [h]; decide), h2]; congr 1; omega
        · rw [List.take_succ_cons, List.filter_cons, if_pos (by simp [h]), h3, List.take_succ_cons]
def DelPost (p : CoinD → Bool) (cs : List CoinD) (W0 : World) (e : Ending) (w' : World) : Prop :=
  ∃ v, e = .returned v ∧ setO W0.heap.size w' v (cs.filter fun c => !p c) ∧ Below W0.heap.size W0 w'
theorem delPost_mk {p : CoinD → Bool} {cs : List CoinD} {W0 : World} {e : Ending} {w' : World} (v : Value) (he : e = .returned v) (h1 : setO W0.heap.size w' v (cs.filter fun c => !p c)) (h2 : Below W0.heap.size W0 w') : DelPost p cs W0 e w' := ⟨v, he, h1, h2⟩
theorem Tells.on {W0 w : World} {f : FuncId} {cv : Value} {p : CoinD → Bool} (h : Tells W0 f cv p) (hb : Below W0.heap.size W0 w) : Tells w f cv p := fun W c so n cap hW h32 => h W c so n cap (hb.trans (hW.mono hb.size)) h32
set_option maxHeartbeats 4000000 in
set_option maxRecDepth 100000 in
theorem deleteC_any (p : CoinD → Bool) (f : FuncId) (cv : Value) (W0 : World) (cs : List CoinD) (ao : Option Addr) (cap : Nat) (w : World) (h : setO W0.heap.size w (.slice ao cs.length cap) cs) (hb : Below W0.heap.size W0 w) (hp : Tells W0 f cv p) (hcf : Enters f) :
    Calls Tryz.prog 92 #[.slice ao cs.length cap, .func (Fn.func f) #[] #[cv]] w (DelPost p cs W0) := by
  obtain ⟨_, _, e, hcap, hmax⟩ := sl_bounds h.rd
  cases e
  unfold maxLen at hmax
  have HI := Lib.hid (indexC_any p f cv cs ao cap w h.rd (hp.on hb) hcf)
  have HS := Lib.hid h; have HP := Lib.hid hp; have HB := Lib.hid hb
  obtain ⟨i0, hi0, hz0, hz1, hz2⟩ := info_parts' info_coin
  clear h hp hb
  rcases idxF_spec p cs 0 with ⟨x1, x2⟩ | ⟨i, x1, x2, x3⟩
  · rw [x1] at HI
    have HX := Lib.hid x2
    clear x1 x2 hcf
    go_enter Tryz.func92, Tryz.ntmps92
    go_wp2_with fail
    refine Calls.mono HI.out ?_
    rintro e w1 ⟨rfl, hd⟩
    have HS1 := Lib.hid (HS.out.below hd)
    have B1 := Lib.hid (HB.out.trans (hd.mono HB.out.size))
    clear hd
    go_wp2
    go_ret
    exact delPost_mk _ rfl (by rw [HX.out]; exact HS1.out) B1.out
  · rw [x2, Nat.zero_add] at HI
    have HX := Lib.hid x3
    clear x2 x3
    unfold Enters at hcf
    have hin : i < cs.length := x1
    go_enter Tryz.func92, Tryz.ntmps92
    go_wp2_with fail
    refine Calls.mono HI.out ?_
    rintro e w1 ⟨rfl, hd⟩
    have HS1 := Lib.hid (HS.out.below hd)
    have B1 := Lib.hid (HB.out.trans (hd.mono HB.out.size))
    clear hd HI HS HB
    have q0 : ((i : Int) == -1) = false := by simp
    go_wp2_with fail
    clear q0
    go_loopw [5, 6] (fun a b wr => ∃ (i j : Nat) (ds : List CoinD), a = .int .i64 i ∧ b = .int .i64 j ∧ i < j ∧ j ≤ cs.length ∧ Hid (ds.length = cs.length) ∧ Hid (ds.take i = (cs.take j).filter fun c => !p c) ∧ Hid (ds.drop j = cs.drop j) ∧
      Hid (setO W0.heap.size wr (.slice ao cs.length cap) ds) ∧ Hid (Below W0.heap.size W0 wr)) (fun _ b _ => cs.length - (intOf b).toNat)
    case atStart => exact ⟨i, i + 1, cs, rfl, by go_num, by omega, by omega, Lib.hid rfl, Lib.hid HX.out.symm, Lib.hid rfl, HS1, B1⟩
    case round =>
      obtain ⟨i, j, ds, rfl, rfl, hij, hjn, HL, HT, HD, HS, HB⟩ := hrel
      by_cases hlt : j < cs.length
      · have hjd : j < ds.length := by rw [HL.out]; exact hlt
        obtain ⟨g, off, so, scap, rfl, -, h32, d1, d2, hrow, hO⟩ := HS.out.at j hjd
        have hdj : ds[j] = cs[j] := by
          have e1 := List.drop_eq_getElem_cons hjd
          have e2 := List.drop_eq_getElem_cons hlt
          rw [HD.out, e2] at e1
          injection e1 with e3 _
          exact e3.symm
        have HTK : Hid (cs.take (j + 1) = cs.take j ++ [cs[j]]) := List.take_succ_eq_append_getElem hlt
        have HDD : Hid (ds.drop (j + 1) = cs.drop (j + 1)) := by
          show ds.drop (j + 1) = _
          rw [← List.drop_drop, HD.out, List.drop_drop]
        rw [hdj] at h32 hrow hO d1
        obtain ⟨c, hc⟩ : ∃ c, cs[j] = c := ⟨_, rfl⟩
        rw [hc] at h32 hrow hO HTK d1
        obtain ⟨n1, n2, n3, n4⟩ := new_coin wr c so c.lock.length scap h32
        unfold zCoin at n1 n2
        have hgl := rowAt_lt hrow
        have BX := Lib.hid (HB.out.alloc HB.out.size (.cells (coinV c (.slice so c.lock.length scap)) 105))
        have HSX := Lib.hid (HS.out.alloc (.cells (coinV c (.slice so c.lock.length scap)) 105))
        have HOX := Lib.hid (coinO_alloc (.cells (coinV c (.slice so c.lock.length scap)) 105) hO)
        have hrx : rowAt (wr.alloc (.cells (coinV c (.slice so c.lock.length scap)) 105)) wr.heap.size 0 36 = some (coinV c (.slice so c.lock.length scap)) := rowAt_whole (heap_alloc_new wr _) 36 n4.symm
        have n3' := n3
        have n4' := n4
        clear hdj hc hO
        go_upto_region 8 with fail
        clear n1 n2 hrow
        change Code.wp _ _ _ _ (wr.alloc (.cells (coinV c (.slice so c.lock.length scap)) 105))
        obtain ⟨G, hG⟩ : ∃ G, wr.heap.size = G := ⟨_, rfl⟩
        rw [hG] at hrx ⊢
        clear hG
        generalize wr.alloc (.cells (coinV c (.slice so c.lock.length scap)) 105) = w2 at BX HSX HOX hrx ⊢
        have HC := Lib.hid (HP.out w2 c so c.lock.length scap BX.out h32)
        obtain ⟨b, hb⟩ : ∃ b, p c = b := ⟨_, rfl⟩
        rw [hb] at HC
        have HPB := Lib.hid hb
        clear hb n3 n4
        go_wp2_with fail
        refine Calls.mono HC.out ?_
        rintro e w3 ⟨rfl, hd⟩
        have B3 := Lib.hid (BX.out.trans (hd.mono BX.out.size))
        have HS3 := Lib.hid (HSX.out.below hd)
        have HO3 := Lib.hid (coinO_below hd HOX.out)
        have hr3 := (rowAt_below hd (rowAt_lt hrx) 0 36).trans hrx
        clear hd hrx HC
        cases b
        · obtain ⟨p1, p2, p3, hput⟩ := HS3.out.put HL.out.symm i (by omega) c (.slice so c.lock.length scap) HO3.out h32
          have HS4 := Lib.hid hput
          have B4 := Lib.hid (putAt_below B3.out p3 (off + i * 36) (coinV c (.slice so c.lock.length scap)))
          have HF : Hid ((ds.set i c).take (i + 1) = (cs.take (j + 1)).filter fun c => !p c) := by
            show (ds.set i c).take (i + 1) = _
            have hl : i < ds.length := by omega
            rw [HTK.out, List.filter_append, ← HT.out, List.take_set, List.take_succ_eq_append_getElem hl, List.set_append_right _ _ (by simp; omega)]
            simp [HPB.out, show min i ds.length = i from by omega]
          have HDD2 : Hid ((ds.set i c).drop (j + 1) = cs.drop (j + 1)) := by
            show (ds.set i c).drop (j + 1) = _
            rw [List.drop_set_of_lt (by omega)]; exact HDD.out
          have HL2 : Hid ((ds.set i c).length = cs.length) := by show (ds.set i c).length = _; rw [List.length_set]; exact HL.out
          clear hput p3
          go_wp2
          go_roundw
          case rel => exact ⟨i + 1, j + 1, ds.set i c, by go_num, by go_num, by omega, by omega, HL2, HF, HDD2, HS4, B4⟩
          case measure => simp [intOf]; omega
        · have HF : Hid (ds.take i = (cs.take (j + 1)).filter fun c => !p c) := by
            show ds.take i = _
            rw [HTK.out, List.filter_append, HT.out]; simp [HPB.out]
          go_wp2
          go_roundw
          case rel => exact ⟨i, j + 1, ds, rfl, by go_num, by omega, by omega, HL, HF, HDD, HS3, B3⟩
          case measure => simp [intOf]; omega
      · have hj2 : j = cs.length := by omega
        have HF : Hid (ds.take i = cs.filter fun c => !p c) := by
          show ds.take i = _
          rw [HT.out, List.take_of_length_le (by omega)]
        obtain ⟨xs, ho, he⟩ := HS.out
        have hn : ds.length = cs.length := HL.out
        rw [hn] at ho
        obtain ⟨g, off, rfl⟩ := own_ptr ho (by omega)
        obtain ⟨q1, q2, q3, q4, cc, q5⟩ := own_elem ho i (by omega)
        have HO := Lib.hid ho; have HE := Lib.hid he; have HLN := Lib.hid hn; have HQ5 := Lib.hid q5
        clear ho he hn q1 q2 q4 q5 hj2
        go_wp2_with (refine wpList_clear_own rfl (.tmp 38) 55 rfl 105 i0 (.agg zCoin) 36 Tryz.underlying55 hi0 hz0 rfl rfl W0.heap.size g off cs.length cap i xs HO.out ?c1 rfl ?_)
        case c1 => omega
        intro w5 ho5 hk5 hg5
        have B5 := Lib.hid (HB.out.grown hg5 HB.out.size (fun q hq => by cases hq; exact q3))
        have HFIN : Hid (setO W0.heap.size w5 (.slice (some ⟨g, off, none⟩) i cap) (cs.filter fun c => !p c)) := by
          show setO _ _ _ _
          rw [← HF.out]
          refine ⟨xs.take (i * 36), ?_, rdEach_map (rdEach_take HE.out i (by rw [HLN.out]; omega)) (fun a es ha => coinO_but HQ5.out (fun k hk _ => hk5 k hk) ha)⟩
          rw [List.length_take, HLN.out, Nat.min_eq_left (by omega)]
          exact ho5
        clear ho5 hk5 hg5
        have q6 : i ≤ cap := by omega
        go_wp2
        go_ret
        exact delPost_mk _ rfl HFIN.out B5.out
def WithoutPost (cs gone : List CoinD) (w : World) (e : Ending) (w' : World) : Prop := ∃ v, e = .returned v ∧ setO w.heap.size w' v (lessC cs gone) ∧ Below w.heap.size w w'
theorem withoutPost_mk {cs gone : List CoinD} {w w' : World} {e : Ending} (v : Value) (he : e = .returned v) (h1 : setO w.heap.size w' v (lessC cs gone)) (h2 : Below w.heap.size w w') : WithoutPost cs gone w e w' := ⟨v, he, h1, h2⟩
set_option maxHeartbeats 1000000 in
set_option maxRecDepth 100000 in
theorem without_any (cs gone : List CoinD) (ca ga : Option Addr) (ccap gcap : Nat) (w : World) (hc : rdSl coinR 36 w (.slice ca cs.length ccap) cs) (hg : rdSl coinR 36 w (.slice ga gone.length gcap) gone) (hn : cs.length ≤ 1000) (hd : ∀ c ∈ cs, lockF c.lock = 0) :
    Calls Tryz.prog 60 #[.slice ca cs.length ccap, .slice ga gone.length gcap] w (WithoutPost cs gone w) := by
  have B0 := Lib.hid ((Below.refl w.heap.size w).alloc (Nat.le_refl _) (.cells #[.slice ga gone.length gcap] 55))
  have HC := Lib.hid (coinR_stays.slB hc B0.out (Nat.le_refl _))
  have HG := Lib.hid (coinR_stays.slB hg B0.out (Nat.le_refl _))
  have HD := Lib.hid hd
  have hcell : (w.alloc (.cells #[.slice ga gone.length gcap] 55)).cell? ⟨w.heap.size, 0, none⟩ = some (.slice ga gone.length gcap) := by rw [cell_of_row _ _ _ _ _ _ (heap_alloc_new w _)]; rfl
  have HCL := Lib.hid hcell
  have hs : w.heap.size ≤ (w.alloc (.cells #[.slice ga gone.length gcap] 55)).heap.size := by simp
  clear hc hg hd hcell
  go_enter Tryz.func60, Tryz.ntmps60
  go_wp2_with fail
  change Calls _ _ _ (w.alloc (.cells #[.slice ga gone.length gcap] 55)) _
  generalize w.alloc (.cells #[.slice ga gone.length gcap] 55) = w1 at B0 HC HG HCL hs ⊢
  refine (copy_any cs ca ccap w1 HC.out hn HD.out).mono ?_
  rintro e w2 ⟨v, xs, rfl, ho, he, hb⟩
  have ho' := ho
  obtain ⟨-, vo, vcap, rfl, -, -, -⟩ := ho'
  have HS : Hid (setO w1.heap.size w2 (.slice vo cs.length vcap) cs) := ⟨xs, ho, he⟩
  have B2 := Lib.hid hb
  clear ho he hb
  have HT : Hid (Tells w1 93 (.pointer (some ⟨w.heap.size, 0, none⟩)) (goneB gone)) := fun W c so n cap hW h32 =>
    del1_any gone ga gcap w.heap.size c so n cap h32 W ((hW.cell (p := ⟨w.heap.size, 0, none⟩) (World.block_lt_of_cell? w1 _ HCL.out)).trans HCL.out) (coinR_stays.slB HG.out hW (Nat.le_refl _))
  have HDC := Lib.hid (deleteC_any (goneB gone) 93 (.pointer (some ⟨w.heap.size, 0, none⟩)) w1 cs vo vcap w2 HS.out B2.out HT.out enters_del1)
  go_wp2_with fail
  refine Calls.mono HDC.out ?_
  rintro e w3 ⟨v, rfl, hs3, hb3⟩
  have HS3 := Lib.hid hs3
  have B3 := Lib.hid (B0.out.trans (hb3.mono hs))
  clear hs3 hb3
  go_wp2
  go_ret
  exact withoutPost_mk _ rfl (HS3.out.base hs) B3.out
end Go.Proofs.YtljcdkfafknnpaaGreatDoor
namespace Go.Proofs.YtljcdkfafknnpaaGreatDoor
set_option linter.unusedVariables false
set_option linter.unusedSimpArgs false
open Go.RowKit
attribute [local go_sem ↓] run_load_agg run_store_agg run_load_any run_build_coin

def ApplyPost (cs : List CoinD) (t : TxD) (h : Int) (w : World) (e : Ending) (w' : World) : Prop :=
  Below w.heap.size w w' ∧ ((applyE cs t h ≠ 0 ∧ e = .returned (.tuple #[.slice none 0 0, .slice none 0 0, .int .i64 0, errV (applyE cs t h)])) ∨
    (applyE cs t h = 0 ∧ ∃ v u, e = .returned (.tuple #[v, u, .int .i64 (applyL cs t h), errV 0]) ∧ rdSl coinR 36 w' v (applyS cs t h) ∧ rdSl coinR 36 w' u (spC cs t.ins)))
theorem applyPost_no {cs : List CoinD} {t : TxD} {h : Int} {w w' : World} {e : Ending} (f : Int) (hf : applyE cs t h = f) (hz : f ≠ 0) (hb : Below w.heap.size w w') (he : e = .returned (.tuple #[.slice none 0 0, .slice none 0 0, .int .i64 0, errV f])) : ApplyPost cs t h w e w' :=
  ⟨hb, .inl ⟨by rw [hf]; exact hz, by rw [hf]; exact he⟩⟩
theorem applyPost_yes {cs : List CoinD} {t : TxD} {h : Int} {w w' : World} {e : Ending} (v u : Value) (hf : applyE cs t h = 0) (hb : Below w.heap.size w w') (he : e = .returned (.tuple #[v, u, .int .i64 (applyL cs t h), errV 0])) (h1 : rdSl coinR 36 w' v (applyS cs t h)) (h2 : rdSl coinR 36 w' u (spC cs t.ins)) : ApplyPost cs t h w e w' :=
  ⟨hb, .inr ⟨hf, v, u, he, h1, h2⟩⟩
theorem results_tmp4 {fn : Func} {t u v x : Tmp} (h : fn.results = #[.tmp t, .tmp u, .tmp v, .tmp x]) (tmps : Array Value) (P : Program) (w : World) :
    (results fn tmps).run P w = .ok (.tuple #[tmps.getD t undef, tmps.getD u undef, tmps.getD v undef, tmps.getD x undef]) w := by
  simp [results, h]
theorem totS_le : ∀ (ns : List Int) (s : Int), totC s ns = 0 → 0 ≤ s → s ≤ 1125899906842624 → 0 ≤ totS s ns ∧ totS s ns ≤ 1125899906842624
  | [], s, _, h0, h1 => ⟨h0, h1⟩
  | n :: ns, s, h, h0, h1 => by
    unfold totC at h
    split at h
    · cases h
    · split at h
      · cases h
      · unfold totS
        exact totS_le ns (s + n) h (by omega) (by omega)
theorem totV_le (ns : List Int) : 0 ≤ totV ns ∧ totV ns ≤ 1125899906842624 := by
  unfold totV
  split
  · rename_i h; exact totS_le ns 0 h (by omega) (by omega)
  · exact ⟨by omega, by omega⟩
set_option maxHeartbeats 8000000 in
set_option maxRecDepth 100000 in
theorem apply_any (cs : List CoinD) (t : TxD) (h : Int) (ca ai ao : Option Addr) (cc ci co : Nat) (w : World) (hc : rdSl coinR 36 w (.slice ca cs.length cc) cs) (hi : rdSl inR 34 w (.slice ai t.ins.length ci) t.ins) (ho : rdSl outR 2 w (.slice ao t.outs.length co) t.outs) (hT : tabAt w) :
    Calls Tryz.prog 23 #[.slice ca cs.length cc, .agg #[.slice ai t.ins.length ci, .slice ao t.outs.length co, .int .i64 t.time], .int .i64 h] w (ApplyPost cs t h w) := by
  obtain ⟨n1, n2, n3⟩ := new_tx w ai ao t.ins.length t.outs.length ci co t.time
  unfold zTx at n1 n2
  obtain ⟨_, _, e, i1, i2⟩ := sl_bounds hi
  cases e
  obtain ⟨_, _, e, k1, k2⟩ := sl_bounds hc
  cases e
  unfold maxLen at i2 k2
  have hgT := rowAt_lt hT
  have HC := Lib.hid hc; have HI := Lib.hid hi; have HO := Lib.hid ho; have HT := Lib.hid hT
  have HX := Lib.hid (heap_alloc_new w (.cells #[.slice ai t.ins.length ci, .slice ao t.outs.length co, .int .i64 t.time] 59))
  have B0 := Lib.hid ((Below.refl w.heap.size w).alloc (Nat.le_refl _) (.cells #[.slice ai t.ins.length ci, .slice ao t.outs.length co, .int .i64 t.time] 59))
  obtain ⟨i0, hi0, hz0, hz1, hz2⟩ := info_parts' info_coin
  clear hc hi ho hT
  go_enter Tryz.func23, Tryz.ntmps23
  go_upto_region 1 with fail
  clear n1 n2 n3
  change Code.wp _ _ _ _ (w.alloc (.cells #[.slice ai t.ins.length ci, .slice ao t.outs.length co, .int .i64 t.time] 59))
  obtain ⟨G, hG⟩ : ∃ G, w.heap.size = G := ⟨_, rfl⟩
  have hGe : w.heap.size ≤ G := by omega
  rw [hG] at HX ⊢
  clear hG
  generalize w.alloc (.cells #[.slice ai t.ins.length ci, .slice ao t.outs.length co, .int .i64 t.time] 59) = w0 at HX B0 ⊢
  have r3 : rowAt w0 G 0 3 = some #[.slice ai t.ins.length ci, .slice ao t.outs.length co, .int .i64 t.time] := rowAt_whole HX.out 3 rfl
  go_wp2_with fail
  refine (checked_any cs t ca ai ao cc ci co w0 (coinR_stays.slB HC.out B0.out (Nat.le_refl _)) (inR_stays.slB HI.out B0.out (Nat.le_refl _)) (outR_stays.slB HO.out B0.out (Nat.le_refl _))).mono ?_
  rintro e w1 ⟨rfl, hb⟩
  have B1 := Lib.hid (B0.out.trans (hb.mono B0.out.size))
  have HX1 : Hid (w1.heap[G]? = some (.cells #[.slice ai t.ins.length ci, .slice ao t.outs.length co, .int .i64 t.time] 59 (0, 0))) := (hb.block G (Array.getElem?_eq_some_iff.1 HX.out).1).trans HX.out
  clear hb r3
  obtain ⟨f, hf⟩ : ∃ f, chkF cs t = f := ⟨_, rfl⟩
  have HFF := Lib.hid hf
  rw [hf]
  clear hf
  by_cases hz : f = 0
  · subst hz
    rw [errV_0]
    have hsf : setF cs = 0 := by
      have := HFF.out
      unfold chkF at this
      split at this
      · assumption
      · rename_i hn; exact absurd this hn
    have htf : txF t = 0 := by
      have := HFF.out
      unfold chkF at this
      rw [if_pos hsf] at this
      exact this
    have hcl := (setF_zero cs hsf).1
    have hil := (txOk_of htf).ins
    have hol := (txOk_of htf).outs
    have HSF := Lib.hid hsf; have HTF := Lib.hid htf
    have H32 := Lib.hid (all32_of HC.out)
    have HSO := Lib.hid (sorted_of cs H32.out hsf)
    clear hsf htf
    by_cases h1 : h < 0
    · have HE : Hid (applyE cs t h = 2) := by show applyE cs t h = 2; unfold applyE; rw [if_neg (by rw [HFF.out]; simp), if_pos (.inl h1)]
      go_wp2
      ((try simp only [Exit.inBlock, Exit.then]); refine bodyPost_ret (results_tmp4 rfl _ _ _) rfl ?_)
      exact applyPost_no 2 HE.out (by decide) B1.out rfl
    by_cases h2 : 1073741824 < h
    · have HE : Hid (applyE cs t h = 2) := by show applyE cs t h = 2; unfold applyE; rw [if_neg (by rw [HFF.out]; simp), if_pos (.inr h2)]
      go_wp2
      ((try simp only [Exit.inBlock, Exit.then]); refine bodyPost_ret (results_tmp4 rfl _ _ _) rfl ?_)
      exact applyPost_no 2 HE.out (by decide) B1.out rfl
    have HE1 : Hid (∀ f, (if foundB cs t.ins = false then 5
        else if totC 0 (amounts (spC cs t.ins)) ≠ 0 then totC 0 (amounts (spC cs t.ins))
        else if totC 0 (amounts (newsT t h)) ≠ 0 then totC 0 (amounts (newsT t h))
        else if 0 < t.ins.length ∧ totV (amounts (spC cs t.ins)) < totV (amounts (newsT t h)) then 9
        else withE cs (lessC cs (spC cs t.ins)) (newsT t h)) = f → applyE cs t h = f) := fun f hf => by unfold applyE; rw [if_neg (by rw [HFF.out]; simp), if_neg (by omega)]; exact hf
    have c0 : w1.cell? ⟨G, 0, none⟩ = some (.slice ai t.ins.length ci) := by rw [cell_of_row _ _ _ _ _ _ HX1.out]; rfl
    go_wp2_with fail
    clear c0
    go_loopw [7, 8, 34] (fun s l c wr => ∃ (j : Nat) (v : Value) (xs : List Value), j ≤ t.ins.length ∧ v = s ∧ l = .int .i64 0 ∧ c = .int .i64 j ∧ Hid (own wr w.heap.size 105 36 v j xs) ∧ Hid (rdEach (constR coinR w) 36 wr (spC cs (t.ins.take j)) xs) ∧ Hid (Below w.heap.size w wr) ∧
      Hid (wr.heap[G]? = some (.cells #[.slice ai t.ins.length ci, .slice ao t.outs.length co, .int .i64 t.time] 59 (0, 0))) ∧ Hid (∀ x ∈ t.ins.take j, atP cs x.place = true) ∧ Hid ((spC cs (t.ins.take j)).length = j)) (fun _ _ c _ => t.ins.length - (intOf c).toNat)
    case atStart => exact ⟨0, _, [], by omega, rfl, rfl, rfl, Lib.hid (own_nil _ _ _ _), Lib.hid (rdEach_nil _ _ _), B1, HX1, Lib.hid (fun x hx => by simp at hx), Lib.hid rfl⟩
    case round =>
      obtain ⟨j, v, xs, hj, rfl, rfl, rfl, HW, HE, HB, HX, HAT, HLN⟩ := hrel
      by_cases hlt : j < t.ins.length
      · obtain ⟨g, off, so, scap, rfl, -, h32, hkeys, hrow0⟩ := in_at HI.out j hlt
        have hrow : rowAt wr g (off + j * 34) 34 = some (inV t.ins[j] (.slice so t.ins[j].keys.length scap)) := (rowAt_below HB.out (rowAt_lt hrow0) _ _).trans hrow0
        have HTK : Hid (t.ins.take (j + 1) = t.ins.take j ++ [t.ins[j]]) := List.take_succ_eq_append_getElem hlt
        have HMEM := Lib.hid (List.getElem_mem hlt)
        obtain ⟨x, hx⟩ : ∃ x, t.ins[j] = x := ⟨_, rfl⟩
        rw [hx] at h32 hrow HTK HMEM
        obtain ⟨n1, n2, n3, n4⟩ := new_in wr x so x.keys.length scap h32
        unfold zIn at n1 n2
        have hgl := rowAt_lt hrow
        have BX := Lib.hid (HB.out.alloc HB.out.size (.cells (inV x (.slice so x.keys.length scap)) 100))
        have HWX := Lib.hid (own_alloc HW.out (.cells (inV x (.slice so x.keys.length scap)) 100))
        have HXX : Hid ((wr.alloc (.cells (inV x (.slice so x.keys.length scap)) 100)).heap[G]? = some (.cells #[.slice (some ⟨g, off, none⟩) t.ins.length ci, .slice ao t.outs.length co, .int .i64 t.time] 59 (0, 0))) := (Below.heap_alloc wr _ G (Array.getElem?_eq_some_iff.1 HX.out).1).trans HX.out
        have hpx := (InAt.of (heap_alloc_new wr (.cells (inV x (.slice so x.keys.length scap)) 100)) h32).p
        clear hx hkeys hrow0
        go_upto_region 9 with fail
        clear n1 n2 n3 n4 hrow
        change Code.wp _ _ _ _ (wr.alloc (.cells (inV x (.slice so x.keys.length scap)) 100))
        obtain ⟨G2, hG2⟩ : ∃ G2, wr.heap.size = G2 := ⟨_, rfl⟩
        rw [hG2] at hpx ⊢
        clear hG2
        generalize wr.alloc (.cells (inV x (.slice so x.keys.length scap)) 100) = w2 at BX HWX HXX hpx ⊢
        have hp32 : x.place.tx.length = 32 := h32
        go_wp2_with fail
        refine (cfind_any cs ca cc x.place hp32 w2 (coinR_stays.slB HC.out BX.out (Nat.le_refl _)) (by omega) H32.out HSO.out).mono ?_
        rintro e w3 ⟨i1, b1, rfl, hf1, -, hb3⟩
        have HF1 := Lib.hid hf1
        have HFA := Lib.hid (found_atP hf1)
        have B3 := Lib.hid (BX.out.trans (hb3.mono BX.out.size))
        have HW3 := Lib.hid (own_below hb3 HWX.out (Nat.le_refl _))
        have HX3 : Hid (w3.heap[G]? = some (.cells #[.slice (some ⟨g, off, none⟩) t.ins.length ci, .slice ao t.outs.length co, .int .i64 t.time] 59 (0, 0))) := (hb3.block G (Array.getElem?_eq_some_iff.1 HXX.out).1).trans HXX.out
        clear hf1 hb3 hpx
        cases b1
        case false =>
          have HE5 : Hid (applyE cs t h = 5) := HE1.out 5 (by rw [if_pos (foundB_false HMEM.out HFA.out)])
          go_wp2
          ((try simp only [Exit.inBlock, Exit.then]); refine bodyPost_ret (results_tmp4 rfl _ _ _) rfl ?_)
          exact applyPost_no 5 HE5.out (by decide) B3.out rfl
        case true =>
          obtain ⟨hi1, hpe⟩ := HF1.out.1 rfl
          have hgc := getC_of ((sorted_iff cs).1 HSO.out) (List.getElem_mem hi1) (plE_eq hpe)
          have HSN : Hid (spC cs (t.ins.take (j + 1)) = spC cs (t.ins.take j) ++ [cs[i1]]) := by
            show spC cs (t.ins.take (j + 1)) = _
            rw [HTK.out, spC_snoc hgc]
          obtain ⟨cg, coff, cso, cscap, rfl, -, c32, d1, d2, hlock, hcrow0⟩ := coin_at HC.out i1 hi1
          have hcrow : rowAt w3 cg (coff + i1 * 36) 36 = some (coinV cs[i1] (.slice cso cs[i1].lock.length cscap)) := (rowAt_below B3.out (rowAt_lt hcrow0) _ _).trans hcrow0
          have hHCR : coinR w cs[i1] (coinV cs[i1] (.slice cso cs[i1].lock.length cscap)).toList := by
            rw [coinV_list]; exact ⟨_, rfl, c32, hlock⟩
          obtain ⟨C, hC⟩ : ∃ C, cs[i1] = C := ⟨_, rfl⟩
          rw [hC] at hcrow hHCR c32 HSN
          have hvs : (coinV C (.slice cso C.lock.length cscap)).size = 36 := coinV_size C _ c32
          have HP4 : Hid (∀ u ∈ (coinV C (.slice cso C.lock.length cscap)).toList, u.oneCell' = true) := fun u hu => List.all_eq_true.1 (coinV_plain C cso C.lock.length cscap) u hu
          obtain ⟨V, hV⟩ : ∃ V, coinV C (.slice cso C.lock.length cscap) = V := ⟨_, rfl⟩
          rw [hV] at hcrow hHCR hvs HP4
          have HCR := Lib.hid hHCR
          have HVL : Hid (V.toList.length = 1 * 36) := by show _ = _; rw [Array.length_toList, hvs]
          have B4 := Lib.hid (B3.out.alloc B3.out.size (.cells V 105))
          have HW4 := Lib.hid (own_alloc HW3.out (.cells V 105))
          have HX4 : Hid ((w3.alloc (.cells V 105)).heap[G]? = some (.cells #[.slice (some ⟨g, off, none⟩) t.ins.length ci, .slice ao t.outs.length co, .int .i64 t.time] 59 (0, 0))) := (Below.heap_alloc w3 _ G (Array.getElem?_eq_some_iff.1 HX3.out).1).trans HX3.out
          have HN4 := Lib.hid (rd_new_row w3 V 105 _ rfl)
          have hbs := B4.out.size
          have hcgl := rowAt_lt hcrow
          clear hV hC hlock hcrow0 hHCR hgc hpe d1 d2 c32
          go_wp2_with (at_builtin; refine wpList_append_row rfl (.tmp 48) (.tmp 53) 55 rfl 105 i0 (.agg zCoin) 36 80 Tryz.underlying55 hi0 hz0 hz1 hz2 rfl (by decide) w.heap.size j xs HW4.out 1 _ HVL.out HN4.out HP4.out ?c2 ?c3 ?c4 ?_)
          case c2 => unfold maxLen; omega
          case c3 => omega
          case c4 => exact hbs
          intro v1 w5 ho5 hg5 hr5
          have hg5' : (w3.alloc (.cells V 105)).grownBy w5 (wrow v) := hg5
          have B5 := Lib.hid (B4.out.grown hg5' hbs (fun q hq => (own_lt HW4.out hq).1))
          have HX5 : Hid (w5.heap[G]? = some (.cells #[.slice (some ⟨g, off, none⟩) t.ins.length ci, .slice ao t.outs.length co, .int .i64 t.time] 59 (0, 0))) := (hg5'.block G (Array.getElem?_eq_some_iff.1 HX4.out).1 (fun e => own_ne HW4.out HX4.out (by decide) e.symm)).trans HX4.out
          have HO5 : Hid (own w5 w.heap.size 105 36 v1 (j + 1) (xs ++ V.toList)) := ho5
          have HE5 : Hid (rdEach (constR coinR w) 36 w5 (spC cs (t.ins.take (j + 1))) (xs ++ V.toList)) := by
            show rdEach _ _ _ _ _
            rw [HSN.out]
            exact rdEach_snoc (constR_any HE.out) (by rw [HVL.out]) HCR.out
          have HAT5 : Hid (∀ y ∈ t.ins.take (j + 1), atP cs y.place = true) := by
            show ∀ y ∈ t.ins.take (j + 1), atP cs y.place = true
            rw [HTK.out]
            intro y hy
            rcases List.mem_append.1 hy with h' | h'
            · exact HAT.out y h'
            · rw [List.mem_singleton.1 h']; exact HFA.out
          have HLN5 : Hid ((spC cs (t.ins.take (j + 1))).length = j + 1) := by show (spC cs (t.ins.take (j + 1))).length = j + 1; rw [HSN.out, List.length_append, HLN.out]; rfl
          clear ho5 hg5 hr5 hg5'
          go_wp2
          go_roundw
          case rel => exact ⟨j + 1, v1, _, by omega, rfl, rfl, by go_num, HO5, HE5, B5, HX5, HAT5, HLN5⟩
          case measure => simp [intOf]; omega
      · have hj2 : j = t.ins.length := by omega
        have htk : t.ins.take j = t.ins := List.take_of_length_le (by omega)
        rw [htk] at HE HAT HLN
        have HFB := Lib.hid (foundB_true HAT.out)
        obtain ⟨S, hS⟩ : ∃ S, spC cs t.ins = S := ⟨_, rfl⟩
        have HSS := Lib.hid hS
        rw [hS] at HE HLN
        have HSL := Lib.hid HLN.out
        have HSK : Hid (∀ c ∈ S, lockF c.lock = 0) := fun c hc => by
          rw [← hS] at hc
          exact locks_of HSF.out c (spC_mem hc).1
        have HLK := Lib.hid (locks_of HSF.out)
        have hw' := HW.out
        obtain ⟨-, vo, vcap, rfl, v1, v2, -⟩ := hw'
        unfold maxLen at v2
        have hsr : rdSl coinR 36 wr (.slice vo S.length vcap) S := by
          rw [HSL.out]
          exact ⟨xs, by rw [HSL.out]; exact own_rd HW.out, constR_on coinR_stays HB.out HE.out⟩
        have HSR := Lib.hid hsr
        clear htk hS hj2 hsr
        have r3 : rowAt wr G 0 3 = some #[.slice ai t.ins.length ci, .slice ao t.outs.length co, .int .i64 t.time] := rowAt_whole HX.out 3 rfl
        go_wp2_with fail
        refine (made_any t ai ao ci co h wr (inR_stays.slB HI.out HB.out (Nat.le_refl _)) (outR_stays.slB HO.out HB.out (Nat.le_refl _)) ((rowAt_below HB.out hgT 0 64).trans HT.out) HTF.out).mono ?_
        rintro e w2 ⟨nv, rfl, hns2, hb2⟩
        have hnl : (newsC (idD t) h 0 t.outs).length = t.outs.length := newsC_length _ _ _ _
        obtain ⟨na, ncap, rfl, m1, m2⟩ := sl_bounds hns2.rd
        unfold maxLen at m2
        have HNL : Hid ((newsT t h).length = t.outs.length) := hnl
        rw [hnl] at m1 ⊢
        have HN2 : Hid (setO wr.heap.size w2 (.slice na (newsT t h).length ncap) (newsT t h)) := hns2
        have B2 := Lib.hid (HB.out.trans (hb2.mono HB.out.size))
        have HX2 : Hid (w2.heap[G]? = some (.cells #[.slice ai t.ins.length ci, .slice ao t.outs.length co, .int .i64 t.time] 59 (0, 0))) := (hb2.block G (Array.getElem?_eq_some_iff.1 HX.out).1).trans HX.out
        have hb22 : Hid (Below wr.heap.size wr w2) := hb2
        have htot := coinTotal_any S vo vcap w2 (coinR_stays.slB HSR.out hb2 (Nat.le_refl _)) (by rw [HSL.out]; omega)
        rw [HSL.out] at htot
        have HTOT := Lib.hid htot
        clear hns2 hb2 hnl htot r3
        obtain ⟨hv, hhv⟩ : ∃ x, totV (amounts S) = x := ⟨_, rfl⟩
        obtain ⟨hf, hhf⟩ : ∃ x, totC 0 (amounts S) = x := ⟨_, rfl⟩
        have hv0 := totV_le (amounts S)
        rw [hhv, hhf] at HTOT
        rw [hhv] at hv0
        have HHV := Lib.hid hhv; have HHF := Lib.hid hhf
        clear hhv hhf
        obtain ⟨hv1, hv2⟩ := hv0
        go_wp2_with fail
        refine Calls.mono HTOT.out ?_
        rintro e w3 ⟨rfl, hb3⟩
        have B3 := Lib.hid (B2.out.trans (hb3.mono B2.out.size))
        have HX3 : Hid (w3.heap[G]? = some (.cells #[.slice ai t.ins.length ci, .slice ao t.outs.length co, .int .i64 t.time] 59 (0, 0))) := (hb3.block G (Array.getElem?_eq_some_iff.1 HX2.out).1).trans HX2.out
        have hb23 : Hid (Below wr.heap.size wr w3) := hb22.out.trans (hb3.mono hb22.out.size)
        have HN3 := Lib.hid (HN2.out.below hb3)
        clear hb3 HTOT
        have HE2 : Hid (∀ f, (if totC 0 (amounts S) ≠ 0 then totC 0 (amounts S)
            else if totC 0 (amounts (newsT t h)) ≠ 0 then totC 0 (amounts (newsT t h))
            else if 0 < t.ins.length ∧ totV (amounts S) < totV (amounts (newsT t h)) then 9
            else withE cs (lessC cs S) (newsT t h)) = f → applyE cs t h = f) := fun f hf => HE1.out f (by rw [if_neg (by rw [HFB.out]; decide), HSS.out]; exact hf)
        by_cases hfz : hf = 0
        · subst hfz
          rw [errV_0]
          have htot := coinTotal_any (newsT t h) na ncap w3 HN3.out.rd (by rw [HNL.out]; omega)
          rw [HNL.out] at htot
          have HTOT := Lib.hid htot
          clear htot
          obtain ⟨pv, hpv⟩ : ∃ x, totV (amounts (newsT t h)) = x := ⟨_, rfl⟩
          obtain ⟨pf, hpf⟩ : ∃ x, totC 0 (amounts (newsT t h)) = x := ⟨_, rfl⟩
          have pv0 := totV_le (amounts (newsT t h))
          rw [hpv, hpf] at HTOT
          rw [hpv] at pv0
          have HPV := Lib.hid hpv; have HPF := Lib.hid hpf
          clear hpv hpf
          obtain ⟨pv1, pv2⟩ := pv0
          go_wp2_with fail
          refine Calls.mono HTOT.out ?_
          rintro e w4 ⟨rfl, hb4⟩
          have B4 := Lib.hid (B3.out.trans (hb4.mono B3.out.size))
          have HX4 : Hid (w4.heap[G]? = some (.cells #[.slice ai t.ins.length ci, .slice ao t.outs.length co, .int .i64 t.time] 59 (0, 0))) := (hb4.block G (Array.getElem?_eq_some_iff.1 HX3.out).1).trans HX3.out
          have hb24 : Hid (Below wr.heap.size wr w4) := hb23.out.trans (hb4.mono hb23.out.size)
          have HN4 := Lib.hid (HN3.out.below hb4)
          clear hb4 HTOT
          have HE3 : Hid (∀ f, (if totC 0 (amounts (newsT t h)) ≠ 0 then totC 0 (amounts (newsT t h))
            else if 0 < t.ins.length ∧ totV (amounts S) < totV (amounts (newsT t h)) then 9
            else withE cs (lessC cs S) (newsT t h)) = f → applyE cs t h = f) := fun f hf => HE2.out f (by rw [if_neg (by rw [HHF.out]; simp)]; exact hf)
          by_cases hpz : pf = 0
          · subst hpz
            rw [errV_0]
            have HE4 : Hid (∀ f, (if 0 < t.ins.length ∧ totV (amounts S) < totV (amounts (newsT t h)) then 9
              else withE cs (lessC cs S) (newsT t h)) = f → applyE cs t h = f) := fun f hf => HE3.out f (by rw [if_neg (by rw [HPF.out]; simp)]; exact hf)
            have c0 : w4.cell? ⟨G, 0, none⟩ = some (.slice ai t.ins.length ci) := by rw [cell_of_row _ _ _ _ _ _ HX4.out]; rfl
            by_cases hn0 : 0 < t.ins.length
            · by_cases h9 : hv < pv
              · have HEE : Hid (applyE cs t h = 9) := HE4.out 9 (by rw [if_pos ⟨hn0, by rw [HHV.out, HPV.out]; exact h9⟩])
                go_wp2
                ((try simp only [Exit.inBlock, Exit.then]); refine bodyPost_ret (results_tmp4 rfl _ _ _) rfl ?_)
                exact applyPost_no 9 HEE.out (by decide) B4.out rfl
              · have HLF : Hid (applyL cs t h = hv - pv) := by show applyL cs t h = _; unfold applyL; rw [if_pos hn0, HSS.out, HHV.out, HPV.out]
                have HEF : Hid (∀ f, withE cs (lessC cs S) (newsT t h) = f → applyE cs t h = f) := fun f hf => HE4.out f (by rw [if_neg (by rw [HHV.out, HPV.out]; omega)]; exact hf)
                have HLS := Lib.hid (without_any cs S ca vo cc vcap w4 (coinR_stays.slB HC.out B4.out (Nat.le_refl _)) (coinR_stays.slB HSR.out (hb24.out) (Nat.le_refl _)) hcl HLK.out)
                rw [HSL.out] at HLS
                go_wp2_with fail
                refine Calls.mono HLS.out ?_
                rintro e w5 ⟨lv, rfl, hls5, hb5⟩
                obtain ⟨la, lcap, rfl, -, -⟩ := sl_bounds hls5.rd
                have hlr : ∀ k, wrow (.slice la (lessC cs S).length lcap) = some k → w4.heap.size ≤ k := fun k hk => by
                  obtain ⟨ys, hy⟩ := setO_own hls5
                  exact (own_lt hy hk).1
                have HLR := Lib.hid hlr
                have hs45 := hb5.size
                have HN5 := Lib.hid ((HN4.out.below hb5).base (show w.heap.size ≤ wr.heap.size from HB.out.size))
                have HL5 := Lib.hid (hls5.base (show w.heap.size ≤ w4.heap.size from B4.out.size))
                have B5 := Lib.hid (B4.out.trans (hb5.mono B4.out.size))
                have HW5 := Lib.hid (own_below (hb24.out.trans (hb5.mono hb24.out.size)) HW.out (Nat.le_refl _))
                have hbs5 := B5.out.size
                have HWT := Lib.hid (with_any cs (lessC cs S) (newsT t h) ca la na cc lcap ncap w.heap.size w w5 HC.out B5.out (Nat.le_refl _) hbs5 hcl HSO.out HL5.out HN5.out
                  (fun k hk he => by
                    obtain ⟨ys, hy⟩ := setO_own HN4.out
                    have q1 := (own_lt hy hk).2.1
                    have q2 := HLR.out k he
                    omega)
                  (newsOk_of H32.out HSO.out S t h) (Nat.le_trans (lessC_length cs S) hcl) (by rw [HNL.out]; exact hol))
                rw [HNL.out] at HWT
                clear hlr hls5 hb5
                go_wp2_with fail
                refine Calls.mono HWT.out ?_
                rintro e w6 ⟨sv, rfl, hy0, hyn, hg6⟩
                have B6 := Lib.hid (B5.out.grown hg6 hbs5 (fun q hq => by have := HLR.out q hq; have := B4.out.size; omega))
                have HW6 := Lib.hid (own_kept (w' := w6) HW5.out fun k hk _ hlt => hg6.block k hlt (fun e => by
                  have q1 := HLR.out k e.symm
                  have q2 := (own_lt HW.out hk).2.1
                  have q3 := hb24.out.size
                  omega))
                obtain ⟨fe, hfe⟩ : ∃ fe, withE cs (lessC cs S) (newsT t h) = fe := ⟨_, rfl⟩
                rw [hfe] at hy0 hyn ⊢
                have HFE := Lib.hid hfe
                clear hfe hg6
                by_cases hzz : fe = 0
                · have HS6 := Lib.hid (hy0 hzz)
                  have HEE : Hid (applyE cs t h = 0) := HEF.out 0 (HFE.out.trans hzz)
                  subst hzz
                  rw [errV_0]
                  have hrd6 : rdSl coinR 36 w6 (.slice vo S.length vcap) S := by
                    rw [HSL.out]
                    refine ⟨xs, by rw [HSL.out]; exact own_rd HW6.out, ?_⟩
                    exact constR_on coinR_stays B6.out HE.out
                  have hcp := copy_any S vo vcap w6 hrd6 (by rw [HSL.out]; omega) HSK.out
                  rw [HSL.out] at hcp
                  have HCP := Lib.hid hcp
                  clear hy0 hyn hrd6 hcp
                  go_wp2_with fail
                  refine Calls.mono HCP.out ?_
                  rintro e w7 ⟨cv, ys, rfl, ho7, he7, hb7⟩
                  have HC7 : Hid (rdSl coinR 36 w7 cv S) := ⟨ys, own_rd ho7, rdEach_map he7 (fun a es ha => coinO_rd ha)⟩
                  have HS7 := Lib.hid ((HS6.out.below hb7).rd)
                  have B7 := Lib.hid (B6.out.trans (hb7.mono B6.out.size))
                  clear ho7 he7 hb7
                  go_wp2
                  ((try simp only [Exit.inBlock, Exit.then]); refine bodyPost_ret (results_tmp4 rfl _ _ _) rfl ?_)
                  exact applyPost_yes _ _ HEE.out B7.out (by rw [HLF.out]; rfl) (by unfold applyS; rw [HSS.out]; exact HS7.out) (by rw [HSS.out]; exact HC7.out)
                · have hnil := hyn hzz
                  subst hnil
                  have HEE : Hid (applyE cs t h = fe) := HEF.out fe HFE.out
                  have HNZ := Lib.hid hzz
                  rw [errV_ne hzz]
                  clear hzz hy0 hyn
                  go_wp2
                  ((try simp only [Exit.inBlock, Exit.then]); refine bodyPost_ret (results_tmp4 rfl _ _ _) rfl ?_)
                  exact applyPost_no fe HEE.out HNZ.out B6.out (by rw [errV_ne HNZ.out]; rfl)
            · have HLF : Hid (applyL cs t h = 0) := by show applyL cs t h = _; unfold applyL; rw [if_neg hn0]
              have HEF : Hid (∀ f, withE cs (lessC cs S) (newsT t h) = f → applyE cs t h = f) := fun f hf => HE4.out f (by rw [if_neg (by omega)]; exact hf)
              have HLS := Lib.hid (without_any cs S ca vo cc vcap w4 (coinR_stays.slB HC.out B4.out (Nat.le_refl _)) (coinR_stays.slB HSR.out (hb24.out) (Nat.le_refl _)) hcl HLK.out)
              rw [HSL.out] at HLS
              go_wp2_with fail
              refine Calls.mono HLS.out ?_
              rintro e w5 ⟨lv, rfl, hls5, hb5⟩
              obtain ⟨la, lcap, rfl, -, -⟩ := sl_bounds hls5.rd
              have hlr : ∀ k, wrow (.slice la (lessC cs S).length lcap) = some k → w4.heap.size ≤ k := fun k hk => by
                obtain ⟨ys, hy⟩ := setO_own hls5
                exact (own_lt hy hk).1
              have HLR := Lib.hid hlr
              have hs45 := hb5.size
              have HN5 := Lib.hid ((HN4.out.below hb5).base (show w.heap.size ≤ wr.heap.size from HB.out.size))
              have HL5 := Lib.hid (hls5.base (show w.heap.size ≤ w4.heap.size from B4.out.size))
              have B5 := Lib.hid (B4.out.trans (hb5.mono B4.out.size))
              have HW5 := Lib.hid (own_below (hb24.out.trans (hb5.mono hb24.out.size)) HW.out (Nat.le_refl _))
              have hbs5 := B5.out.size
              have HWT := Lib.hid (with_any cs (lessC cs S) (newsT t h) ca la na cc lcap ncap w.heap.size w w5 HC.out B5.out (Nat.le_refl _) hbs5 hcl HSO.out HL5.out HN5.out
                (fun k hk he => by
                  obtain ⟨ys, hy⟩ := setO_own HN4.out
                  have q1 := (own_lt hy hk).2.1
                  have q2 := HLR.out k he
                  omega)
                (newsOk_of H32.out HSO.out S t h) (Nat.le_trans (lessC_length cs S) hcl) (by rw [HNL.out]; exact hol))
              rw [HNL.out] at HWT
              clear hlr hls5 hb5
              go_wp2_with fail
              refine Calls.mono HWT.out ?_
              rintro e w6 ⟨sv, rfl, hy0, hyn, hg6⟩
              have B6 := Lib.hid (B5.out.grown hg6 hbs5 (fun q hq => by have := HLR.out q hq; have := B4.out.size; omega))
              have HW6 := Lib.hid (own_kept (w' := w6) HW5.out fun k hk _ hlt => hg6.block k hlt (fun e => by
                have q1 := HLR.out k e.symm
                have q2 := (own_lt HW.out hk).2.1
                have q3 := hb24.out.size
                omega))
              obtain ⟨fe, hfe⟩ : ∃ fe, withE cs (lessC cs S) (newsT t h) = fe := ⟨_, rfl⟩
              rw [hfe] at hy0 hyn ⊢
              have HFE := Lib.hid hfe
              clear hfe hg6
              by_cases hzz : fe = 0
              · have HS6 := Lib.hid (hy0 hzz)
                have HEE : Hid (applyE cs t h = 0) := HEF.out 0 (HFE.out.trans hzz)
                subst hzz
                rw [errV_0]
                have hrd6 : rdSl coinR 36 w6 (.slice vo S.length vcap) S := by
                  rw [HSL.out]
                  refine ⟨xs, by rw [HSL.out]; exact own_rd HW6.out, ?_⟩
                  exact constR_on coinR_stays B6.out HE.out
                have hcp := copy_any S vo vcap w6 hrd6 (by rw [HSL.out]; omega) HSK.out
                rw [HSL.out] at hcp
                have HCP := Lib.hid hcp
                clear hy0 hyn hrd6 hcp
                go_wp2_with fail
                refine Calls.mono HCP.out ?_
                rintro e w7 ⟨cv, ys, rfl, ho7, he7, hb7⟩
                have HC7 : Hid (rdSl coinR 36 w7 cv S) := ⟨ys, own_rd ho7, rdEach_map he7 (fun a es ha => coinO_rd ha)⟩
                have HS7 := Lib.hid ((HS6.out.below hb7).rd)
                have B7 := Lib.hid (B6.out.trans (hb7.mono B6.out.size))
                clear ho7 he7 hb7
                go_wp2
                ((try simp only [Exit.inBlock, Exit.then]); refine bodyPost_ret (results_tmp4 rfl _ _ _) rfl ?_)
                exact applyPost_yes _ _ HEE.out B7.out (by rw [HLF.out]; rfl) (by unfold applyS; rw [HSS.out]; exact HS7.out) (by rw [HSS.out]; exact HC7.out)
              · have hnil := hyn hzz
                subst hnil
                have HEE : Hid (applyE cs t h = fe) := HEF.out fe HFE.out
                have HNZ := Lib.hid hzz
                rw [errV_ne hzz]
                clear hzz hy0 hyn
                go_wp2
                ((try simp only [Exit.inBlock, Exit.then]); refine bodyPost_ret (results_tmp4 rfl _ _ _) rfl ?_)
                exact applyPost_no fe HEE.out HNZ.out B6.out (by rw [errV_ne HNZ.out]; rfl)
          · have HEE : Hid (applyE cs t h = pf) := HE3.out pf (by rw [if_pos (by rw [HPF.out]; exact hpz), HPF.out])
            have HNZ := Lib.hid hpz
            rw [errV_ne hpz]
            clear hpz
            go_wp2
            ((try simp only [Exit.inBlock, Exit.then]); refine bodyPost_ret (results_tmp4 rfl _ _ _) rfl ?_)
            exact applyPost_no pf HEE.out HNZ.out B4.out (by rw [errV_ne HNZ.out]; rfl)
        · have HEE : Hid (applyE cs t h = hf) := HE2.out hf (by rw [if_pos (by rw [HHF.out]; exact hfz), HHF.out])
          have HNZ := Lib.hid hfz
          rw [errV_ne hfz]
          clear hfz
          go_wp2
          ((try simp only [Exit.inBlock, Exit.then]); refine bodyPost_ret (results_tmp4 rfl _ _ _) rfl ?_)
          exact applyPost_no hf HEE.out HNZ.out B3.out (by rw [errV_ne HNZ.out]; rfl)
  · have HE : Hid (applyE cs t h = f) := by show applyE cs t h = f; unfold applyE; rw [HFF.out, if_pos hz]
    have HNZ := Lib.hid hz
    rw [errV_ne hz]
    clear hz
    go_wp2
    ((try simp only [Exit.inBlock, Exit.then]); refine bodyPost_ret (results_tmp4 rfl _ _ _) rfl ?_)
    exact applyPost_no f HE.out HNZ.out B1.out (by rw [errV_ne HNZ.out]; rfl)
end Go.Proofs.YtljcdkfafknnpaaGreatDoor
namespace Go.Proofs.YtljcdkfafknnpaaGreatDoor
set_option linter.unusedVariables false
set_option linter.unusedSimpArgs false
open Go.RowKit
attribute [local go_sem ↓] run_load_agg run_store_agg run_load_any run_build_coin

def tOne : TxD := ⟨[], [⟨5, []⟩], 0⟩
theorem tOne_txF : txF tOne = 0 := by decide
def cOne : CoinD := ⟨idD tOne, 0, 5, [], 7⟩
theorem tOne_news : newsT tOne 7 = [cOne] := rfl
theorem tOne_apply : applyE [] tOne 7 = 0 ∧ applyS [] tOne 7 = [cOne] ∧ spC [] tOne.ins = [] ∧ applyL [] tOne 7 = 0 := by
  refine ⟨?_, ?_, rfl, rfl⟩
  · unfold applyE
    rw [tOne_news]
    have h1 : chkF [] tOne = 0 := by unfold chkF; rw [if_pos (by rfl), tOne_txF]
    rw [if_neg (by rw [h1]; decide), if_neg (by decide), if_neg (by decide), if_neg (by decide), if_neg (by decide), if_neg (by decide)]
    unfold withE
    rw [if_neg (by decide), if_neg (by decide)]
  · unfold applyS
    rw [tOne_news]
    rfl
set_option maxHeartbeats 2000000 in
set_option maxRecDepth 100000 in
theorem made_law (w : World) (hT : tabAt w) : Calls Tryz.prog 25 #[] w fun e w' => e = .returned (.bool true) ∧ Below w.heap.size w w' := by
  have hgT := rowAt_lt hT
  have HT := Lib.hid hT
  clear hT
  go_enter Tryz.func25, Tryz.ntmps25
  have B0 := Lib.hid ((Below.refl w.heap.size w).alloc (Nat.le_refl _) (.cells #[.int .i64 5, .slice none 0 0] 103))
  have HO : Hid (rdSl outR 2 (w.alloc (.cells #[.int .i64 5, .slice none 0 0] 103)) (.slice (some ⟨w.heap.size, 0, none⟩) 1 1) tOne.outs) := by
    refine ⟨[.int .i64 5, .slice none 0 0], rd_new_row w #[.int .i64 5, .slice none 0 0] 103 _ rfl, ?_⟩
    have := rdEach_cons_mk (R := outR) (sz := 2) (w := w.alloc (.cells #[.int .i64 5, .slice none 0 0] 103)) (a := ⟨5, []⟩) (cs := [.int .i64 5, .slice none 0 0]) ⟨_, rfl, rdSl_nil _ _ _⟩ rfl (rdEach_nil outR 2 _)
    exact this
  obtain ⟨a1, a2, a3, a4⟩ := tOne_apply
  have HA1 := Lib.hid a1; have HA2 := Lib.hid a2; have HA3 := Lib.hid a3; have HA4 := Lib.hid a4
  clear a1 a2 a3 a4
  go_wp2_with fail
  change Calls _ _ _ (w.alloc (.cells #[.int .i64 5, .slice none 0 0] 103)) _
  obtain ⟨G, hG⟩ : ∃ G, w.heap.size = G := ⟨_, rfl⟩
  rw [hG] at HO ⊢
  clear hG
  generalize w.alloc (.cells #[.int .i64 5, .slice none 0 0] 103) = w0 at B0 HO ⊢
  refine (apply_any [] tOne 7 none none (some ⟨G, 0, none⟩) 0 0 1 w0 (rdSl_nil _ _ _) (rdSl_nil _ _ _) HO.out ((rowAt_below B0.out hgT 0 64).trans HT.out)).mono ?_
  rintro e w1 ⟨hb, hap⟩
  have B1 := Lib.hid (B0.out.trans (hb.mono B0.out.size))
  obtain ⟨v, u, hev, hr1, hr2⟩ : ∃ v u, e = .returned (.tuple #[v, u, .int .i64 0, .nilIface]) ∧ rdSl coinR 36 w1 v [cOne] ∧ rdSl coinR 36 w1 u [] := by
    rcases hap with ⟨h1, -⟩ | ⟨-, v, u, h1, h2, h3⟩
    · exact absurd HA1.out h1
    · rw [HA2.out] at h2
      rw [HA3.out] at h3
      rw [HA4.out] at h1
      exact ⟨v, u, h1, h2, h3⟩
  subst hev
  obtain ⟨va, vcap, rfl, s1, s2⟩ := sl_bounds hr1
  obtain ⟨ua, ucap, rfl, u1, u2⟩ := sl_bounds hr2
  obtain ⟨g, off, so, scap, rfl, -, h32, -, -, -, hrow⟩ := coin_at hr1 0 (by simp)
  have c33 : w1.cell? ⟨g, off + 33, none⟩ = some (.int .i64 5) := by
    have := cell_of_rowAt hrow 33 (by omega)
    rw [Nat.zero_mul, Nat.add_zero, (coinV_tail _ _ h32).2.1] at this
    exact this
  have c35 : w1.cell? ⟨g, off + 35, none⟩ = some (.int .i64 7) := by
    have := cell_of_rowAt hrow 35 (by omega)
    rw [Nat.zero_mul, Nat.add_zero, (coinV_tail _ _ h32).2.2.2] at this
    exact this
  clear hap hb hr1 hr2 hrow h32 HO HA1 HA2 HA3 HA4
  simp only [List.length_cons, List.length_nil, Nat.zero_add] at s1 u1 ⊢
  go_wp2
  go_ret
  exact ⟨rfl, B1.out⟩
end Go.Proofs.YtljcdkfafknnpaaGreatDoor
namespace Go.Proofs.YtljcdkfafknnpaaGreatDoor
set_option linter.unusedVariables false
set_option linter.unusedSimpArgs false
structure ApplyOk (cs : List CoinD) (t : TxD) (h : Int) : Prop where
  set : setF cs = 0
  tx : txF t = 0
  h0 : 0 ≤ h
  h1 : h ≤ 1073741824
  found : foundB cs t.ins = true
  had : totC 0 (amounts (spC cs t.ins)) = 0
  pays : totC 0 (amounts (newsT t h)) = 0
  left : 0 < t.ins.length → totV (amounts (newsT t h)) ≤ totV (amounts (spC cs t.ins))
  once : twiceB cs (newsT t h) = false
  fits : (lessC cs (spC cs t.ins)).length + (newsT t h).length ≤ 1000
theorem applyOk_of {cs : List CoinD} {t : TxD} {h : Int} (he : applyE cs t h = 0) : ApplyOk cs t h := by
  unfold applyE at he
  by_cases h1 : chkF cs t = 0
  · rw [if_neg (by rw [h1]; simp)] at he
    have hs : setF cs = 0 := by
      unfold chkF at h1
      split at h1
      · assumption
      · rename_i hn; exact absurd h1 hn
    have ht : txF t = 0 := by
      unfold chkF at h1
      rw [if_pos hs] at h1; exact h1
    by_cases h2 : h < 0 ∨ 1073741824 < h
    · rw [if_pos h2] at he; cases he
    · rw [if_neg h2] at he
      cases h3 : foundB cs t.ins with
      | false => rw [if_pos h3] at he; cases he
      | true =>
        rw [if_neg (by rw [h3]; decide)] at he
        by_cases h4 : totC 0 (amounts (spC cs t.ins)) = 0
        · rw [if_neg (by rw [h4]; simp)] at he
          by_cases h5 : totC 0 (amounts (newsT t h)) = 0
          · rw [if_neg (by rw [h5]; simp)] at he
            by_cases h6 : 0 < t.ins.length ∧ totV (amounts (spC cs t.ins)) < totV (amounts (newsT t h))
            · rw [if_pos h6] at he; cases he
            · rw [if_neg h6] at he
              unfold withE at he
              cases h7 : twiceB cs (newsT t h) with
              | true => rw [if_pos h7] at he; cases he
              | false =>
                rw [if_neg (by rw [h7]; decide)] at he
                split at he
                · cases he
                · exact ⟨hs, ht, by omega, by omega, h3, h4, h5, fun hn => by omega, h7, by omega⟩
          · rw [if_pos h5] at he; exact absurd he h5
        · rw [if_pos h4] at he; exact absurd he h4
  · rw [if_pos h1] at he; exact absurd he h1
theorem perm_of_mem {α : Type} : ∀ {a b : List α}, a.Nodup → b.Nodup → (∀ x, x ∈ a ↔ x ∈ b) → a.Perm b
  | [], b, _, _, h => by
    cases b with
    | nil => exact List.Perm.refl _
    | cons y b => exact absurd ((h y).2 (by simp)) (by simp)
  | x :: a, b, ha, hb, h => by
    obtain ⟨l, r, rfl⟩ := List.append_of_mem ((h x).1 (by simp))
    have h1 : (l ++ x :: r).Perm (x :: (l ++ r)) := List.perm_middle
    obtain ⟨ha1, ha2⟩ := List.nodup_cons.1 ha
    obtain ⟨hb1, hb2⟩ := List.nodup_cons.1 ((h1.nodup_iff).1 hb)
    refine ((perm_of_mem ha2 hb2 fun z => ?_).cons x).trans h1.symm
    have hz := h z
    rw [h1.mem_iff, List.mem_cons, List.mem_cons] at hz
    constructor
    · intro hm
      rcases hz.1 (.inr hm) with rfl | h2
      · exact absurd hm ha1
      · exact h2
    · intro hm
      rcases hz.2 (.inr hm) with rfl | h2
      · exact absurd hm hb1
      · exact h2
theorem sorted_nodup {cs : List CoinD} (h : sortedP cs) : cs.Nodup := h.imp fun {a b} hab e => by subst e; exact ltC_irrefl _ hab
theorem insF_apart : ∀ (xs : List InD) (met : List PlaceD), insF met xs = 0 → (∀ x ∈ xs, ∀ p ∈ met, p ≠ x.place) ∧ xs.Pairwise fun a b => a.place ≠ b.place
  | [], _, _ => ⟨fun x hx => (by cases hx), List.Pairwise.nil⟩
  | a :: xs, met, h => by
    unfold insF at h
    split at h
    · rename_i ha
      have hm : ∀ p ∈ met, p ≠ a.place := by
        unfold inF at ha
        split at ha
        · cases ha
        · split at ha
          · cases ha
          · rename_i hn
            intro p hp e
            apply hn
            rw [List.any_eq_true]
            exact ⟨p, hp, (plE_iff _ _).2 e⟩
      obtain ⟨h1, h2⟩ := insF_apart xs _ h
      refine ⟨fun x hx p hp => ?_, List.pairwise_cons.2 ⟨fun x hx => h1 x hx a.place (by simp), h2⟩⟩
      rcases List.mem_cons.1 hx with rfl | hx
      · exact hm p hp
      · exact h1 x hx p (by simp [hp])
    · rename_i ha; exact absurd h ha
theorem txF_ins {t : TxD} (h : txF t = 0) : insF [] t.ins = 0 := by
  unfold txF at h
  split at h
  · cases h
  · split at h
    · cases h
    · split at h
      · cases h
      · split at h
        · assumption
        · rename_i h1; exact absurd h h1
theorem spC_nodup {cs : List CoinD} {xs : List InD} (h : xs.Pairwise fun a b => a.place ≠ b.place) : (spC cs xs).Pairwise fun a b => a.place ≠ b.place := by
  unfold spC
  rw [List.pairwise_filterMap]
  exact h.imp fun {a b} hab c hc d hd e => hab ((getC_some hc).2.symm.trans (e.trans (getC_some hd).2))
theorem place_nodup {cs : List CoinD} (h : cs.Pairwise fun a b => a.place ≠ b.place) : cs.Nodup := h.imp fun {a b} hab e => hab (by rw [e])
theorem foundB_get {cs : List CoinD} {xs : List InD} (h : foundB cs xs = true) {x : InD} (hx : x ∈ xs) : ∃ c, getC cs x.place = some c := by
  unfold foundB at h
  rw [List.all_eq_true] at h
  have := h x hx
  unfold atP at this
  obtain ⟨c, hc, he⟩ := List.any_eq_true.1 this
  cases hg : getC cs x.place with
  | some d => exact ⟨d, rfl⟩
  | none =>
    unfold getC at hg
    rw [List.find?_eq_none] at hg
    exact absurd he (hg c hc)
theorem spC_length {cs : List CoinD} : ∀ {xs : List InD}, foundB cs xs = true → (spC cs xs).length = xs.length
  | [], _ => rfl
  | x :: xs, h => by
    obtain ⟨c, hc⟩ := foundB_get h (show x ∈ x :: xs by simp)
    have h2 : foundB cs xs = true := by
      unfold foundB at h ⊢
      rw [List.all_cons, Bool.and_eq_true] at h
      exact h.2
    have := spC_length h2
    unfold spC at this ⊢
    simp [hc, this]
theorem spC_has {cs : List CoinD} {xs : List InD} (hs : sortedP cs) {c : CoinD} : c ∈ spC cs xs ↔ c ∈ cs ∧ ∃ x ∈ xs, x.place = c.place := by
  refine ⟨spC_mem, fun ⟨hc, x, hx, he⟩ => ?_⟩
  unfold spC
  rw [List.mem_filterMap]
  exact ⟨x, hx, getC_of hs hc he.symm⟩
/-- What is spent, and what is left of a set, are the set. -/
theorem less_perm {cs : List CoinD} {xs : List InD} (hs : sortedP cs) (hx : xs.Pairwise fun a b => a.place ≠ b.place) : cs.Perm (lessC cs (spC cs xs) ++ spC cs xs) := by
  have hn1 := sorted_nodup (lessC_sorted (gone := spC cs xs) hs)
  have hn2 := place_nodup (spC_nodup (cs := cs) hx)
  refine perm_of_mem (sorted_nodup hs) (List.nodup_append.2 ⟨hn1, hn2, fun a ha b hb e => ?_⟩) fun c => ?_
  · subst e
    exact (mem_lessC.1 ha).2 ⟨a, hb, rfl⟩
  · rw [List.mem_append, mem_lessC]
    constructor
    · intro hc
      by_cases hh : hasP (spC cs xs) c.place
      · obtain ⟨d, hd, he⟩ := hh
        rw [sorted_one hs hc (spC_mem hd).1 he.symm]
        exact .inr hd
      · exact .inl ⟨hc, hh⟩
    · rintro (h | h)
      · exact h.1
      · exact (spC_mem h).1
theorem totS_sum : ∀ (ns : List Int) (s : Int), totS s ns = s + ns.sum
  | [], s => by simp [totS]
  | n :: ns, s => by rw [totS, totS_sum ns, List.sum_cons]; omega
theorem totV_sum {ns : List Int} (h : totC 0 ns = 0) : totV ns = ns.sum := by
  unfold totV; rw [if_pos h, totS_sum]; omega
theorem sum_perm {a b : List Int} (h : a.Perm b) : a.sum = b.sum := by
  induction h with
  | nil => rfl
  | cons x _ ih => simp [ih]
  | swap x y l => simp; omega
  | trans _ _ h1 h2 => exact h1.trans h2
theorem amounts_append (a b : List CoinD) : amounts (a ++ b) = amounts a ++ amounts b := List.map_append ..
theorem sorted_set {cs : List CoinD} (h32 : all32' cs) (h : setF cs = 0) : sortedP cs := (sorted_iff cs).1 (sorted_of cs ((all32_iff cs).2 h32) h)
theorem ApplyOk.apart {cs : List CoinD} {t : TxD} {h : Int} (k : ApplyOk cs t h) : t.ins.Pairwise fun a b => a.place ≠ b.place := (insF_apart t.ins [] (txF_ins k.tx)).2
theorem ApplyOk.sums {cs : List CoinD} {t : TxD} {h : Int} (k : ApplyOk cs t h) (h32 : all32' cs) :
    (amounts (applyS cs t h)).sum + (amounts (spC cs t.ins)).sum = (amounts cs).sum + (amounts (newsT t h)).sum ∧ (applyS cs t h).length + (spC cs t.ins).length = cs.length + t.outs.length ∧ (spC cs t.ins).length = t.ins.length := by
  have hp := less_perm (sorted_set h32 k.set) k.apart
  have hw := withC_perm (newsT t h) (lessC cs (spC cs t.ins))
  have e1 := sum_perm (hp.map CoinD.amount)
  have e2 := sum_perm (hw.map CoinD.amount)
  have l1 := hp.length_eq
  have l2 := hw.length_eq
  have l3 : (newsT t h).length = t.outs.length := newsC_length _ _ _ _
  rw [List.map_append, List.sum_append] at e1 e2
  rw [List.length_append] at l1 l2
  refine ⟨?_, ?_, spC_length k.found⟩
  · unfold amounts applyS; omega
  · unfold applyS; omega
theorem news_sum (id : List UInt8) (h : Int) : ∀ (os : List OutD) (i : Nat), (amounts (newsC id h i os)).sum = (os.map OutD.amount).sum
  | [], _ => rfl
  | o :: os, i => by
    have := news_sum id h os (i + 1)
    unfold amounts at this ⊢
    rw [newsC, List.map_cons, List.map_cons, List.sum_cons, List.sum_cons, this]
end Go.Proofs.YtljcdkfafknnpaaGreatDoor
namespace Go.Proofs.YtljcdkfafknnpaaGreatDoor
set_option linter.unusedVariables false
set_option linter.unusedSimpArgs false
open Go.ChangeShapes Go.WideShapes Go.ChangeAt Go.RowKit

def kInts : List Int := [1116352408, 1899447441, 3049323471, 3921009573, 961987163, 1508970993, 2453635748, 2870763221, 3624381080, 310598401, 607225278, 1426881987, 1925078388, 2162078206, 2614888103, 3248222580, 3835390401, 4022224774, 264347078, 604807628, 770255983, 1249150122, 1555081692, 1996064986, 2554220882, 2821834349, 2952996808, 3210313671, 3336571891, 3584528711, 113926993, 338241895, 666307205, 773529912, 1294757372, 1396182291, 1695183700, 1986661051, 2177026350, 2456956037, 2730485921, 2820302411, 3259730800, 3345764771, 3516065817, 3600352804, 4094571909, 275423344, 430227734, 506948616, 659060556, 883997877, 958139571, 1322822218, 1537002063, 1747873779, 1955562222, 2024104815, 2227730452, 2361852424, 2428436474, 2756734187, 3204031479, 3329325298]
theorem kInts_eq : kInts = kTab.map wv := by decide +kernel
theorem own_knob : ownKnob Tryz.prog.godebug = none := by kernel_rfl
theorem gTab : Tryz.prog.globalNamed "moneyer/sha.rounds" = some 1 := by kernel_rfl
theorem gTabType : (Tryz.prog.globals[1]?).map (·.type) = some 205 := by kernel_rfl
theorem cells_u32 : Tryz.prog.cellsOf 171 = 1 := by kernel_rfl
theorem cells_a64' : Tryz.prog.cellsOf 205 = 64 := by kernel_rfl
theorem tab_of {W : World} {rest : List (String × DataW Unit)} (h : laidMet Tryz.prog (("moneyer/sha.rounds", Lib.tabData .u32 kInts) :: rest) W) : tabAt W := by
  have ht := Lib.tabIs_of_head gTab gTabType Tryz.underlying205 Tryz.underlying171 cells_u32 cells_a64' h
  have hk : kV.size = 64 := by simp only [kV, List.size_toArray, List.length_map]; rfl
  unfold tabAt
  have := rowAt_of_cells (w := W) (g := 1) (off := 0) (cs := kV) (by omega) (fun j u hj => by
    have hj64 : j < 64 := by have := (Array.getElem?_eq_some_iff.1 hj).1; omega
    have hc := ht.cell gTab j (by rw [kInts_eq, List.length_map]; exact hj64)
    rw [Nat.zero_add, hc, ← hj, kV_get j hj64, kInts_eq]
    have hl : j < kTab.length := hj64
    simp [List.getD_eq_getElem?_getD, List.getElem?_eq_getElem hl])
  rw [hk] at this
  exact this
section
variable {H : Type} {enc : TypeId × Value → H} {P : Program}
theorem post_of_below {f : Func} {s : ChangeSpec} {apart fresh handsOn again : Bool} {W W' : World} {args : Array Value} {v : Value} {ds gs : List (DataW H)} {before pa pv : List MemPlace}
    (hW : DataW.Whole enc P f.params.toList s.vars apart W args.toList ds gs before)
    (hres : ∀ (b : Nat) (sp : Nat → Bool) (hd : Bool), DataW.TrodAll enc P W' b sp hd f.resultTypes.toList (v.resultList f.resultTypes.size) (s.fn H (ds ++ gs)).results [])
    (hargs : ∀ sp : Nat → Bool, (∀ p ∈ before, sp p.block = true) → DataW.TrodAll enc P W' 0 sp true f.params.toList args.toList (s.fn H (ds ++ gs)).args pa)
    (hvars : ∀ sp : Nat → Bool, (∀ p ∈ before, sp p.block = true) → DataW.TrodVars enc P W' sp s.vars (s.fn H (ds ++ gs)).vars pv)
    (hps : before = pa ++ pv) (hb : Below W.heap.size W W')
    (hok : ∀ (j : Nat) (t : TypeId) (r : Value), f.resultTypes[j]? = some t → (v.resultList f.resultTypes.size)[j]? = some r → Value.okWide P W' .any 0 t r) :
    s.post enc P f apart fresh handsOn again W args v W' := by
  have hold : ∀ p ∈ before, (fun b => decide (b < W.heap.size)) p.block = true := fun p hp => by simpa using hW.lt p hp
  have hlt : ∀ p ∈ before, p.block < W.heap.size := fun p hp => hW.lt p hp
  refine ⟨ds, gs, before, [], pa, pv, hW, hres _ _ _, hargs _ hold, hvars _ hold, World.keptBut_mono (fun p hp => ⟨hp, ?_⟩) (hb.frame (· ∈ before)), fun _ => ?_⟩
  · rw [hps, List.mem_append] at hp
    exact Or.inr hp
  · obtain ⟨_, _, _, _, _, hz, hn⟩ := hW
    refine ⟨hok, _, _, ([] ++ pa) ++ pv, ⟨[] ++ pa, pv, trodAll_append (hargs _ (fun _ _ => rfl)) (hres _ _ _), hvars _ (fun _ _ => rfl), rfl, ?_, ?_⟩, ?_⟩
    · intro b off hp
      have hp' : MemPlace.cell b off ∈ before := by rw [hps]; simpa using hp
      rw [hb.frozen (hlt _ hp')]
      exact hz b off hp'
    · intro ha
      have := hn ha
      rw [hps] at this
      simpa using this
    · intro p hp _
      rw [hps]
      simpa using hp
end
/-- A world with the table, for the witnesses. -/
noncomputable def laidWorld (os : Os) : World :=
  { World.holding Tryz.prog os ⟨#[], #[], []⟩ with heap := (World.holding Tryz.prog os ⟨#[], #[], []⟩).heap.modify 1 fun
      | .cells _ t frozen => .cells #[.int .u32 1116352408, .int .u32 1899447441, .int .u32 3049323471, .int .u32 3921009573, .int .u32 961987163, .int .u32 1508970993, .int .u32 2453635748, .int .u32 2870763221, .int .u32 3624381080, .int .u32 310598401, .int .u32 607225278, .int .u32 1426881987, .int .u32 1925078388, .int .u32 2162078206, .int .u32 2614888103, .int .u32 3248222580, .int .u32 3835390401, .int .u32 4022224774, .int .u32 264347078, .int .u32 604807628, .int .u32 770255983, .int .u32 1249150122, .int .u32 1555081692, .int .u32 1996064986, .int .u32 2554220882, .int .u32 2821834349, .int .u32 2952996808, .int .u32 3210313671, .int .u32 3336571891, .int .u32 3584528711, .int .u32 113926993, .int .u32 338241895, .int .u32 666307205, .int .u32 773529912, .int .u32 1294757372, .int .u32 1396182291, .int .u32 1695183700, .int .u32 1986661051, .int .u32 2177026350, .int .u32 2456956037, .int .u32 2730485921, .int .u32 2820302411, .int .u32 3259730800, .int .u32 3345764771, .int .u32 3516065817, .int .u32 3600352804, .int .u32 4094571909, .int .u32 275423344, .int .u32 430227734, .int .u32 506948616, .int .u32 659060556, .int .u32 883997877, .int .u32 958139571, .int .u32 1322822218, .int .u32 1537002063, .int .u32 1747873779, .int .u32 1955562222, .int .u32 2024104815, .int .u32 2227730452, .int .u32 2361852424, .int .u32 2428436474, .int .u32 2756734187, .int .u32 3204031479, .int .u32 3329325298] t frozen
      | o => o }
end Go.Proofs.YtljcdkfafknnpaaGreatDoor
