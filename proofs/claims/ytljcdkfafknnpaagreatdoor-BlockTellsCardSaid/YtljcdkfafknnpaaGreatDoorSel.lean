/- Merged: Sel. Conditions: none beyond each theorem's own. -/
import Derived.Test.YtljcdkfafknnpaaGreatDoorMd
namespace Go.Proofs.YtljcdkfafknnpaaGreatDoor
set_option linter.unusedVariables false
set_option linter.unusedSimpArgs false
open Go.RowKit
attribute [local go_sem ↓] run_load_agg run_store_agg run_load_any run_build_coin

structure Sel (wl w0 : World) (bs : List BoxD) (v : Value) (cs : List CoinD) (w : World) : Prop where
  kept : Kept w0 bs w
  old : Below wl.heap.size wl w0
  row : ∃ xs, own w w0.heap.size 105 36 v cs.length xs ∧ rdEach (constR coinR wl) 36 w cs xs
theorem Sel.nil {wl w0 w : World} {bs : List BoxD} (h : Kept w0 bs w) (hl : Below wl.heap.size wl w0) : Sel wl w0 bs (.slice none 0 0) [] w := ⟨h, hl, [], own_nil _ _ _ _, rdEach_nil _ _ _⟩
theorem Sel.on {wl w0 w w' : World} {bs : List BoxD} {v : Value} {cs : List CoinD} (h : Sel wl w0 bs v cs w) (hb : Below w.heap.size w w') : Sel wl w0 bs v cs w' := by
  obtain ⟨h1, h0, xs, h2, h3⟩ := h
  exact ⟨h1.on hb, h0, xs, own_below hb h2 (Nat.le_refl _), constR_any h3⟩
theorem Sel.alloc {wl w0 w : World} {bs : List BoxD} {v : Value} {cs : List CoinD} (h : Sel wl w0 bs v cs w) (d : Array Value) (t : TypeId) : Sel wl w0 ((w.heap.size, d, t) :: bs) v cs (w.alloc (.cells d t)) := by
  obtain ⟨h1, h0, xs, h2, h3⟩ := h
  exact ⟨h1.alloc d t, h0, xs, own_alloc h2 _, constR_any h3⟩
theorem Sel.tail {wl w0 w : World} {b : BoxD} {bs : List BoxD} {v : Value} {cs : List CoinD} (h : Sel wl w0 (b :: bs) v cs w) : Sel wl w0 bs v cs w := ⟨⟨h.kept.below, fun x hx => h.kept.at_ x (List.mem_cons_of_mem _ hx)⟩, h.old, h.row⟩
/-- As it reads, its locks in the elder world. -/
theorem Sel.rdc {wl w0 w : World} {bs : List BoxD} {v : Value} {cs : List CoinD} (h : Sel wl w0 bs v cs w) : rdSl (constR coinR wl) 36 w v cs := by
  obtain ⟨h1, h0, xs, h2, h3⟩ := h
  exact ⟨xs, own_rd h2, h3⟩
theorem Sel.below {wl w0 w : World} {bs : List BoxD} {v : Value} {cs : List CoinD} (h : Sel wl w0 bs v cs w) : Below wl.heap.size wl w := h.old.trans (h.kept.below.mono h.old.size)
theorem rdc_rd {wl w : World} {v : Value} {cs : List CoinD} (h : rdSl (constR coinR wl) 36 w v cs) (hb : Below wl.heap.size wl w) : rdSl coinR 36 w v cs := by
  obtain ⟨xs, h1, h2⟩ := h
  exact ⟨xs, h1, constR_on coinR_stays hb h2⟩
theorem rdc_of {wl w : World} {v : Value} {cs : List CoinD} (h : rdSl coinR 36 wl v cs) (hb : Below wl.heap.size wl w) : rdSl (constR coinR wl) 36 w v cs := by
  obtain ⟨xs, h1, h2⟩ := h
  exact ⟨xs, rd_below h1 hb, h2.1, h2.2⟩
theorem rdc_on {wl w w' : World} {v : Value} {cs : List CoinD} (h : rdSl (constR coinR wl) 36 w v cs) (hb : Below w.heap.size w w') : rdSl (constR coinR wl) 36 w' v cs := by
  obtain ⟨xs, h1, h2⟩ := h
  exact ⟨xs, rd_below h1 hb, h2.1, h2.2⟩
theorem Sel.rd {wl w0 w : World} {bs : List BoxD} {v : Value} {cs : List CoinD} (h : Sel wl w0 bs v cs w) : rdSl coinR 36 w v cs := rdc_rd h.rdc h.below
theorem Sel.val {wl w0 w : World} {bs : List BoxD} {v : Value} {cs : List CoinD} (h : Sel wl w0 bs v cs w) : ∃ va cap, v = .slice va cs.length cap ∧ cs.length ≤ cap ∧ cap ≤ maxLen := sl_bounds h.rd
theorem Sel.drew {wl w0 w : World} {bs : List BoxD} {v : Value} {cs : List CoinD} (h : Sel wl w0 bs v cs w) : Sel wl w0 bs v cs w.drew := h.on (Below.refl _ _).drew
/-- It was made in a later call. -/
theorem Sel.from_ {wl w0 w1 w : World} {bs bs' : List BoxD} {v : Value} {cs : List CoinD} (h : Sel wl w1 bs v cs w) (k : Kept w0 bs' w1) (hl : Below wl.heap.size wl w0) : Sel wl w0 bs' v cs w := by
  obtain ⟨h1, h0, xs, h2, h3⟩ := h
  exact ⟨k.on h1.below, hl, xs, own_base h2 k.below.size, h3⟩
/-- A write to a block that is none of coins. -/
theorem Sel.put {wl w0 w : World} {bs : List BoxD} {v : Value} {cs : List CoinD} {A : Nat} {c : Array Value} {t : TypeId} {fr : Nat × Nat} (h : Sel wl w0 bs v cs w) (hA : w.heap[A]? = some (.cells c t fr)) (ht : 105 ≠ t) (h0 : w0.heap.size ≤ A) (d : Array Value) : Sel wl w0 [] v cs (putAt w A 0 d) := by
  obtain ⟨h1, h2, xs, h3, h4⟩ := h
  exact ⟨⟨putAt_below h1.below h0 _ _, fun b hb => by cases hb⟩, h2, xs, own_kept h3 fun k hk _ hlt => putAt_other _ _ _ _ k (fun e => own_ne h3 hA ht (by rw [hk, e])), constR_any h4⟩
theorem coin_atL {wl w : World} {ao : Option Addr} {n cap : Nat} {cs : List CoinD} (h : rdSl (constR coinR wl) 36 w (.slice ao n cap) cs) (j : Nat) (hj : j < cs.length) :
    ∃ g off so scap, ao = some ⟨g, off, none⟩ ∧ n = cs.length ∧ cs[j].tx.length = 32 ∧ cs[j].lock.length ≤ scap ∧ scap ≤ 2 ^ 63 - 1 ∧ rdSl opR 3 wl (.slice so cs[j].lock.length scap) cs[j].lock ∧
      rowAt w g (off + j * 36) 36 = some (coinV cs[j] (.slice so cs[j].lock.length scap)) := by
  obtain ⟨g, off, cap', xs, e, hR, hl, hrow⟩ := rdSl_row h (by decide) j cs[j] (List.getElem?_eq_getElem hj)
  cases e
  obtain ⟨s, rfl, h32, hs⟩ := hR
  have hs' := hs
  obtain ⟨so, scap, rfl, s1, s2⟩ := sl_bounds hs'
  unfold maxLen at s2
  refine ⟨g, off, so, scap, rfl, rfl, h32, s1, by omega, hs, ?_⟩
  rw [hrow]
  congr 1
  simp [coinV, dgV]
theorem sel_append {wl w0 w : World} {bs : List BoxD} {v : Value} {cs : List CoinD} (ty : TypeId) (c : CoinD) (V : Array Value) (hS : Sel wl w0 bs v cs w)
    (ht : bs.all (fun x => decide (x.2.2 ≠ 105)) = true) (u : Value) (hx : rd w u 1 V.toList) (hV : coinR wl c V.toList) (hp : ∀ u ∈ V.toList, u.oneCell' = true) (hz : V.size = 36) (hlen : cs.length ≤ 1000000) :
    ∃ va cap w', (Builtin.append_ #[55, 55] ty #[v, u]).run Tryz.prog w = .ok (.slice va (cs ++ [c]).length cap) w' ∧ Sel wl w0 bs (.slice va (cs ++ [c]).length cap) (cs ++ [c]) w' := by
  obtain ⟨i0, hi0, hz0, hz1, hz2⟩ := info_parts' info_coin
  obtain ⟨k1, k0, xs, k2, k3⟩ := hS
  obtain ⟨v', w', hrun, ho', -, hg', -⟩ := run_append_row (P := Tryz.prog) w w0.heap.size 55 ty 105 i0 (.agg zCoin) 36 80 Tryz.underlying55 hi0 hz0 hz1 hz2 rfl (by decide) v cs.length xs k2 u 1 V.toList (by rw [Array.length_toList, hz]) hx hp (by unfold maxLen; omega) (by omega) k1.below.size
  have hk : Kept w0 bs w' := ⟨k1.below.grown hg' k1.below.size (fun q hq => (own_lt k2 hq).1), fun b hb => (hg'.block b.1 (Array.getElem?_eq_some_iff.1 (k1.at_ b hb)).1 (fun e => by
    have h1 := List.all_eq_true.1 ht b hb
    exact own_ne k2 (k1.at_ b hb) (by simp at h1; exact fun e => h1 e.symm) e.symm)).trans (k1.at_ b hb)⟩
  have ho2 : own w' w0.heap.size 105 36 v' (cs ++ [c]).length (xs ++ V.toList) := by rw [List.length_append]; exact ho'
  have hn : Sel wl w0 bs v' (cs ++ [c]) w' := ⟨hk, k0, _, ho2, rdEach_snoc (constR_any k3) (by rw [Array.length_toList, hz]) hV⟩
  obtain ⟨va, cap, rfl, -, -⟩ := hn.val
  exact ⟨va, cap, w', hrun, hn⟩
/-- In the walk: a coin is appended. -/
theorem wpList_sel {ops : Array Oper} {rest : List Oper} {o : Oper} {a : Act} {wl w0 w : World} {Q : Exit → Act → World → Prop} {bs : List BoxD} {v : Value} {cs : List CoinD} (hgd : o.guard = none) (s x : Operand)
    (ho : o.op = .call { callee := .builtin .append, args := #[s, x], argTypes := #[55, 55] }) (c : CoinD) (V : Array Value) (hS : Sel wl w0 bs v cs w) (hs : a.eval s = v)
    (ht : bs.all (fun x => decide (x.2.2 ≠ 105)) = true) (hx : rd w (a.eval x) 1 V.toList) (hV : coinR wl c V.toList) (hp : ∀ u ∈ V.toList, u.oneCell' = true) (hz : V.size = 36) (hlen : cs.length ≤ 1000000)
    (h : ∀ va cap w', Hid (Sel wl w0 bs (.slice va (cs ++ [c]).length cap) (cs ++ [c]) w') → wpList Tryz.prog ops Q rest (a.put o.dst (.slice va (cs ++ [c]).length cap)) w') : wpList Tryz.prog ops Q (o :: rest) a w := by
  refine wpList_plain hgd fun K hK => ?_
  obtain ⟨va, cap, w', hrun, hn⟩ := sel_append o.type c V hS ht (a.eval x) hx hV hp hz hlen
  have hh := h va cap w' hn
  clear hn
  generalize Value.slice va (cs ++ [c]).length cap = v' at hrun hh
  unfold Oper.wp
  simp [execOp, ho, resolve, invoke, builtin, hs, hrun, Result.andThen]
  exact hK _ _ hh
/-- In a region that draws. -/
theorem step_sel {ops : Array Oper} {o : Oper} {a : Act} {wl w0 w : World} {K : Act → World → Prop} {Q : Exit → Act → World → Prop} {E : Prop} {bs : List BoxD} {v : Value} {cs : List CoinD} (hgd : o.guard = none) (s x : Operand)
    (ho : o.op = .call { callee := .builtin .append, args := #[s, x], argTypes := #[55, 55] }) (c : CoinD) (V : Array Value) (hS : Sel wl w0 bs v cs w) (hs : a.eval s = v)
    (ht : bs.all (fun x => decide (x.2.2 ≠ 105)) = true) (u : Value) (hu : a.eval x = u) (hx : rd w u 1 V.toList) (hV : coinR wl c V.toList) (hp : ∀ u ∈ V.toList, u.oneCell' = true) (hz : V.size = 36) (hlen : cs.length ≤ 1000000)
    (h : ∀ va cap w', Hid (Sel wl w0 bs (.slice va (cs ++ [c]).length cap) (cs ++ [c]) w') → K (a.put o.dst (.slice va (cs ++ [c]).length cap)) w') :
    if Region.wanted o (yielded ops a.tmps) = true then Oper.wp Tryz.prog o a w K Q else E := by
  have hw : Region.wanted o (yielded ops a.tmps) = true := by simp [Region.wanted, hgd]
  rw [if_pos hw]
  obtain ⟨va, cap, w', hrun, hn⟩ := sel_append o.type c V hS ht u hx hV hp hz hlen
  have hh := h va cap w' hn
  clear hn
  generalize Value.slice va (cs ++ [c]).length cap = v' at hrun hh
  unfold Oper.wp
  simp [execOp, ho, resolve, invoke, builtin, hs, hu, hrun, Result.andThen]
  exact hh
/-- What the walk asks of a coin that is loaded to be appended. -/
theorem coin_cells {w0 : World} {c : CoinD} {so : Option Addr} {cap : Nat} (h32 : c.tx.length = 32) (hl : rdSl opR 3 w0 (.slice so c.lock.length cap) c.lock) :
    coinR w0 c (coinV c (.slice so c.lock.length cap)).toList ∧ (∀ u ∈ (coinV c (.slice so c.lock.length cap)).toList, u.oneCell' = true) ∧ (coinV c (.slice so c.lock.length cap)).size = 36 :=
  ⟨by rw [coinV_list]; exact ⟨_, rfl, h32, hl⟩, fun u hu => List.all_eq_true.1 (coinV_plain c so c.lock.length cap) u hu, coinV_size c _ h32⟩
end Go.Proofs.YtljcdkfafknnpaaGreatDoor
