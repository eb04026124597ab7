/- What is wrong with a set of coins, and how coins lie. Conditions: none beyond each theorem's own. -/
import Derived.Test.YtljcdkfafknnpaaDoorLckf
import Derived.Deep.QuietTactic
namespace Go.Proofs.YtljcdkfafknnpaaDoor
set_option linter.unusedVariables false
set_option linter.unusedSimpArgs false
open Go.RowKit
attribute [local go_sem ↓] run_load_agg run_store_agg

def coinF (c : CoinD) : Int :=
  if c.ix < 0 ∨ 40 ≤ c.ix ∨ c.height < 0 ∨ 1073741824 < c.height ∨ c.amount < 0 ∨ 1125899906842624 < c.amount then 2 else lockF c.lock
def aheadB (cs : List CoinD) (j : Nat) : Bool := decide (0 < j) && decide (0 ≤ plC (cs.getD (j - 1) default).place (cs.getD j default).place)
def setFrom (cs : List CoinD) : Nat → Nat → Int
  | 0, _ => 0
  | m + 1, j => if aheadB cs j = true then 6 else if coinF (cs.getD j default) = 0 then setFrom cs m (j + 1) else coinF (cs.getD j default)
/-- What is wrong with a set. -/
def setF (cs : List CoinD) : Int := if 1000 < cs.length then 4 else setFrom cs cs.length 0
theorem setFrom_ahead (cs : List CoinD) (j : Nat) (hj : j < cs.length) (h : aheadB cs j = true) : setFrom cs (cs.length - j) j = 6 := by
  obtain ⟨m, hm⟩ : ∃ m, cs.length - j = m + 1 := ⟨cs.length - j - 1, by omega⟩
  rw [hm, setFrom, if_pos h]
theorem setFrom_hit (cs : List CoinD) (j : Nat) (hj : j < cs.length) (h : aheadB cs j = false) (c : Int) (hc : coinF (cs.getD j default) = c) (hz : c ≠ 0) : setFrom cs (cs.length - j) j = c := by
  obtain ⟨m, hm⟩ : ∃ m, cs.length - j = m + 1 := ⟨cs.length - j - 1, by omega⟩
  rw [hm, setFrom, if_neg (by rw [h]; decide), if_neg (by rw [hc]; exact hz), hc]
theorem setFrom_step (cs : List CoinD) (j : Nat) (hj : j < cs.length) (h : aheadB cs j = false) (hc : coinF (cs.getD j default) = 0) : setFrom cs (cs.length - j) j = setFrom cs (cs.length - (j + 1)) (j + 1) := by
  obtain ⟨m, hm⟩ : ∃ m, cs.length - j = m + 1 := ⟨cs.length - j - 1, by omega⟩
  rw [hm, setFrom, if_neg (by rw [h]; decide), if_pos hc, show cs.length - (j + 1) = m from by omega]
theorem setFrom_end (cs : List CoinD) (j : Nat) (hj : j = cs.length) : setFrom cs (cs.length - j) j = 0 := by subst hj; rw [Nat.sub_self]; rfl
theorem setF_of (cs : List CoinD) (h : ¬ 1000 < cs.length) (c : Int) (hc : setFrom cs cs.length 0 = c) : setF cs = c := by unfold setF; rw [if_neg h, hc]
def coinV (c : CoinD) (s : Value) : Array Value := dgV c.tx ++ #[.int .i64 c.ix, .int .i64 c.amount, s, .int .i64 c.height]
def zCoin : Array Value := #[.int .u8 0, .int .u8 0, .int .u8 0, .int .u8 0, .int .u8 0, .int .u8 0, .int .u8 0, .int .u8 0, .int .u8 0, .int .u8 0, .int .u8 0, .int .u8 0, .int .u8 0, .int .u8 0, .int .u8 0, .int .u8 0, .int .u8 0, .int .u8 0, .int .u8 0, .int .u8 0, .int .u8 0, .int .u8 0, .int .u8 0, .int .u8 0, .int .u8 0, .int .u8 0, .int .u8 0, .int .u8 0, .int .u8 0, .int .u8 0, .int .u8 0, .int .u8 0, .int .i64 0, .int .i64 0, .slice none 0 0, .int .i64 0]
theorem coinV_size (c : CoinD) (s : Value) (h : c.tx.length = 32) : (coinV c s).size = 36 := by simp [coinV, dgV_size, h]
theorem coinV_plain (c : CoinD) (so : Option Addr) (n cap : Nat) : plainCells (coinV c (.slice so n cap)) = true := by
  have := dgV_plain c.tx
  simp only [plainCells, coinV, Array.toList_append, List.all_append, Bool.and_eq_true] at this ⊢
  exact ⟨this, rfl⟩
theorem coinV_tail (c : CoinD) (s : Value) (h : c.tx.length = 32) : (coinV c s)[32]? = some (.int .i64 c.ix) ∧ (coinV c s)[33]? = some (.int .i64 c.amount) ∧ (coinV c s)[34]? = some s ∧ (coinV c s)[35]? = some (.int .i64 c.height) := by
  have hz : (dgV c.tx).size = 32 := by rw [dgV_size, h]
  unfold coinV
  refine ⟨?_, ?_, ?_, ?_⟩ <;> rw [Array.getElem?_append_right (by omega), hz] <;> rfl
theorem coinV_place (c : CoinD) (s : Value) (h : c.tx.length = 32) : (coinV c s).extract 0 33 = plV c.place := by
  have hz : (dgV c.tx).size = 32 := by rw [dgV_size, h]
  apply Array.ext
  · simp [coinV_size c s h, plV, CoinD.place, hz]
  · intro i h1 h2
    simp only [Array.getElem_extract, Nat.zero_add]
    have hi : i < 33 := by simp [plV, CoinD.place, hz] at h2; omega
    by_cases h32 : i < 32
    · simp only [coinV, plV, CoinD.place]
      rw [Array.getElem_append_left (by omega), Array.getElem_append_left (by omega)]
    · obtain rfl : i = 32 := by omega
      simp only [coinV, plV, CoinD.place]
      rw [Array.getElem_append_right (by omega), Array.getElem_append_right (by omega)]
      simp [hz]
/-- A part of a row. -/
theorem rowAt_part {w : World} {g o n : Nat} {cs : Array Value} (h : rowAt w g o n = some cs) (a m : Nat) (hm : a + m ≤ n) : rowAt w g (o + a) m = some (cs.extract a (a + m)) := by
  unfold rowAt at h ⊢
  cases hh : w.heap[g]? with
  | none => rw [hh] at h; cases h
  | some ob =>
    cases ob with
    | cells c t fr =>
      rw [hh] at h
      simp only at h ⊢
      split at h
      · rename_i hle
        cases h
        rw [if_pos (by omega)]
        congr 1
        apply Array.ext
        · simp; omega
        · intro i h1 h2
          simp only [Array.getElem_extract]
          congr 1
          omega
      · cases h
    | _ => rw [hh] at h; cases h
/-- A coin as the walk loads it. -/
theorem coin_at {w : World} {ao : Option Addr} {n cap : Nat} {cs : List CoinD} (h : rdSl coinR 36 w (.slice ao n cap) cs) (j : Nat) (hj : j < cs.length) :
    ∃ g off so scap, ao = some ⟨g, off, none⟩ ∧ n = cs.length ∧ cs[j].tx.length = 32 ∧ cs[j].lock.length ≤ scap ∧ scap ≤ 2 ^ 63 - 1 ∧ rdSl opR 3 w (.slice so cs[j].lock.length scap) cs[j].lock ∧
      rowAt w g (off + j * 36) 36 = some (coinV cs[j] (.slice so cs[j].lock.length scap)) := by
  obtain ⟨g, off, cap', xs, e, hR, hl, hrow⟩ := rdSl_row h (by decide) j cs[j] (List.getElem?_eq_getElem hj)
  cases e
  obtain ⟨s, rfl, h32, hs⟩ := hR
  obtain ⟨so, scap, rfl, h1, h2⟩ := sl_bounds hs
  unfold maxLen at h2
  refine ⟨g, off, so, scap, rfl, rfl, h32, h1, by omega, hs, ?_⟩
  rw [hrow]
  congr 1
  simp [coinV, dgV]
/-- What a coin in a block of its own gives. -/
structure CoinAt (w : World) (G : Nat) (c : CoinD) (s : Value) : Prop where
  p : rowAt w G 0 33 = some (plV c.place)
  ix : w.cell? ⟨G, 32, none⟩ = some (.int .i64 c.ix)
  amount : w.cell? ⟨G, 33, none⟩ = some (.int .i64 c.amount)
  lock : w.cell? ⟨G, 34, none⟩ = some s
  height : w.cell? ⟨G, 35, none⟩ = some (.int .i64 c.height)
theorem CoinAt.new (w : World) (c : CoinD) (s : Value) (h : c.tx.length = 32) : CoinAt (w.alloc (.cells (coinV c s) 59)) w.heap.size c s := by
  have hn := heap_alloc_new w (.cells (coinV c s) 59)
  obtain ⟨t1, t2, t3, t4⟩ := coinV_tail c s h
  have hz := coinV_size c s h
  refine ⟨?_, ?_, ?_, ?_, ?_⟩
  · have := rowAt_part (rowAt_whole hn 36 hz.symm) 0 33 (by omega)
    rw [Nat.zero_add, Nat.zero_add, coinV_place c s h] at this
    exact this
  · rw [cell_of_row _ _ _ _ _ _ hn, t1]
  · rw [cell_of_row _ _ _ _ _ _ hn, t2]
  · rw [cell_of_row _ _ _ _ _ _ hn, t3]
  · rw [cell_of_row _ _ _ _ _ _ hn, t4]
theorem CoinAt.on {w w' : World} {G : Nat} {c : CoinD} {s : Value} (h : CoinAt w G c s) (hb : Below w.heap.size w w') : CoinAt w' G c s := by
  have hl := rowAt_lt h.p
  exact ⟨(rowAt_below hb hl _ _).trans h.p, (hb.cell (p := ⟨G, 32, none⟩) hl).trans h.ix, (hb.cell (p := ⟨G, 33, none⟩) hl).trans h.amount, (hb.cell (p := ⟨G, 34, none⟩) hl).trans h.lock, (hb.cell (p := ⟨G, 35, none⟩) hl).trans h.height⟩
theorem new_coin (w : World) (c : CoinD) (so : Option Addr) (n cap : Nat) (h : c.tx.length = 32) : (rowAt (w.alloc (.cells zCoin 59)) w.heap.size 0 36).isSome = true ∧ wrAt (w.alloc (.cells zCoin 59)) w.heap.size = true ∧
    plainCells (coinV c (.slice so n cap)) = true ∧ (coinV c (.slice so n cap)).size = 36 :=
  ⟨by rw [rowAt_whole (heap_alloc_new w _) 36 rfl]; rfl, wrAt_of_heap (heap_alloc_new w _), coinV_plain c so n cap, coinV_size c _ h⟩
/-- A place loaded whole, in a region that calls. -/
theorem quiet_loadP {C : World → Prop} {K : Act → Prop} {a : Act} {dst : Option Tmp} {x : Operand} {type : TypeId} {pos : String} {after : Array Edge} {guard : Option (Nat × Bool)} (g off : Nat) (cs : Array Value)
    (hx : a.eval x = .pointer (some ⟨g, off, none⟩)) (h : ∀ w, C w → rowAt w g off 33 = some cs) (hK : K (a.put dst (.agg cs))) :
    Oper.quiet Tryd.prog ⟨dst, .load 35 x, type, pos, after, guard⟩ a C K := by
  refine ⟨.agg cs, fun w hw => ?_, hK⟩
  have hr : rowOf w (a.eval x) (Tryd.prog.cellsOf 35) = some cs := by rw [hx, rowOf_ptr, cells_place]; exact h w hw
  unfold Oper.quietAt
  rw [run_load_agg a.eval w dst _ x type pos after guard agg_place (by rw [hr]; rfl), hr]
  exact ⟨rfl, rfl⟩
/-- The worlds of a region that reads two places and calls. -/
structure HeldP (w0 : World) (A ao B bo : Nat) (p q : PlaceD) (w : World) : Prop where
  below : Below w0.heap.size w0 w
  a : rowAt w A ao 33 = some (plV p)
  b : rowAt w B bo 33 = some (plV q)
theorem HeldP.on {w0 : World} {A ao B bo : Nat} {p q : PlaceD} {w w' : World} (h : HeldP w0 A ao B bo p q w) (hb : Below w.heap.size w w') : HeldP w0 A ao B bo p q w' :=
  ⟨h.below.trans (hb.mono h.below.size), (rowAt_below hb (rowAt_lt h.a) _ _).trans h.a, (rowAt_below hb (rowAt_lt h.b) _ _).trans h.b⟩
theorem time_any (n : Int) (w : World) : Calls Tryd.prog 42 #[.int .i64 n] w fun e w' => e = .returned (.bool (decide (0 ≤ n ∧ n ≤ 1073741824))) ∧ w' = w := by
  by_cases h0 : 0 ≤ n <;> by_cases h1 : n ≤ 1073741824
  all_goals
    go_enter Tryd.func42, Tryd.ntmps42
    go_wp2
    go_ret
    exact ⟨by simp [h0, h1], rfl⟩
theorem money_any (n : Int) (w : World) : Calls Tryd.prog 43 #[.int .i64 n] w fun e w' => e = .returned (.bool (decide (0 ≤ n ∧ n ≤ 1125899906842624))) ∧ w' = w := by
  by_cases h0 : 0 ≤ n <;> by_cases h1 : n ≤ 1125899906842624
  all_goals
    go_enter Tryd.func43, Tryd.ntmps43
    go_wp2
    go_ret
    exact ⟨by simp [h0, h1], rfl⟩
def moneyF (n : Int) : Int := if n < 0 ∨ 1125899906842624 < n then 2 else 0
theorem moneyCheck_any (n : Int) (w : World) : Calls Tryd.prog 46 #[.int .i64 n] w fun e w' => e = .returned (errV (moneyF n)) ∧ w' = w := by
  by_cases h0 : n < 0
  · have hf : moneyF n = 2 := by unfold moneyF; rw [if_pos (.inl h0)]
    rw [hf]
    clear hf
    go_enter Tryd.func46, Tryd.ntmps46
    go_wp2
    go_ret
    exact ⟨rfl, rfl⟩
  · by_cases h1 : 1125899906842624 < n
    · have hf : moneyF n = 2 := by unfold moneyF; rw [if_pos (.inr h1)]
      rw [hf]
      clear hf
      go_enter Tryd.func46, Tryd.ntmps46
      go_wp2
      go_ret
      exact ⟨rfl, rfl⟩
    · have hf : moneyF n = 0 := by unfold moneyF; rw [if_neg (by omega)]
      rw [hf]
      clear hf
      go_enter Tryd.func46, Tryd.ntmps46
      go_wp2
      go_ret
      exact ⟨rfl, rfl⟩
end Go.Proofs.YtljcdkfafknnpaaDoor
