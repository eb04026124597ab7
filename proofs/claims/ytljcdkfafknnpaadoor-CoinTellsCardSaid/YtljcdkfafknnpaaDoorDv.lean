/- Digests, bytes and rows, as they lie in memory. Conditions: none beyond each theorem's own. -/
import Derived.Test.YtljcdkfafknnpaaDoorOwn
import Derived.Test.YtljcdkfafknnpaaDoorSha
import Derived.Test.YtljcdkfafknnpaaDoorTy
namespace Go.Proofs.YtljcdkfafknnpaaDoor
set_option linter.unusedVariables false
set_option linter.unusedSimpArgs false
open Go.RowKit

def vB (x : UInt8) : Value := .int .u8 (bv x)
def vW (x : UInt32) : Value := .int .u32 (wv x)
theorem vB_plain (b : List UInt8) : ∀ u ∈ b.map vB, u.oneCell' = true := vs_oneCell .u8 bv b
theorem vB_ne (b : List UInt8) {old : Value} (h : ∀ n, old ≠ .int .u8 n) : ∀ x ∈ b.map vB, x ≠ old := by
  intro x hx e
  obtain ⟨y, _, rfl⟩ := List.mem_map.1 hx
  exact h _ e.symm
/-- A digest's cells. -/
def dgV (d : List UInt8) : Array Value := (d.map vB).toArray
theorem dgV_size (d : List UInt8) : (dgV d).size = d.length := by simp [dgV]
def zD : Array Value := #[.int .u8 0, .int .u8 0, .int .u8 0, .int .u8 0, .int .u8 0, .int .u8 0, .int .u8 0, .int .u8 0, .int .u8 0, .int .u8 0, .int .u8 0, .int .u8 0, .int .u8 0, .int .u8 0, .int .u8 0, .int .u8 0, .int .u8 0, .int .u8 0, .int .u8 0, .int .u8 0, .int .u8 0, .int .u8 0, .int .u8 0, .int .u8 0, .int .u8 0, .int .u8 0, .int .u8 0, .int .u8 0, .int .u8 0, .int .u8 0, .int .u8 0, .int .u8 0]
theorem zD_eq : zD = dgV (List.replicate 32 0) := by rfl
theorem own_rows {w : World} {base : Nat} {e : TypeId} {sz : Nat} {v : Value} {n : Nat} {xs : List Value} (h : own w base e sz v n xs) : ∀ k, wrow v = some k → base ≤ k := fun _ hk => (own_lt h hk).1
theorem dgV_plain (d : List UInt8) : plainCells (dgV d) = true := by
  simp only [plainCells, dgV, List.all_eq_true]
  exact vB_plain d
theorem dgV_get (d : List UInt8) (j : Nat) (h : j < d.length) : (dgV d)[j]? = some (.int .u8 (bv (d.getD j 0))) := by
  simp [dgV, List.getD_eq_getElem?_getD, List.getElem?_eq_getElem h, vB]
/-- The cells of digest i among many. -/
theorem flat_get (ds : List (List UInt8)) (h32 : ∀ d ∈ ds, d.length = 32) (i : Nat) (hi : i < ds.length) (j : Nat) (hj : j < 32) : ds.flatten[32 * i + j]? = (ds.getD i [])[j]? := by
  induction ds generalizing i with
  | nil => simp at hi
  | cons d ds ih =>
    have hd := h32 d (by simp)
    cases i with
    | zero => simp only [List.flatten_cons, Nat.mul_zero, Nat.zero_add, List.getD_cons_zero]; rw [List.getElem?_append_left (by omega)]
    | succ i =>
      simp only [List.flatten_cons, List.getD_cons_succ]
      rw [List.getElem?_append_right (by omega), ← ih (fun d hd => h32 d (by simp [hd])) i (by simpa using hi)]
      congr 1; omega
theorem flat_length (ds : List (List UInt8)) (h32 : ∀ d ∈ ds, d.length = 32) : ds.flatten.length = 32 * ds.length := by
  induction ds with
  | nil => rfl
  | cons d ds ih => simp only [List.flatten_cons, List.length_append, List.length_cons, h32 d (by simp), ih (fun d hd => h32 d (by simp [hd]))]; omega
/-- Digests that lie in a row: where, and each one. -/
theorem rd_digest {w : World} {ao : Option Addr} {n cap : Nat} {ds : List (List UInt8)} (h32 : ∀ d ∈ ds, d.length = 32) (hl : ds.length = n) (h : rd w (.slice ao n cap) n (ds.flatten.map vB)) (hn : 0 < n) :
    ∃ g off, ao = some ⟨g, off, none⟩ ∧ ∀ i, i < n → rowAt w g (off + 32 * i) 32 = some (dgV (ds.getD i [])) := by
  obtain ⟨a, c, e, -, -, h⟩ := h
  cases e
  have hfl := flat_length ds h32
  rcases h with h | ⟨g, off, rfl, h⟩
  · have := congrArg List.length h
    simp only [List.length_map, List.length_nil] at this
    omega
  · refine ⟨g, off, rfl, fun i hi => ?_⟩
    have hd : (ds.getD i []).length = 32 := by
      rw [List.getD_eq_getElem?_getD, List.getElem?_eq_getElem (by omega), Option.getD_some]
      exact h32 _ (List.getElem_mem _)
    have hs : (dgV (ds.getD i [])).size = 32 := by rw [dgV_size, hd]
    have := rowAt_of_cells (w := w) (g := g) (off := off + 32 * i) (cs := dgV (ds.getD i [])) (by rw [hs]; omega) (fun j u hj => by
      have hj32 : j < 32 := by have := (Array.getElem?_eq_some_iff.1 hj).1; rw [hs] at this; exact this
      rw [Nat.add_assoc]
      apply h
      rw [List.getElem?_map, flat_get ds h32 i (by omega) j hj32]
      simpa [dgV] using hj)
    rw [hs] at this
    exact this
/-- A digest of the call's own, read as a slice. -/
theorem rd_block {w : World} {C : Nat} {cs : Array Value} {t : TypeId} {fr : Nat × Nat} (h : w.heap[C]? = some (.cells cs t fr)) (n : Nat) (hn : cs.size = n) (hm : n ≤ maxLen) : rd w (.slice (some ⟨C, 0, none⟩) n n) n cs.toList := by
  refine ⟨_, _, rfl, Nat.le_refl _, hm, .inr ⟨C, 0, rfl, fun j u hj => ?_⟩⟩
  rw [cell_of_row _ _ _ _ _ _ h]
  simpa using hj
theorem zD_size : zD.size = 32 := by rfl

theorem own_empty (w : World) (base : Nat) (e : TypeId) (sz : Nat) (ao : Option Addr) : own w base e sz (.slice ao 0 0) 0 [] :=
  ⟨by simp, ao, 0, rfl, Nat.le_refl _, Nat.zero_le _, .inl rfl⟩
/-- The first k of what reads so. -/
theorem rd_take {w : World} {a : Option Addr} {n cap : Nat} {xs : List Value} (h : rd w (.slice a n cap) n xs) (k m : Nat) (hk : k ≤ n) : rd w (.slice a k cap) k (xs.take m) := by
  obtain ⟨_, _, e, h1, h2, h3⟩ := h
  cases e
  refine ⟨_, _, rfl, by omega, h2, ?_⟩
  rcases h3 with rfl | ⟨g, off, rfl, h3⟩
  · exact .inl (by simp)
  · refine .inr ⟨g, off, rfl, fun j u hj => h3 j u ?_⟩
    rw [List.getElem?_take] at hj
    split at hj
    · exact hj
    · cases hj
/-- .. and the others. -/
theorem rd_drop {w : World} {a : Option Addr} {n cap sz : Nat} {xs : List Value} (h : rd w (.slice a n cap) n xs) (hx : xs.length = n * sz) (k : Nat) (hk : k ≤ n) :
    rd w (.slice (if cap = k then a else a.map (·.add (k * sz))) (n - k) (cap - k)) (n - k) (xs.drop (k * sz)) := by
  obtain ⟨_, _, e, h1, h2, h3⟩ := h
  cases e
  refine ⟨_, _, rfl, by omega, by omega, ?_⟩
  rcases h3 with rfl | ⟨g, off, rfl, h3⟩
  · exact .inl (by simp)
  · by_cases hc : cap = k
    · refine .inl (List.drop_eq_nil_of_le ?_)
      rw [hx]; exact Nat.mul_le_mul_right _ (by omega)
    · rw [if_neg hc]
      refine .inr ⟨g, off + k * sz, by simp [Addr.add], fun j u hj => ?_⟩
      rw [List.getElem?_drop] at hj
      rw [Nat.add_assoc]
      exact h3 _ _ hj
/-- Two results, the first in a row. -/
theorem results_cell_tmp_at {P : Program} {fn : Func} {p u : Tmp} {ty : TypeId} (h : fn.results = #[.cell p ty, .tmp u]) (tmps : Array Value) (w : World) (g off : Nat) (cs : Array Value) (v : Value)
    (hp : tmps.getD p undef = .pointer (some ⟨g, off, none⟩)) (hu : tmps.getD u undef = v) (ha : aggOf P ty = true) (hr : rowAt w g off (P.cellsOf ty) = some cs) : (results fn tmps).run P w = .ok (.tuple #[.agg cs, v]) w := by
  have hp' : tmps[p]?.getD undef = .pointer (some ⟨g, off, none⟩) := by simpa using hp
  have hu' : tmps[u]?.getD undef = v := by simpa using hu
  simp [results, h, hp', hu', asAddr, run_loadVar_at ha w g off hr]
theorem rd_nil (w : World) : rd w (.slice none 0 0) 0 [] := ⟨none, 0, rfl, Nat.le_refl _, Nat.zero_le _, .inl rfl⟩
/-- .. reads so. -/
theorem rd_mid {w : World} {a : Option Addr} {n cap : Nat} {xs : List Value} (h : rd w (.slice a n cap) n xs) (hx : xs.length = n) (i j : Nat) (hij : i ≤ j) (hj : j ≤ n) :
    rd w (.slice (if cap = i then a else a.map (·.add (i * 1))) (j - i) (cap - i)) (j - i) ((xs.drop i).take (j - i)) := by
  have h1 := rd_drop h (sz := 1) (by omega) i (by omega)
  have h2 := rd_take h1 (j - i) (j - i) (by omega)
  simpa only [Nat.mul_one] using h2

end Go.Proofs.YtljcdkfafknnpaaDoor
