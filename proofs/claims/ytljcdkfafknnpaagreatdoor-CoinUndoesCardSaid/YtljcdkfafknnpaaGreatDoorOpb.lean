/- Merged: Opb. Conditions: none beyond each theorem's own. -/
import Derived.Test.YtljcdkfafknnpaaGreatDoorMa
namespace Go.Proofs.YtljcdkfafknnpaaGreatDoor
set_option linter.unusedVariables false
set_option linter.unusedSimpArgs false
open Go.RowKit Go.Deep Go.ChangeShapes Go.WideShapes Go.ChangeAt

def fitOpR : Rd OpD := fun w o cs => opR w o cs ∧ FitO o
def fitCoinR : Rd CoinD := fun w c cs => coinR w c cs ∧ FitC c
section
variable {H : Type} {enc : TypeId × Value → H} {w : World} {base : Nat} {spare : Nat → Bool} {held : Bool}
def Fits (x : DataW H) (t : TypeId) : Prop := ∀ n ∈ x.weights Tryz.prog t, n ≤ reachBytes
theorem fits_all {e : TypeId} {d : DataW H} : ∀ {ds : List (DataW H)}, d ∈ ds → ∀ n ∈ d.weights Tryz.prog e, n ∈ DataW.weightsAll Tryz.prog e ds
  | a :: ds, h, n, hn => by
    rw [DataW.weightsAll, List.mem_append]
    rcases List.mem_cons.1 h with rfl | h
    · exact .inl hn
    · exact .inr (fits_all h n hn)
theorem fits_elem {t e : TypeId} (ht : Tryz.prog.underlying t = some (.slice e)) {es ss : List (DataW H)} (h : Fits (.slice es ss) t) : (es.length + ss.length) * Tryz.prog.bytesOf e ≤ reachBytes ∧ ∀ d ∈ es, Fits d e := by
  unfold Fits at h
  simp only [DataW.weights, ht] at h
  exact ⟨h _ (List.mem_cons_self ..), fun d hd n hn => h n (List.mem_cons_of_mem _ (List.mem_append_left _ (fits_all hd n hn)))⟩
theorem fits_part {t : TypeId} {fs : Array Field} (ht : Tryz.prog.underlying t = some (.struct fs)) {parts : List (DataW H)} (h : Fits (.agg parts) t) {j : Nat} {e : TypeId} {d : DataW H} (h1 : (fs.toList.map (·.type))[j]? = some e) (h2 : parts[j]? = some d) : Fits d e := by
  unfold Fits at h
  simp only [DataW.weights, ht] at h
  exact fun n hn => h n (DataW.weights_mem_each h1 h2 n hn)
/-- A slice that came in, its elements read so, and bounded. -/
theorem open_slb {α : Type} [Inhabited α] {R : Rd α} {t e : TypeId} {sz : Nat} (ht : Tryz.prog.underlying t = some (.slice e)) (hs : Tryz.prog.cellsOf e = sz) (h0 : 0 < sz)
    (elem : ∀ (fuel : Nat) (cs : List Value) (x : DataW H × List MemPlace), DataW.trod enc Tryz.prog w base spare held fuel e cs = some x → cs.length = sz → Fits x.1 e → ∃ a, R w a cs)
    {fuel : Nat} {v : Value} {x : DataW H × List MemPlace} (h : DataW.trod enc Tryz.prog w base spare held fuel t [v] = some x) (hf : Fits x.1 t) : ∃ zs, rdSl R sz w v zs ∧ zs.length * Tryz.prog.bytesOf e ≤ reachBytes := by
  rcases open_slice ht h with ⟨h1, -⟩ | ⟨a, len, cap, m, n, D, Pl, h1, hb, hl, hm, hmm, hxx, hx⟩
  · cases h1
    exact ⟨[], rdSl_nil R sz w, by simp⟩
  · cases h1
    rw [hxx] at hf
    obtain ⟨hf1, hf2⟩ := fits_elem ht hf
    have hlm : len ≤ m := by rw [hmm]; split <;> omega
    have each : ∀ i, i < len → ∃ p : α × List Value, p.2.length = sz ∧ R w p.1 p.2 ∧ ∀ j, j < sz → w.cell? ((a.add (i * sz)).add j) = p.2[j]? := fun i hi => by
      obtain ⟨cs', h2, h3⟩ := hx i (by omega)
      rw [hs] at h2
      obtain ⟨-, h5, h4⟩ := World.cells?_some h2
      obtain ⟨r, hr⟩ := elem n cs' _ h3 h5 (hf2 _ (List.mem_map_of_mem (List.mem_range.2 hi)))
      exact ⟨(r, cs'), h5, hr, h4⟩
    obtain ⟨y, hy⟩ := choose_lt each
    have hfl : ∀ (l : List Nat), (∀ i ∈ l, i < len) → ((l.map fun i => (y i).2).flatten).length = l.length * sz := by
      intro l
      induction l with
      | nil => intro _; simp
      | cons i l ih =>
        intro hl
        have := ih (fun k hk => hl k (by simp [hk]))
        simp only [List.map_cons, List.flatten_cons, List.length_append, List.length_cons, this, (hy i (hl i (by simp))).1, Nat.add_mul]
        omega
    have hget : ∀ (n0 k : Nat), n0 + k ≤ len → ∀ i j, i < k → j < sz → ((((List.range' n0 k).map fun i => (y i).2).flatten))[i * sz + j]? = (y (n0 + i)).2[j]? := by
      intro n0 k
      induction k generalizing n0 with
      | zero => intro _ i j hi; omega
      | succ k ih =>
        intro hk i j hi hj
        rw [List.range'_succ, List.map_cons, List.flatten_cons]
        cases i with
        | zero =>
          rw [List.getElem?_append_left (by rw [(hy n0 (by omega)).1]; omega)]
          simp
        | succ i =>
          rw [List.getElem?_append_right (by rw [(hy n0 (by omega)).1, Nat.add_mul]; omega), (hy n0 (by omega)).1, show (i + 1) * sz + j - sz = i * sz + j from by rw [Nat.add_mul]; omega,
            ih (n0 + 1) (by omega) i j (by omega) hj, show n0 + 1 + i = n0 + (i + 1) from by omega]
    have hrl : (List.range' 0 len) = List.range len := by rw [List.range_eq_range']
    have hg0 := hget 0 len (by omega)
    have hL := hfl (List.range len) (fun i hi => List.mem_range.1 hi)
    rw [hrl] at hg0
    simp only [Nat.zero_add, List.length_range] at hg0 hL
    refine ⟨(List.range len).map fun i => (y i).1, ⟨((List.range len).map fun i => (y i).2).flatten, ?_, by simp only [List.length_map, List.length_range]; exact hL, fun j r hr => ?_⟩, ?_⟩
    · simp only [List.length_map, List.length_range]
      refine ⟨some a, cap, rfl, hl, hm, ?_⟩
      by_cases hz : len = 0
      · subst hz; exact .inl rfl
      · right
        have hsp : a.spot = none := by
          obtain ⟨e1, -, e2⟩ := hy 0 (by omega)
          have := e2 0 (by omega)
          rw [List.getElem?_eq_getElem (by omega)] at this
          simpa [Addr.add] using World.cell?_spot this
        obtain ⟨g, off, sp⟩ := a
        simp only at hsp
        subst hsp
        refine ⟨g, off, rfl, fun j u hj => ?_⟩
        have hjl : j < len * sz := by
          have := (List.getElem?_eq_some_iff.1 hj).1
          omega
        have hi : j / sz < len := Nat.div_lt_of_lt_mul (by rw [Nat.mul_comm]; exact hjl)
        have hmod := Nat.mod_lt j h0
        have hdm : j / sz * sz + j % sz = j := by rw [Nat.mul_comm]; exact Nat.div_add_mod j sz
        have e3 := (hy (j / sz) hi).2.2 (j % sz) hmod
        rw [add_add, Addr.add_lit, hdm] at e3
        rw [e3, ← hg0 (j / sz) (j % sz) hi hmod, hdm]
        exact hj
    · have hj : j < len := by
        have := (List.getElem?_eq_some_iff.1 hr).1
        simpa using this
      have hrr : (y j).1 = r := by
        rw [List.getElem?_map, List.getElem?_range hj] at hr
        simpa using hr
      have hcs : ((((List.range len).map fun i => (y i).2).flatten).drop (j * sz)).take sz = (y j).2 := by
        apply List.ext_getElem?
        intro i
        rw [List.getElem?_take]
        split
        · rename_i hi
          rw [List.getElem?_drop, hg0 j i hj hi]
        · rename_i hi
          rw [List.getElem?_eq_none (by rw [(hy j hj).1]; omega)]
      rw [hcs, ← hrr]
      exact (hy j hj).2.1
    · rw [List.length_map, List.length_range]
      rw [List.length_map, List.length_range] at hf1
      exact Nat.le_trans (Nat.mul_le_mul_right _ (Nat.le_add_right _ _)) hf1
theorem open_opb (fuel : Nat) (cs : List Value) (x : DataW H × List MemPlace) (h : DataW.trod enc Tryz.prog w base spare held fuel 151 cs = some x) (hl : cs.length = 3) (hf : Fits x.1 151) : ∃ o, fitOpR w o cs := by
  obtain ⟨y0, y1, y2, n, hxx, -, h0, h1, h2⟩ := Go.Deep.trod_struct3 Tryz.underlying151 h
  obtain ⟨a, b, c, rfl⟩ := list_three hl
  rw [cells_int] at h0 h1
  rw [cells_bs] at h2
  simp only [List.drop_zero, List.drop_succ_cons, List.take_succ_cons, List.take_zero] at h0 h1 h2
  obtain ⟨i0, e0, -, -⟩ := DataW.trod_int Tryz.underlying3 h0
  obtain ⟨i1, e1, -, -⟩ := DataW.trod_int Tryz.underlying3 h1
  obtain ⟨m, d, hd, hr, hq⟩ := open_byts h2
  subst hd
  injection e0 with e0 _
  injection e1 with e1 _
  refine ⟨⟨i0, i1, d⟩, ⟨c, by rw [e0, e1], hr⟩, ?_⟩
  unfold FitO
  rcases hq with h | ⟨es, ss, hx, hll⟩
  · show d.length ≤ _; omega
  · rw [hxx] at hf
    have h3 : Fits y2.1 26 := fits_part Tryz.underlying151 hf (j := 2) rfl rfl
    rw [hx] at h3
    have h4 := (fits_elem Tryz.underlying26 h3).1
    rw [show Tryz.prog.bytesOf 5 = 1 from by kernel_rfl, show reachBytes = 140737488351232 from by decide] at h4
    show d.length ≤ _; omega
theorem rdSl_fit {w : World} {v : Value} {os : List OpD} (h : rdSl fitOpR 3 w v os) : rdSl opR 3 w v os ∧ ∀ o ∈ os, FitO o := by
  obtain ⟨xs, h1, h2, h3⟩ := h
  refine ⟨⟨xs, h1, h2, fun j a ha => (h3 j a ha).1⟩, fun o ho => ?_⟩
  obtain ⟨i, hi, rfl⟩ := List.getElem_of_mem ho
  exact (h3 i _ (List.getElem?_eq_getElem hi)).2
theorem open_coinb (fuel : Nat) (cs : List Value) (x : DataW H × List MemPlace) (h : DataW.trod enc Tryz.prog w base spare held fuel 105 cs = some x) (hl : cs.length = 36) (hf : Fits x.1 105) : ∃ c, fitCoinR w c cs := by
  obtain ⟨y0, y1, y2, n, hxx, -, h0, h1, h2⟩ := Go.Deep.trod_struct3 Tryz.underlying105 h
  rw [cells_place] at h0
  rw [cells_out] at h1
  rw [cells_int] at h2
  obtain ⟨p, hp, e0⟩ := open_place h0
  obtain ⟨z0, z1, m, hzz, hl1, k0, k1⟩ := Go.ChangeShapes.trod_struct2 Tryz.underlying103 h1
  rw [cells_int] at k0
  rw [cells_ops] at k1
  obtain ⟨i2, e2, -, -⟩ := DataW.trod_int Tryz.underlying3 h2
  rw [hxx] at hf
  have hf1 : Fits y1.1 103 := fits_part Tryz.underlying105 hf (j := 1) rfl rfl
  rw [hzz] at hf1
  have hf2 : Fits z1.1 101 := fits_part Tryz.underlying103 hf1 (j := 1) rfl rfl
  obtain ⟨a, s, hB⟩ : ∃ a s, (cs.drop 33).take 2 = [a, s] := by
    have : ((cs.drop 33).take 2).length = 2 := by simp; omega
    match hq : (cs.drop 33).take 2, this with
    | [a, s], _ => exact ⟨a, s, rfl⟩
  simp only [hB, List.drop_zero, List.drop_succ_cons, List.take_succ_cons, List.take_zero] at k0 k1
  obtain ⟨i1, e1, -, -⟩ := DataW.trod_int Tryz.underlying3 k0
  obtain ⟨os, ho, hb⟩ := open_slb (R := fitOpR) Tryz.underlying101 cells_op (by decide) open_opb k1 hf2
  rw [show Tryz.prog.bytesOf 151 = 40 from by kernel_rfl, show reachBytes = 140737488351232 from by decide] at hb
  obtain ⟨ho1, ho2⟩ := rdSl_fit ho
  have ha : a = .int .i64 i1 := by simpa using e1
  refine ⟨⟨p.tx, p.ix, i1, os, i2⟩, ⟨s, ?_, hp, ho1⟩, ?_, ho2⟩
  · have := split_three hl (by simpa using e0) hB (by simpa using e2)
    rw [this, ha]
    simp
  · show os.length ≤ _; omega
theorem open_coinsb {fuel : Nat} {v : Value} {x : DataW H × List MemPlace} (h : DataW.trod enc Tryz.prog w base spare held fuel 55 [v] = some x) (hf : Fits x.1 55) : ∃ cs, rdSl coinR 36 w v cs ∧ ∀ c ∈ cs, FitC c := by
  obtain ⟨zs, ⟨xs, h1, h2, h3⟩, -⟩ := open_slb (R := fitCoinR) Tryz.underlying55 cells_coin (by decide) open_coinb h hf
  refine ⟨zs, ⟨xs, h1, h2, fun j a ha => (h3 j a ha).1⟩, fun c hc => ?_⟩
  obtain ⟨i, hi, rfl⟩ := List.getElem_of_mem hc
  exact (h3 i _ (List.getElem?_eq_getElem hi)).2
theorem fits_arg {ts : List TypeId} {ds : List (DataW H)} (h : (DataW.weightsEach Tryz.prog ts ds).all (· ≤ reachBytes) = true) {j : Nat} {t : TypeId} {d : DataW H} (ht : ts[j]? = some t) (hd : ds[j]? = some d) : Fits d t := fun n hn => by
  have := List.all_eq_true.1 h _ (DataW.weights_mem_each ht hd n hn)
  simpa using this
end
end Go.Proofs.YtljcdkfafknnpaaGreatDoor
