/- Merged: Root. Conditions: none beyond each theorem's own. -/
import Derived.Test.YtljcdkfafknnpaaGreatDoorTree
import Derived.Deep.RegionWith
namespace Go.Proofs.YtljcdkfafknnpaaGreatDoor
set_option linter.unusedVariables false
set_option linter.unusedSimpArgs false
open Go.RowKit
attribute [local go_sem ↓] run_load_agg run_store_agg run_build_two

theorem halfM_all : ∀ n : Fin 257, 2 ≤ n.val → 0 < halfM n.val ∧ halfM n.val < n.val ∧ n.val ≤ 2 * halfM n.val := by decide +kernel
theorem halfM_bounds (n : Nat) (h : 2 ≤ n) (h2 : n ≤ 256) : 0 < halfM n ∧ halfM n < n ∧ n ≤ 2 * halfM n := halfM_all ⟨n, by omega⟩ h
def rootM (ls : List (List UInt8)) : List UInt8 :=
  if 2 ≤ ls.length ∧ 0 < halfM ls.length ∧ halfM ls.length < ls.length then nodeM (rootM (ls.take (halfM ls.length))) (rootM (ls.drop (halfM ls.length)))
  else if ls.length = 1 then ls.headD [] else shaM []
termination_by ls.length
decreasing_by
  · simp; omega
  · simp; omega
theorem rootM_two (ls : List (List UInt8)) (h : 2 ≤ ls.length) (h2 : ls.length ≤ 256) : rootM ls = nodeM (rootM (ls.take (halfM ls.length))) (rootM (ls.drop (halfM ls.length))) := by
  obtain ⟨h3, h4, -⟩ := halfM_bounds _ h h2
  rw [rootM, if_pos ⟨h, h3, h4⟩]
theorem rootM_one (d : List UInt8) : rootM [d] = d := by
  rw [rootM, if_neg (by simp), if_pos (by rfl)]; rfl
theorem rootM_nil : rootM [] = shaM [] := by
  rw [rootM, if_neg (by simp), if_neg (by simp)]
theorem nodeM_length (l r : List UInt8) : (nodeM l r).length = 32 := by unfold nodeM; exact shaM_length _
theorem rootM_length (ls : List (List UInt8)) (h : ∀ d ∈ ls, d.length = 32) : (rootM ls).length = 32 := by
  rw [rootM]
  split
  · exact nodeM_length _ _
  · split
    · cases ls with
      | nil => contradiction
      | cons d ds => exact h d (by simp)
    · exact shaM_length _
/-- 's[:k]'. -/
theorem run_slice_to {P : Program} (t e : TypeId) (sz : Nat) (ht : P.underlying t = some (.slice e)) (hs : (P.info? e).map (·.size) = some sz) (g off n cap k : Nat) (hk : k ≤ n) (hn : n ≤ cap) (w : World) :
    (Instr.sliceAt t (.slice (some ⟨g, off, none⟩) n cap) none (some (.int .i64 (k : Int))) none).run P w = .ok (.slice (some ⟨g, off, none⟩) k cap) w := by
  obtain ⟨i, hi, hsz⟩ : ∃ i, P.info? e = some i ∧ i.size = sz := by
    cases h : P.info? e with
    | none => simp [h] at hs
    | some i => exact ⟨i, rfl, by simpa [h] using hs⟩
  simp [Instr.sliceAt, Instr.slice, run_underlying ht, Instr.sliceBounds, Instr.sliceBound, asIntOf, sizeOf, typeInfo, hi, hsz]
  rw [if_pos (by omega)]
  simp [Addr.add]
/-- 's[k:]', of a row. -/
theorem run_slice_from' {P : Program} (t e : TypeId) (sz : Nat) (ht : P.underlying t = some (.slice e)) (hs : (P.info? e).map (·.size) = some sz) (a : Option Addr) (n cap k : Nat) (hk : k ≤ n) (w : World) :
    (Instr.sliceAt t (.slice a n cap) (some (.int .i64 (k : Int))) none none).run P w = .ok (.slice (if cap = k then a else a.map (·.add (k * sz))) (n - k) (cap - k)) w := run_slice_from (P := P) t e sz ht hs a n cap k hk w
theorem flat_take (ls : List (List UInt8)) (h32 : ∀ d ∈ ls, d.length = 32) (k : Nat) : (ls.take k).flatten = ls.flatten.take (32 * k) := by
  induction ls generalizing k with
  | nil => simp
  | cons d ds ih =>
    cases k with
    | zero => simp
    | succ k =>
      have hd := h32 d (by simp)
      rw [List.take_succ_cons, List.flatten_cons, List.flatten_cons, ih (fun d hd => h32 d (by simp [hd])) k, List.take_append, List.take_of_length_le (l := d) (by omega)]
      congr 2; omega
theorem flat_drop (ls : List (List UInt8)) (h32 : ∀ d ∈ ls, d.length = 32) (k : Nat) : (ls.drop k).flatten = ls.flatten.drop (32 * k) := by
  induction ls generalizing k with
  | nil => simp
  | cons d ds ih =>
    cases k with
    | zero => simp
    | succ k =>
      have hd := h32 d (by simp)
      rw [List.drop_succ_cons, List.flatten_cons, ih (fun d hd => h32 d (by simp [hd])) k, List.drop_append, show d.drop (32 * (k + 1)) = [] from List.drop_eq_nil_of_le (by omega), List.nil_append]
      congr 1; omega
theorem size_dig : (Tryz.prog.info? 23).map (·.size) = some 32 := by kernel_rfl
set_option maxHeartbeats 1000000 in
set_option maxRecDepth 100000 in
theorem root_low (ls : List (List UInt8)) (h32 : ∀ d ∈ ls, d.length = 32) (v : Value) (n : Nat) (w : World) (hN : n ≤ 1) (hb : rd w v n (ls.flatten.map vB)) (hl : ls.length = n) (hT : tabAt w) :
    Calls Tryz.prog 85 #[v] w fun e w' => e = .returned (.agg (dgV (rootM ls))) ∧ Below w.heap.size w w' := by
  have hg := rowAt_lt hT
  have HT := Lib.hid hT; clear hT
  have hb0 : Hid (Below w.heap.size w (w.alloc (.cells zD 23))) := (Below.refl _ _).alloc (Nat.le_refl _) _
  have hd0 : Hid ((w.alloc (.cells zD 23)).heap[w.heap.size]? = some (.cells zD 23 (0, 0))) := heap_alloc_new w _
  have hz0 : w.heap.size < (w.alloc (.cells zD 23)).heap.size := by simp
  by_cases h1 : n = 1
  · subst h1
    have hb' := hb
    obtain ⟨ao, cap, rfl, k1, k2, -⟩ := hb'
    unfold maxLen at k2
    obtain ⟨g, off, rfl, hrows⟩ := rd_digest h32 hl hb (by omega)
    have hrow := hrows 0 (by omega)
    obtain ⟨d, rfl⟩ : ∃ d, ls = [d] := by
      match ls, hl with
      | [d], _ => exact ⟨d, rfl⟩
    rw [List.getD_cons_zero, Nat.mul_zero, Nat.add_zero] at hrow
    have hd := h32 d (by simp)
    rw [rootM_one]
    have hrow2 := (rowAt_below hb0.out (rowAt_lt hrow) off 32).trans hrow
    have hra : (rowAt (w.alloc (.cells zD 23)) w.heap.size 0 32).isSome = true := by rw [rowAt_whole hd0.out 32 rfl]; rfl
    have hrg := wrAt_of_heap hd0.out
    have hpl : plainCells (dgV d) = true := dgV_plain _
    have hsz : (dgV d).size = 32 := by rw [dgV_size, hd]
    unfold zD at hrow2 hra hrg
    clear hrow hrows hb
    go_enter Tryz.func85, Tryz.ntmps85
    go_wp2
    refine bodyPost_ret (v := .agg (dgV d)) (results_cell_at rfl _ _ w.heap.size 0 _ rfl agg_digest ?_) rfl ⟨rfl, ?_⟩
    · rw [cells_digest]; exact rowAt_whole (heap_alloc_new _ _) 32 hsz.symm
    · exact (Below.refl _ _).alloc (Nat.le_refl _) _
  · obtain rfl : n = 0 := by omega
    obtain rfl : ls = [] := List.eq_nil_of_length_eq_zero hl
    obtain ⟨ao, cap, rfl, k1, k2, -⟩ := hb
    rw [rootM_nil]
    go_enter Tryz.func85, Tryz.ntmps85
    go_wp2_with fail
    change Calls _ _ _ (w.alloc (.cells zD 23)) _
    generalize w.alloc (.cells zD 23) = wa at hb0 hd0 hz0 ⊢
    refine (shaSum_any [] _ 0 wa ⟨none, 0, rfl, Nat.le_refl _, Nat.zero_le _, .inl rfl⟩ rfl (by decide) ?e1).mono ?_
    case e1 => exact (rowAt_below hb0.out hg 0 64).trans HT.out
    rintro e w3 ⟨rfl, hb3⟩
    have B3 := Lib.hid (hb0.out.trans (hb3.mono hb0.out.size))
    have hd3 : w3.heap[w.heap.size]? = some (.cells zD 23 (0, 0)) := (hb3.block _ hz0).trans hd0.out
    have hrw : (rowAt w3 w.heap.size 0 32).isSome = true := by rw [rowAt_whole hd3 32 rfl]; rfl
    have hrg := wrAt_of_heap hd3
    have hpl : plainCells (dgV (shaM [])) = true := dgV_plain _
    have hsz : (dgV (shaM [])).size = 32 := by rw [dgV_size, shaM_length]
    have HD3 := Lib.hid hd3; clear hd3 hb3
    go_wp2
    refine bodyPost_ret (v := .agg (dgV (shaM []))) (results_cell_at rfl _ _ w.heap.size 0 _ rfl agg_digest ?_) rfl ⟨rfl, ?_⟩
    · rw [cells_digest]; exact rowAt_put_same HD3.out (dgV (shaM [])) (by rw [hsz]; rfl) 32 hsz.symm
    · exact putAt_below B3.out (Nat.le_refl _) _ _
set_option maxHeartbeats 1000000 in
set_option maxRecDepth 100000 in
theorem root_any : ∀ (N : Nat) (ls : List (List UInt8)) (h32 : ∀ d ∈ ls, d.length = 32) (v : Value) (n : Nat) (w : World), n ≤ N → rd w v n (ls.flatten.map vB) → ls.length = n → n ≤ 256 → tabAt w →
    Calls Tryz.prog 85 #[v] w fun e w' => e = .returned (.agg (dgV (rootM ls))) ∧ Below w.heap.size w w' := by
  intro N
  induction N with
  | zero =>
    intro ls h32 v n w hN hb hl hn hT
    exact root_low ls h32 v n w (by omega) hb hl hT
  | succ N ih =>
    intro ls h32 v n w hN hb hl hn hT
    have hg := rowAt_lt hT
    have hb' := hb
    obtain ⟨ao, cap, rfl, k1, k2, -⟩ := hb'
    unfold maxLen at k2
    have HT := Lib.hid hT; have HB := Lib.hid hb; clear hb hT
    by_cases h2 : 2 ≤ n
    · obtain ⟨hh1, hh2, -⟩ := halfM_bounds n h2 hn
      obtain ⟨g, off, rfl, -⟩ := rd_digest h32 hl HB.out (by omega)
      have hm := rootM_two ls (by omega) (by omega)
      rw [hl] at hm
      have hhalf := half_any n h2 hn
      obtain ⟨k, hk⟩ : ∃ k, halfM n = k := ⟨_, rfl⟩
      rw [hk] at hh1 hh2 hm hhalf
      have HM := Lib.hid hm; have HH := Lib.hid hhalf; have HK := Lib.hid hk; clear hm hhalf hk
      have hs1 : ∀ w, (Instr.sliceAt 47 (.slice (some ⟨g, off, none⟩) n cap) none (some (.int .i64 k)) none).run Tryz.prog w = .ok (.slice (some ⟨g, off, none⟩) k cap) w := fun w => run_slice_to _ _ 32 Tryz.underlying47 size_dig g off n cap k (by omega) k1 w
      have hs2 : ∀ w, (Instr.sliceAt 47 (.slice (some ⟨g, off, none⟩) n cap) (some (.int .i64 k)) none none).run Tryz.prog w = .ok (.slice (if cap = k then some ⟨g, off, none⟩ else (some ⟨g, off, none⟩ : Option Addr).map (·.add (k * 32))) (n - k) (cap - k)) w := fun w => run_slice_from' _ _ 32 Tryz.underlying47 size_dig _ n cap k (by omega) w
      have r1 := Lib.hid (rd_take HB.out k (32 * k) (by omega))
      have r2 := rd_drop HB.out (sz := 32) (by rw [List.length_map, flat_length ls h32, hl]; omega) k (by omega)
      generalize (if cap = k then some ⟨g, off, none⟩ else (some ⟨g, off, none⟩ : Option Addr).map (·.add (k * 32))) = a2 at hs2 r2
      have R2 := Lib.hid r2; clear r2
      go_enter Tryz.func85, Tryz.ntmps85
      go_wp2_with fail
      have hb0 : Hid (Below w.heap.size w (w.alloc (.cells zD 23))) := (Below.refl _ _).alloc (Nat.le_refl _) _
      have hd0 : Hid ((w.alloc (.cells zD 23)).heap[w.heap.size]? = some (.cells zD 23 (0, 0))) := heap_alloc_new w _
      have hz0 : w.heap.size < (w.alloc (.cells zD 23)).heap.size := by simp
      change Calls _ _ _ (w.alloc (.cells zD 23)) _
      generalize w.alloc (.cells zD 23) = wa at hb0 hd0 hz0 ⊢
      refine (HH.out wa).mono ?_
      rintro e w' ⟨rfl, rfl⟩
      go_wp2_with fail
      have hb0' := Lib.hid hb0.out.drew
      have hl1 : (ls.take k).length = k := by simp; omega
      have hl2 : (ls.drop k).length = n - k := by simp; omega
      have m1 : ∀ d ∈ ls.take k, d.length = 32 := fun d hd => h32 d (List.mem_of_mem_take hd)
      have m2 : ∀ d ∈ ls.drop k, d.length = 32 := fun d hd => h32 d (List.mem_of_mem_drop hd)
      rw [← List.map_take, ← flat_take ls h32] at r1
      rw [Nat.mul_comm, ← List.map_drop, ← flat_drop ls h32] at R2
      go_region_with (first
        | (go_at_call_of 85 a2
           refine (ih (ls.drop k) m2 _ (n - k) _ (by omega) (rd_belowB R2.out B1.out (Nat.le_refl _)) hl2 (by omega) ((rowAt_below B1.out hg 0 64).trans HT.out)).mono ?_
           rintro e w2 ⟨rfl, hb2⟩
           have B2 := Lib.hid (B1.out.trans (hb2.mono B1.out.size)); have E2 := Lib.hid (E1.out.trans (hb2.mono E1.out.size)); clear hb2)
        | (go_at_call_of 85 k
           refine (ih (ls.take k) m1 _ k _ (by omega) (rd_belowB r1.out hb0'.out (Nat.le_refl _)) hl1 (by omega) ((rowAt_below hb0'.out hg 0 64).trans HT.out)).mono ?_
           rintro e w1 ⟨rfl, hb1⟩
           have B1 := Lib.hid (hb0'.out.trans (hb1.mono hb0'.out.size)); have E1 := Lib.hid hb1; clear hb1)
        | (go_at_call 122
           refine (node_any (rootM (ls.take k)) (rootM (ls.drop k)) (rootM_length _ m1) (rootM_length _ m2) _ ((rowAt_below B2.out hg 0 64).trans HT.out)).mono ?_
           rintro e w3 ⟨rfl, hb3⟩
           rw [← HM.out]
           have B3 := Lib.hid (B2.out.trans (hb3.mono B2.out.size)); have E3 := Lib.hid (E2.out.trans (hb3.mono E2.out.size)); clear hb3
           have hd3 : w3.heap[w.heap.size]? = some (.cells zD 23 (0, 0)) := (E3.out.block _ hz0).trans hd0.out
           have hrw : (rowAt w3 w.heap.size 0 32).isSome = true := by rw [rowAt_whole hd3 32 rfl]; rfl
           have hrg := wrAt_of_heap hd3
           have hpl : plainCells (dgV (rootM ls)) = true := dgV_plain _
           have hsz : (dgV (rootM ls)).size = 32 := by rw [dgV_size, rootM_length ls h32]
           have hst := run_storeCells_put (P := Tryz.prog) w3 w.heap.size 0 (dgV (rootM ls)) hpl (by rw [hsz]; exact hrw) hrg
           have HD3 := Lib.hid hd3; clear hd3))
      go_wp2
      refine bodyPost_ret (v := .agg (dgV (rootM ls))) (results_cell_at rfl _ _ w.heap.size 0 _ rfl agg_digest ?_) rfl ⟨rfl, ?_⟩
      · rw [cells_digest]; exact rowAt_put_same HD3.out (dgV (rootM ls)) (by rw [hsz]; rfl) 32 hsz.symm
      · exact putAt_below B3.out (Nat.le_refl _) _ _
    · exact root_low ls h32 _ n w (by omega) HB.out hl HT.out
end Go.Proofs.YtljcdkfafknnpaaGreatDoor
