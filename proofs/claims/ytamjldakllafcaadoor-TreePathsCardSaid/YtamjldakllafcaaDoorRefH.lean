/- The walks of the reference's Half and Folded. Conditions: none beyond each theorem's own. -/
import Derived.Test.YtamjldakllafcaaDoorRefN
import Derived.Test.YtamjldakllafcaaDoorFold
import Derived.Deep.RegionLaw
namespace Go.Proofs.YtamjldakllafcaaDoor
set_option linter.unusedVariables false
set_option linter.unusedSimpArgs false
open Go.RowKit
attribute [local go_sem ↓] run_load_agg run_store_agg run_build_two run_load_any

theorem half_unique2 : ∀ n : Fin 257, ∀ j : Fin 9, 2 ≤ n.val → 2 ^ j.val < n.val → n.val ≤ 2 * 2 ^ j.val → halfM n.val = 2 ^ j.val := by decide +kernel
set_option maxHeartbeats 1000000 in
theorem rhalf_any (n : Nat) (h2 : 2 ≤ n) (hn : n ≤ 256) (w : World) :
    Calls Tryd.prog 51 #[.int .i64 n] w fun e w' => e = .returned (.int .i64 (halfM n)) ∧ w' = w := by
  go_enter Tryd.func51, Tryd.ntmps51
  go_wp2
  go_loopw [3] (fun c wr => wr = w ∧ ∃ j : Nat, j ≤ 8 ∧ c = .int .i64 ((2 ^ j : Nat) : Int) ∧ 2 ^ j < n) (fun c _ => 256 - (intOf c).toNat)
  case atStart => exact ⟨rfl, 0, by omega, rfl, by omega⟩
  case round =>
    obtain ⟨rfl, j, hj, rfl, hjn⟩ := hrel
    obtain ⟨k, hk⟩ : ∃ k, 2 ^ j = k := ⟨_, rfl⟩
    rw [hk] at hjn ⊢
    have hk0 : 0 < k := by rw [← hk]; exact Nat.two_pow_pos j
    have HK := Lib.hid hk; clear hk
    by_cases hmore : 2 * k < n
    · have hj8 : j < 8 := by
        have e := HK.out
        refine Nat.lt_of_not_le fun h8 => ?_
        have : 2 ^ 8 ≤ 2 ^ j := Nat.pow_le_pow_right (by omega) h8
        omega
      go_wp2
      go_roundw
      case rel => exact ⟨trivial, j + 1, by omega, by rw [Nat.pow_succ, HK.out]; go_num, by rw [Nat.pow_succ, HK.out]; omega⟩
      case measure => simp [intOf]; omega
    · have hu := half_unique2 ⟨n, by omega⟩ ⟨j, by omega⟩ h2 (by simp only; rw [HK.out]; exact hjn) (by simp only; rw [HK.out]; omega)
      simp only at hu
      rw [HK.out] at hu
      have HU := Lib.hid hu; clear hu
      go_wp2
      go_ret
      exact ⟨by rw [HU.out]; rfl, rfl⟩
/-- A list's last one, and what is ahead of it. -/
theorem list_last (ps : List (List UInt8)) (r : Nat) (h : ps.length = r + 1) : ps = ps.take r ++ [ps.getD r []] := by
  have e := List.take_add_one (l := ps) (i := r)
  rw [List.getElem?_eq_getElem (by omega)] at e
  rw [List.getD_eq_getElem?_getD, List.getElem?_eq_getElem (by omega), Option.getD_some]
  rw [List.take_of_length_le (by omega)] at e
  exact e
set_option maxHeartbeats 8000000 in
set_option maxRecDepth 100000 in
theorem rfolded_any : ∀ (N : Nat) (l : List UInt8) (_ : l.length = 32) (n i : Nat) (v : Value) (m : Nat) (ps : List (List UInt8)) (_ : ∀ d ∈ ps, d.length = 32) (w : World) (_ : n ≤ N) (_ : rd w v m (ps.flatten.map vB)) (_ : ps.length = m) (_ : 1 ≤ n) (_ : n ≤ 256) (_ : i < n)
    (_ : m = (sidesM i n).length),
    Calls Tryd.prog 36 #[.agg (dgV l), .int .i64 i, .int .i64 n, v] w fun e w' => e = .returned (.agg (dgV (foldM l (sidesM i n).reverse ps))) ∧ Below w.heap.size w w' := by
  intro N
  induction N with
  | zero => intro l hl n i v m ps h32 w hN _ _ h1; omega
  | succ N ih =>
    intro l hl n i v m ps h32 w hN hr hpl h1 hn hi hm
    have hr' := hr
    obtain ⟨ao, cap, rfl, k1, k2, -⟩ := hr'
    unfold maxLen at k2
    have HR := Lib.hid hr; have HM := Lib.hid hm; clear hr hm
    have hb0 : Hid (Below w.heap.size w ((w.alloc (.cells (dgV l) 25)).alloc (.cells zD 25))) := ((Below.refl _ _).alloc (Nat.le_refl _) _).alloc (by simp) _
    have hc0 : rowAt ((w.alloc (.cells (dgV l) 25)).alloc (.cells zD 25)) w.heap.size 0 32 = some (dgV l) := by
      refine rowAt_whole (t := 25) (fr := (0, 0)) ?_ 32 (by rw [dgV_size, hl])
      rw [Below.heap_alloc _ _ _ (by simp)]; exact heap_alloc_new w _
    have hd0 : Hid (((w.alloc (.cells (dgV l) 25)).alloc (.cells zD 25)).heap[w.heap.size + 1]? = some (.cells zD 25 (0, 0))) := by
      have := heap_alloc_new (w.alloc (.cells (dgV l) 25)) (.cells zD 25)
      rwa [show (w.alloc (.cells (dgV l) 25)).heap.size = w.heap.size + 1 from by simp] at this
    have hs0 : ((w.alloc (.cells (dgV l) 25)).alloc (.cells zD 25)).heap.size = w.heap.size + 2 := by simp
    have hsl : (dgV l).size = 32 := by rw [dgV_size, hl]
    have hpl0 : plainCells (dgV l) = true := dgV_plain _
    by_cases h2 : 2 ≤ n
    · obtain ⟨hh1, hh2, -⟩ := halfM_bounds n h2 hn
      have HH := Lib.hid (rhalf_any n h2 hn)
      obtain ⟨k, hk⟩ : ∃ k, halfM n = k := ⟨_, rfl⟩
      rw [hk] at hh1 hh2 HH
      have HK := Lib.hid hk; clear hk
      have hn1 : ((n : Int) == 1) = false := beq_false_of_ne (by omega)
      go_enter Tryd.func36, Tryd.ntmps36
      have hml : ∃ r, m = r + 1 := ⟨m - 1, by
        have e := HM.out
        by_cases hik : i < k
        · rw [sidesM_left i n h2 hn (by rw [HK.out]; exact hik)] at e; simp at e; omega
        · rw [sidesM_right i n h2 hn (by rw [HK.out]; exact hik)] at e; simp at e; omega⟩
      obtain ⟨r, rfl⟩ := hml
      have hlast := list_last ps r hpl
      obtain ⟨g, off, rfl, hrows⟩ := rd_digest h32 hpl HR.out (by omega)
      have hrow := hrows r (by omega)
      have hPl := getD_len h32 (i := r) (by omega)
      obtain ⟨P, hP⟩ : ∃ P, ps.getD r [] = P := ⟨_, rfl⟩
      rw [hP] at hrow hPl hlast
      have r1 := rd_take HR.out r (32 * r) (by omega)
      rw [← List.map_take, ← flat_take ps h32] at r1
      have m1 : ∀ d ∈ ps.take r, d.length = 32 := fun d hd => h32 d (List.mem_of_mem_take hd)
      have l1 : (ps.take r).length = r := by simp; omega
      obtain ⟨rs, hrs⟩ : ∃ rs, ps.take r = rs := ⟨_, rfl⟩
      rw [hrs] at r1 m1 l1 hlast
      have hgw := rowAt_lt hrow
      have HLAST := Lib.hid hlast; have R1 := Lib.hid r1
      clear hrows hP hrs hlast r1
      go_wp2_with fail
      change Calls _ _ _ ((w.alloc (.cells (dgV l) 25)).alloc (.cells zD 25)) _
      generalize (w.alloc (.cells (dgV l) 25)).alloc (.cells zD 25) = wa at hb0 hc0 hd0 hs0 ⊢
      refine (HH.out wa).mono ?_
      rintro e w' ⟨rfl, rfl⟩
      have hrow2 : rowAt w' g (off + r * 32) 32 = some (dgV P) := by rw [Nat.mul_comm]; exact (rowAt_below hb0.out hgw _ _).trans hrow
      obtain ⟨n1, n2, n3, n4, n5⟩ := new_dig w' P hPl
      have B1 := Lib.hid (hb0.out.alloc hb0.out.size (.cells (dgV P) 25))
      have hs1 : ∀ w, (Instr.sliceAt 22 (.slice (some ⟨g, off, none⟩) (r + 1) cap) none (some (.int .i64 r)) none).run Tryd.prog w = .ok (.slice (some ⟨g, off, none⟩) r cap) w := fun w => run_slice_to _ _ 32 Tryd.underlying22 size_dig g off (r + 1) cap r (by omega) k1 w
      unfold zD at n1 n2
      clear hrow
      by_cases hik : i < k
      · go_wp2_with fail
        clear n1 n2
        have hc1 : rowAt (w'.alloc (.cells (dgV P) 25)) w.heap.size 0 32 = some (dgV l) := by rw [rowAt_alloc_past _ _ _ _ _ (by omega)]; exact hc0
        have hd1 : Hid ((w'.alloc (.cells (dgV P) 25)).heap[w.heap.size + 1]? = some (.cells zD 25 (0, 0))) := by show _ = _; rw [Below.heap_alloc _ _ _ (by omega)]; exact hd0.out
        have hz2 : w.heap.size + 2 < (w'.alloc (.cells (dgV P) 25)).heap.size := by simp; omega
        have hz1 : w.heap.size + 1 < (w'.alloc (.cells (dgV P) 25)).heap.size := by omega
        rw [hs0] at n5
        generalize w'.alloc (.cells (dgV P) 25) = wb at B1 n5 hc1 hd1 hz1 hz2 ⊢
        have hc2 : rowAt wb.drew w.heap.size 0 32 = some (dgV l) := hc1
        have n5d : rowAt wb.drew (w.heap.size + 2) 0 32 = some (dgV P) := n5
        clear hc0 hrow2
        have hsd : sidesM i n = true :: sidesM i k := by rw [sidesM_left i n h2 hn (by rw [HK.out]; exact hik), HK.out]
        have hrl : r = (sidesM i k).length := by have e := HM.out; rw [hsd] at e; simpa using e
        have hfin : foldM l (sidesM i n).reverse ps = (if true then nodeM (foldM l (sidesM i k).reverse rs) P else nodeM P (foldM l (sidesM i k).reverse rs)) := by
          rw [hsd, HLAST.out, List.reverse_cons, foldM_snoc _ _ _ _ _ (by rw [List.length_reverse, ← hrl, l1])]
        simp only [Bool.false_eq_true, if_true, if_false] at hfin
        have hXl := foldM_length l (sidesM i k).reverse rs hl
        have HC := Lib.hid (fun w9 (hb9 : Below wb.heap.size wb w9) => ih l hl k i _ r rs m1 w9 (by omega) (rd_belowB R1.out (B1.out.trans (hb9.mono B1.out.size)) (Nat.le_refl _)) l1 (by omega) (by omega) (by omega) hrl)
        obtain ⟨X, hX⟩ : ∃ X, foldM l (sidesM i k).reverse rs = X := ⟨_, rfl⟩
        rw [hX] at hfin hXl HC
        have hYl := foldM_length l (sidesM i n).reverse ps hl
        obtain ⟨Y, hY⟩ : ∃ Y, foldM l (sidesM i n).reverse ps = Y := ⟨_, rfl⟩
        rw [hY] at hfin hYl
        have HFIN := Lib.hid hfin; have HY := Lib.hid hY
        have hsX : (dgV X).size = 32 := by rw [dgV_size, hXl]
        have hsY : (dgV Y).size = 32 := by rw [dgV_size, hYl]
        have hplY : plainCells (dgV Y) = true := dgV_plain _
        clear hsd hrl hfin hX hY
        
        go_region_law (go_simp; first
          | (go_at_call 36
             with_reducible refine Calls.mono (HC.out _ (Below.refl _ _).drew) ?_
             rintro e w2 ⟨rfl, hb2⟩
             have E2 := Lib.hid ((Below.refl wb.heap.size wb).drew.trans hb2)
             have n6 : rowAt w2 (w.heap.size + 2) 0 32 = some (dgV P) := (rowAt_below E2.out hz2 0 32).trans n5
             clear hb2)
          | (go_at_call 37
             refine (rnode_any X P hXl hPl _).mono ?_
             rintro e w3 ⟨rfl, hb3⟩
             rw [← HFIN.out]
             have E3 := Lib.hid (E2.out.trans (hb3.mono E2.out.size)); clear hb3
             have hd3 : w3.heap[w.heap.size + 1]? = some (.cells zD 25 (0, 0)) := (E3.out.block _ hz1).trans hd1.out
             have hrw : (rowAt w3 (w.heap.size + 1) 0 32).isSome = true := by rw [rowAt_whole hd3 32 rfl]; rfl
             have hrg := wrAt_of_heap hd3
             have hst := run_storeCells_put (P := Tryd.prog) w3 (w.heap.size + 1) 0 (dgV Y) hplY (by rw [hsY]; exact hrw) hrg
             have HD3 := Lib.hid hd3; clear hd3))
        all_goals
          go_wp2
          refine bodyPost_ret (v := .agg (dgV Y)) (results_cell_at rfl _ _ (w.heap.size + 1) 0 _ rfl agg_digest ?_) rfl ⟨by rw [HY.out], ?_⟩
          · rw [cells_digest]; exact rowAt_put_same HD3.out (dgV Y) (by rw [hsY]; rfl) 32 hsY.symm
          · exact putAt_below (B1.out.trans (E3.out.mono B1.out.size)) (by omega) _ _
      · go_wp2_with fail
        clear n1 n2
        have hc1 : rowAt (w'.alloc (.cells (dgV P) 25)) w.heap.size 0 32 = some (dgV l) := by rw [rowAt_alloc_past _ _ _ _ _ (by omega)]; exact hc0
        have hd1 : Hid ((w'.alloc (.cells (dgV P) 25)).heap[w.heap.size + 1]? = some (.cells zD 25 (0, 0))) := by show _ = _; rw [Below.heap_alloc _ _ _ (by omega)]; exact hd0.out
        have hz2 : w.heap.size + 2 < (w'.alloc (.cells (dgV P) 25)).heap.size := by simp; omega
        have hz1 : w.heap.size + 1 < (w'.alloc (.cells (dgV P) 25)).heap.size := by omega
        rw [hs0] at n5
        generalize w'.alloc (.cells (dgV P) 25) = wb at B1 n5 hc1 hd1 hz1 hz2 ⊢
        have hc2 : rowAt wb.drew w.heap.size 0 32 = some (dgV l) := hc1
        have n5d : rowAt wb.drew (w.heap.size + 2) 0 32 = some (dgV P) := n5
        clear hc0 hrow2
        have hik2 : (i : Int) - (k : Int) = ((i - k : Nat) : Int) := by omega
        have hnk2 : (n : Int) - (k : Int) = ((n - k : Nat) : Int) := by omega
        have hsd : sidesM i n = false :: sidesM (i - k) (n - k) := by rw [sidesM_right i n h2 hn (by rw [HK.out]; exact hik), HK.out]
        have hrl : r = (sidesM (i - k) (n - k)).length := by have e := HM.out; rw [hsd] at e; simpa using e
        have hfin : foldM l (sidesM i n).reverse ps = (if false then nodeM (foldM l (sidesM (i - k) (n - k)).reverse rs) P else nodeM P (foldM l (sidesM (i - k) (n - k)).reverse rs)) := by
          rw [hsd, HLAST.out, List.reverse_cons, foldM_snoc _ _ _ _ _ (by rw [List.length_reverse, ← hrl, l1])]
        simp only [Bool.false_eq_true, if_true, if_false] at hfin
        have hXl := foldM_length l (sidesM (i - k) (n - k)).reverse rs hl
        have hC := (fun w9 (hb9 : Below wb.heap.size wb w9) => ih l hl (n - k) (i - k) _ r rs m1 w9 (by omega) (rd_belowB R1.out (B1.out.trans (hb9.mono B1.out.size)) (Nat.le_refl _)) l1 (by omega) (by omega) (by omega) hrl)
        rw [show ((i - k : Nat) : Int) = IntKind.i64.wrap ((i : Int) - (k : Int)) from by rw [IntKind.wrap_i64]; omega, show ((n - k : Nat) : Int) = IntKind.i64.wrap ((n : Int) - (k : Int)) from by rw [IntKind.wrap_i64]; omega] at hC
        have HC := Lib.hid hC
        clear hik2 hnk2 hC
        obtain ⟨X, hX⟩ : ∃ X, foldM l (sidesM (i - k) (n - k)).reverse rs = X := ⟨_, rfl⟩
        rw [hX] at hfin hXl HC
        have hYl := foldM_length l (sidesM i n).reverse ps hl
        obtain ⟨Y, hY⟩ : ∃ Y, foldM l (sidesM i n).reverse ps = Y := ⟨_, rfl⟩
        rw [hY] at hfin hYl
        have HFIN := Lib.hid hfin; have HY := Lib.hid hY
        have hsX : (dgV X).size = 32 := by rw [dgV_size, hXl]
        have hsY : (dgV Y).size = 32 := by rw [dgV_size, hYl]
        have hplY : plainCells (dgV Y) = true := dgV_plain _
        clear hsd hrl hfin hX hY
        
        go_region_law (go_simp; first
          | (go_at_call 36
             with_reducible refine Calls.mono (HC.out _ (Below.refl _ _).drew) ?_
             rintro e w2 ⟨rfl, hb2⟩
             have E2 := Lib.hid ((Below.refl wb.heap.size wb).drew.trans hb2)
             have n6 : rowAt w2 (w.heap.size + 2) 0 32 = some (dgV P) := (rowAt_below E2.out hz2 0 32).trans n5
             clear hb2)
          | (go_at_call 37
             refine (rnode_any P X hPl hXl _).mono ?_
             rintro e w3 ⟨rfl, hb3⟩
             rw [← HFIN.out]
             have E3 := Lib.hid (E2.out.trans (hb3.mono E2.out.size)); clear hb3
             have hd3 : w3.heap[w.heap.size + 1]? = some (.cells zD 25 (0, 0)) := (E3.out.block _ hz1).trans hd1.out
             have hrw : (rowAt w3 (w.heap.size + 1) 0 32).isSome = true := by rw [rowAt_whole hd3 32 rfl]; rfl
             have hrg := wrAt_of_heap hd3
             have hst := run_storeCells_put (P := Tryd.prog) w3 (w.heap.size + 1) 0 (dgV Y) hplY (by rw [hsY]; exact hrw) hrg
             have HD3 := Lib.hid hd3; clear hd3))
        all_goals
          go_wp2
          refine bodyPost_ret (v := .agg (dgV Y)) (results_cell_at rfl _ _ (w.heap.size + 1) 0 _ rfl agg_digest ?_) rfl ⟨by rw [HY.out], ?_⟩
          · rw [cells_digest]; exact rowAt_put_same HD3.out (dgV Y) (by rw [hsY]; rfl) 32 hsY.symm
          · exact putAt_below (B1.out.trans (E3.out.mono B1.out.size)) (by omega) _ _
    · obtain rfl : n = 1 := by omega
      have hps : ps = [] := by
        have e := HM.out
        rw [sidesM_one i 1 (by omega)] at e
        exact List.eq_nil_of_length_eq_zero (by rw [hpl, e]; rfl)
      have hfin : foldM l (sidesM i 1).reverse ps = l := by rw [hps, sidesM_one i 1 (by omega)]; rfl
      have HFIN := Lib.hid hfin; clear hfin
      have hrw : (rowAt ((w.alloc (.cells (dgV l) 25)).alloc (.cells zD 25)) (w.heap.size + 1) 0 32).isSome = true := by rw [rowAt_whole hd0.out 32 rfl]; rfl
      have hrg := wrAt_of_heap hd0.out
      unfold zD at hc0 hrw hrg
      go_enter Tryd.func36, Tryd.ntmps36
      go_wp2
      refine bodyPost_ret (v := .agg (dgV l)) (results_cell_at rfl _ _ (w.heap.size + 1) 0 _ rfl agg_digest ?_) rfl ⟨by rw [HFIN.out], ?_⟩
      · rw [cells_digest]
        exact rowAt_whole (by have := heap_alloc_new (w.alloc (.cells (dgV l) 25)) (.cells (dgV l) 25); rwa [show (w.alloc (.cells (dgV l) 25)).heap.size = w.heap.size + 1 from by simp] at this) 32 hsl.symm
      · exact ((Below.refl _ _).alloc (Nat.le_refl _) _).alloc (by simp) _
end Go.Proofs.YtamjldakllafcaaDoor
