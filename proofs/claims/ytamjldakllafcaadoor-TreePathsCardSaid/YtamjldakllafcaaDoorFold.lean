/- The walks of tree's sides and Fold. Conditions: none beyond each theorem's own. -/
import Derived.Test.YtamjldakllafcaaDoorPath
import Derived.Test.YtamjldakllafcaaDoorNew
import Derived.Test.YtamjldakllafcaaDoorRevb
namespace Go.Proofs.YtamjldakllafcaaDoor
set_option linter.unusedVariables false
set_option linter.unusedSimpArgs false
open Go.RowKit
attribute [local go_sem ↓] run_load_agg run_store_agg run_build_two

theorem info_bool : (Tryd.prog.info? 4).map (fun i => (i.zero, i.size, i.bytes)) = some (some (.bool false), 1, 1) := by kernel_rfl
theorem sidesM_bound : ∀ (N i n : Nat), n ≤ N → 1 ≤ n → (sidesM i n).length + 1 ≤ n := by
  intro N
  induction N with
  | zero => intro i n h h1; omega
  | succ N ih =>
    intro i n h h1
    rw [sidesM]
    split
    · rename_i hh
      split
      · have := ih i (halfM n) (by omega) (by omega); simp only [List.length_cons]; omega
      · have := ih (i - halfM n) (n - halfM n) (by omega) (by omega); simp only [List.length_cons]; omega
    · simp; omega
set_option maxHeartbeats 1000000 in
set_option maxRecDepth 100000 in
theorem sides_any (n i : Nat) (w : World) (h1 : 1 ≤ n) (hn : n ≤ 256) (hi : i < n) :
    Calls Tryd.prog 52 #[.int .i64 i, .int .i64 n] w fun e w' => ∃ v k, e = .returned v ∧ own w' w.heap.size 4 1 v k ((sidesM i n).map bV) ∧ k = (sidesM i n).length ∧ Below w.heap.size w w' := by
  obtain ⟨i0, hi0, hz0, hz1, hz2⟩ := info_parts' info_bool
  go_enter Tryd.func52, Tryd.ntmps52
  go_wp2
  go_loopg [0, 1, 4] n (fun t s0 s1 s2 wr => ∃ (m cur cnt : Nat) (acc : List Bool), s0 = .int .i64 cur ∧ s1 = .int .i64 m ∧ m ≤ t ∧ m ≤ n ∧ cur < m ∧ own wr w.heap.size 4 1 s2 cnt (acc.map bV) ∧ acc.length = cnt ∧ cnt + m ≤ n ∧ sidesM i n = acc ++ sidesM cur m ∧ Below w.heap.size w wr)
  case atStart => exact ⟨n, i, 0, [], rfl, rfl, Nat.le_refl _, Nat.le_refl _, hi, own_nil _ _ _ _, rfl, by omega, by simp, Below.refl _ _⟩
  case round =>
    obtain ⟨m, cur, cnt, acc, rfl, rfl, hmt, hm, hcur, ho, hacc, hcnt, hsd, hB⟩ := hrel
    have HO := Lib.hid ho; have HD := Lib.hid hsd; have B0 := Lib.hid hB; clear ho hsd hB
    by_cases h2 : 2 ≤ m
    · obtain ⟨hh1, hh2, -⟩ := halfM_bounds m h2 (by omega)
      have HH := Lib.hid (half_any m h2 (by omega))
      obtain ⟨k, hk⟩ : ∃ k, halfM m = k := ⟨_, rfl⟩
      rw [hk] at hh1 hh2 HH
      have HK := Lib.hid hk; clear hk
      go_wp2_with fail
      refine (HH.out wr).mono ?_
      rintro e w1 ⟨rfl, rfl⟩
      by_cases hc : cur < k
      · have HN := Lib.hid (rd_new1 w1 (bV true) 4 _ rfl)
        have HO2 := Lib.hid (own_alloc HO.out (.cells #[bV true] 4))
        have B2 := Lib.hid (B0.out.alloc B0.out.size (.cells #[bV true] 4))
        go_wp2_with (at_builtin; refine wpList_append_rd rfl (.tmp 10) (.tmp 14) 79 rfl 4 i0 (.bool false) 1 1 Tryd.underlying79 hi0 hz0 hz1 hz2 rfl (by decide) w.heap.size cnt _ HO2.out 1 [bV true] ?c1 HN.out ?c5 ?c2 ?c3 ?c4 ?_)
        case c1 => rfl
        case c5 => intro u hu; rw [List.mem_singleton.1 hu]; rfl
        case c2 => unfold maxLen; omega
        case c3 => omega
        case c4 => exact B2.out.size
        intro v1 w2 ho1 _ hg1
        have B3 := Lib.hid (B2.out.grown hg1 B2.out.size (fun q hq => (own_lt HO2.out hq).1))
        have HO3 := Lib.hid ho1; clear ho1 hg1
        go_wp2_with fail
        go_roundg (k)
        case measure => omega
        case rel =>
          refine ⟨k, cur, cnt + 1, acc ++ [true], by go_num, by go_num, Nat.le_refl _, by omega, by omega, ?_, by simp [hacc], by omega, ?_, B3.out⟩
          · have e := HO3.out
            have e2 : (acc ++ [true]).map bV = acc.map bV ++ [bV true] := by simp
            rw [e2]; exact e
          · rw [HD.out, sidesM_left cur m (by omega) (by omega) (by rw [HK.out]; exact hc), HK.out]; simp
      · have HN := Lib.hid (rd_new1 w1 (bV false) 4 _ rfl)
        have HO2 := Lib.hid (own_alloc HO.out (.cells #[bV false] 4))
        have B2 := Lib.hid (B0.out.alloc B0.out.size (.cells #[bV false] 4))
        go_wp2_with (at_builtin; refine wpList_append_rd rfl (.tmp 10) (.tmp 14) 79 rfl 4 i0 (.bool false) 1 1 Tryd.underlying79 hi0 hz0 hz1 hz2 rfl (by decide) w.heap.size cnt _ HO2.out 1 [bV false] ?c1 HN.out ?c5 ?c2 ?c3 ?c4 ?_)
        case c1 => rfl
        case c5 => intro u hu; rw [List.mem_singleton.1 hu]; rfl
        case c2 => unfold maxLen; omega
        case c3 => omega
        case c4 => exact B2.out.size
        intro v1 w2 ho1 _ hg1
        have B3 := Lib.hid (B2.out.grown hg1 B2.out.size (fun q hq => (own_lt HO2.out hq).1))
        have HO3 := Lib.hid ho1; clear ho1 hg1
        go_wp2_with fail
        go_roundg (m - k)
        case measure => omega
        case rel =>
          refine ⟨m - k, cur - k, cnt + 1, acc ++ [false], by go_num, by go_num, Nat.le_refl _, by omega, by omega, ?_, by simp [hacc], by omega, ?_, B3.out⟩
          · have e := HO3.out
            have e2 : (acc ++ [false]).map bV = acc.map bV ++ [bV false] := by simp
            rw [e2]; exact e
          · rw [HD.out, sidesM_right cur m (by omega) (by omega) (by rw [HK.out]; exact hc), HK.out]; simp
    · have hdn : sidesM i n = acc := by rw [HD.out, sidesM_one _ _ (by omega), List.append_nil]
      have HDN := Lib.hid hdn; clear hdn
      go_wp2
      go_ret
      exact ⟨_, _, rfl, by rw [HDN.out]; exact HO.out, by rw [HDN.out]; exact hacc.symm, B0.out⟩
/-- What stands in a round of Fold. -/
structure FoldI (w w2 : World) (base : Nat) (lv : Value) (k : Nat) (S : List Bool) (X : List UInt8) (wr : World) : Prop where
  below : Below w.heap.size w wr
  size : w2.heap.size ≤ wr.heap.size
  c : wr.heap[w.heap.size]? = some (.cells (dgV X) 25 (0, 0))
  d : wr.heap[w.heap.size + 1]? = some (.cells zD 25 (0, 0))
  left : own wr base 4 1 lv k (S.map bV)
theorem FoldI.on {w w2 : World} {base : Nat} {lv : Value} {k : Nat} {S : List Bool} {X : List UInt8} {wr w' : World} (h : FoldI w w2 base lv k S X wr) (h2 : w.heap.size + 2 ≤ w2.heap.size) (hb : Below wr.heap.size wr w') : FoldI w w2 base lv k S X w' :=
  ⟨h.below.trans (hb.mono h.below.size), Nat.le_trans h.size hb.size, (hb.block _ (by have := h.size; omega)).trans h.c, (hb.block _ (by have := h.size; omega)).trans h.d, own_below hb h.left (Nat.le_refl _)⟩
theorem FoldI.put {w w2 : World} {base : Nat} {lv : Value} {k : Nat} {S : List Bool} {X Y : List UInt8} {wr : World} (h : FoldI w w2 base lv k S X wr) (hb : w.heap.size < base) (hX : X.length = 32) (hY : Y.length = 32) : FoldI w w2 base lv k S Y (putAt wr w.heap.size 0 (dgV Y)) :=
  ⟨putAt_below h.below (Nat.le_refl _) _ _, by rw [putAt_size]; exact h.size, putAt_heap h.c _ (by rw [dgV_size, dgV_size, hX, hY]), by rw [putAt_other _ _ _ _ _ (by omega)]; exact h.d,
    own_kept h.left fun q hq hq2 _ => putAt_other _ _ _ _ _ (by omega)⟩
theorem foldM_length (l : List UInt8) (bs : List Bool) (ps : List (List UInt8)) (hl : l.length = 32) : (foldM l bs ps).length = 32 := by
  induction bs generalizing l ps with
  | nil => simpa [foldM] using hl
  | cons b bs ih =>
    cases ps with
    | nil => simpa [foldM] using hl
    | cons p ps =>
      rw [foldM]
      refine ih _ ps ?_
      split <;> exact nodeM_length _ _
set_option maxHeartbeats 1000000 in
set_option maxRecDepth 100000 in
theorem fold_any (l : List UInt8) (hl : l.length = 32) (n i : Nat) (v : Value) (m : Nat) (ps : List (List UInt8)) (h32 : ∀ d ∈ ps, d.length = 32) (w : World) (hr : rd w v m (ps.flatten.map vB)) (hpl : ps.length = m) (h1 : 1 ≤ n) (hn : n ≤ 256) (hi : i < n)
    (hm : m = (sidesM i n).length) (hT : tabAt w) :
    Calls Tryd.prog 22 #[.agg (dgV l), .int .i64 i, .int .i64 n, v] w fun e w' => e = .returned (.tuple #[.agg (dgV (foldM l (sidesM i n).reverse ps)), .nilIface]) ∧ Below w.heap.size w w' := by
  have hr' := hr
  obtain ⟨ao, cap, rfl, k1, k2, -⟩ := hr'
  unfold maxLen at k2
  have HR := Lib.hid hr; clear hr
  have HT := Lib.hid hT; clear hT
  have hni : ¬ n ≤ i := by omega
  have HM := Lib.hid hm; clear hm
  have hg0 := rowAt_lt HT.out
  have hb0 : Hid (Below w.heap.size w ((w.alloc (.cells (dgV l) 25)).alloc (.cells zD 25))) := ((Below.refl _ _).alloc (Nat.le_refl _) _).alloc (by simp) _
  have hc0 : Hid (((w.alloc (.cells (dgV l) 25)).alloc (.cells zD 25)).heap[w.heap.size]? = some (.cells (dgV l) 25 (0, 0))) := by
    show _ = _
    rw [Below.heap_alloc _ _ _ (by simp)]; exact heap_alloc_new w _
  have hd0 : Hid (((w.alloc (.cells (dgV l) 25)).alloc (.cells zD 25)).heap[w.heap.size + 1]? = some (.cells zD 25 (0, 0))) := by
    have := heap_alloc_new (w.alloc (.cells (dgV l) 25)) (.cells zD 25)
    rwa [show (w.alloc (.cells (dgV l) 25)).heap.size = w.heap.size + 1 from by simp] at this
  have hs0 : ((w.alloc (.cells (dgV l) 25)).alloc (.cells zD 25)).heap.size = w.heap.size + 2 := by simp
  go_enter Tryd.func22, Tryd.ntmps22
  go_wp2_with fail
  change Calls _ _ _ ((w.alloc (.cells (dgV l) 25)).alloc (.cells zD 25)) _
  generalize (w.alloc (.cells (dgV l) 25)).alloc (.cells zD 25) = wa at hb0 hc0 hd0 hs0 ⊢
  refine (sides_any n i wa h1 hn hi).mono ?_
  rintro e w1 ⟨lv, k, rfl, ho1, hk, hb1⟩
  rw [← HM.out] at hk
  subst hk
  have ho1' := ho1
  obtain ⟨-, lo, lcap, rfl, l1, l2, -⟩ := ho1'
  unfold maxLen at l2
  obtain ⟨S, hS⟩ : ∃ S, sidesM i n = S := ⟨_, rfl⟩
  have hSl : S.length = k := by rw [← hS]; exact HM.out.symm
  rw [hS] at ho1
  have HS := Lib.hid hS
  have HO1 := Lib.hid ho1; have B1 := Lib.hid (hb0.out.trans (hb1.mono hb0.out.size))
  have hc1 : Hid (w1.heap[w.heap.size]? = some (.cells (dgV l) 25 (0, 0))) := (hb1.block _ (by omega)).trans hc0.out
  have hd1 : Hid (w1.heap[w.heap.size + 1]? = some (.cells zD 25 (0, 0))) := (hb1.block _ (by omega)).trans hd0.out
  have hs1 := hb1.size
  clear ho1 hb1 hS
  have hk256 : k ≤ 256 := by
    have e1 := sidesM_bound n i n (Nat.le_refl _) h1
    have e2 := HM.out
    omega
  go_wp2_with fail
  refine (revb_any wa.heap.size S _ k w1 HO1.out hSl (by omega)).mono ?_
  rintro e w2 ⟨rfl, ho2, hg2⟩
  have B2 := Lib.hid (B1.out.grown hg2 B1.out.size (fun q hq => by have := (own_lt HO1.out hq).1; omega))
  have hc2 : Hid (w2.heap[w.heap.size]? = some (.cells (dgV l) 25 (0, 0))) := (hg2.block _ (by omega) (fun e => by have := (own_lt HO1.out e.symm).1; omega)).trans hc1.out
  have hd2 : Hid (w2.heap[w.heap.size + 1]? = some (.cells zD 25 (0, 0))) := (hg2.block _ (by omega) (fun e => by have := (own_lt HO1.out e.symm).1; omega)).trans hd1.out
  have hs2 := hg2.size
  have HO2 := Lib.hid ho2; clear ho2 hg2 HO1 B1 hc1 hd1
  go_wp2_with fail
  have hI := Lib.hid (⟨B2.out, Nat.le_refl _, hc2.out, hd2.out, HO2.out⟩ : FoldI w w2 wa.heap.size (.slice lo k lcap) k S.reverse l w2)
  obtain ⟨Z, hZ⟩ : ∃ Z, S.reverse = Z := ⟨_, rfl⟩
  have hZl : Z.length = k := by rw [← hZ]; simpa using hSl
  rw [hZ] at hI
  have HZ := Lib.hid hZ
  clear hZ hc2 hd2 HO2 B2
  go_loopw [44] (fun c wr => ∃ j : Nat, j ≤ k ∧ c = .int .i64 j ∧ FoldI w w2 wa.heap.size (.slice lo k lcap) k Z (foldM l (Z.take j) (ps.take j)) wr) (fun c _ => k - (intOf c).toNat)
  case atStart => exact ⟨0, by omega, rfl, by simpa [foldM] using hI.out⟩
  case round =>
    obtain ⟨j, hjk, rfl, hF⟩ := hrel
    by_cases hj : j < k
    · obtain ⟨g, off, rfl, hrows⟩ := rd_digest h32 hpl HR.out (by omega)
      have hrow := hrows j hj
      clear hrows
      have hPl := getD_len h32 (i := j) (by omega)
      obtain ⟨P, hP⟩ : ∃ P, ps.getD j [] = P := ⟨_, rfl⟩
      rw [hP] at hrow hPl
      have hgw := rowAt_lt hrow
      have hrow2 : rowAt wr g (off + j * 32) 32 = some (dgV P) := by
        rw [Nat.mul_comm]; exact (rowAt_below hF.below hgw _ _).trans hrow
      have hXl := foldM_length l (Z.take j) (ps.take j) hl
      obtain ⟨X, hX⟩ : ∃ X, foldM l (Z.take j) (ps.take j) = X := ⟨_, rfl⟩
      rw [hX] at hF hXl
      obtain ⟨b, hb⟩ : ∃ b, Z[j]? = some b := ⟨_, List.getElem?_eq_getElem (by omega)⟩
      have hstep : foldM l (Z.take (j + 1)) (ps.take (j + 1)) = if b then nodeM X P else nodeM P X := by
        have e1 : Z.take (j + 1) = Z.take j ++ [b] := by rw [List.take_add_one, hb]; rfl
        have e2 : ps.take (j + 1) = ps.take j ++ [P] := by
          rw [List.getD_eq_getElem?_getD, List.getElem?_eq_getElem (by omega), Option.getD_some] at hP
          rw [List.take_add_one, List.getElem?_eq_getElem (by omega), hP]; rfl
        rw [e1, e2, foldM_snoc _ _ _ _ _ (by simp; omega), hX]
      have HST := Lib.hid hstep; have HX := Lib.hid hX; have HP := Lib.hid hP
      clear hstep hX hP hrow
      obtain ⟨n1, n2, n3, n4, n5⟩ := new_dig wr P hPl
      have HF1 := Lib.hid (hF.on (by omega) ((Below.refl _ _).alloc (Nat.le_refl _) (.cells (dgV P) 25)))
      have hz := hF.size
      have HF := Lib.hid hF; clear hF
      obtain ⟨_, _, e1, -, -, e3⟩ := own_rd HF1.out.left
      cases e1
      rcases e3 with e3 | ⟨lg, loff, rfl, e3⟩
      · have := congrArg List.length e3; rw [List.length_map, List.length_nil] at this; omega
      have hcell := e3 j (bV b) (by rw [List.getElem?_map, hb]; rfl)
      unfold bV at hcell
      have hcX : rowAt (wr.alloc (.cells (dgV P) 25)) w.heap.size 0 32 = some (dgV X) := rowAt_whole HF1.out.c 32 (by rw [dgV_size, hXl])
      have hXs : (dgV X).size = 32 := by rw [dgV_size, hXl]
      have HE := Lib.hid hb
      clear e3 hb
      unfold zD at n1 n2
      cases b
      · go_wp2_with fail
        refine (node_any P X hPl hXl _ ((rowAt_below HF1.out.below hg0 0 64).trans HT.out)).mono ?_
        rintro e w3 ⟨rfl, hb3⟩
        have HF3 := Lib.hid (HF1.out.on (by omega) hb3)
        obtain ⟨Y, hY⟩ : ∃ Y, nodeM P X = Y := ⟨_, rfl⟩
        have hYl : Y.length = 32 := by rw [← hY]; exact nodeM_length _ _
        rw [hY]
        have HY := Lib.hid hY; clear hY hb3
        have m1 : (rowAt w3 w.heap.size 0 32).isSome = true := by rw [rowAt_whole HF3.out.c 32 (by rw [dgV_size, hXl])]; rfl
        have m2 : wrAt w3 w.heap.size = true := wrAt_of_heap HF3.out.c
        have m3 : plainCells (dgV Y) = true := dgV_plain _
        have m4 : (dgV Y).size = 32 := by rw [dgV_size, hYl]
        go_wp2
        go_roundw
        case rel => exact ⟨j + 1, by omega, by go_num, by rw [HST.out]; simp only [Bool.false_eq_true, if_true, if_false]; rw [HY.out]; exact HF3.out.put (by omega) hXl hYl⟩
        case measure => simp [intOf]; omega
      · go_wp2_with fail
        refine (node_any X P hXl hPl _ ((rowAt_below HF1.out.below hg0 0 64).trans HT.out)).mono ?_
        rintro e w3 ⟨rfl, hb3⟩
        have HF3 := Lib.hid (HF1.out.on (by omega) hb3)
        obtain ⟨Y, hY⟩ : ∃ Y, nodeM X P = Y := ⟨_, rfl⟩
        have hYl : Y.length = 32 := by rw [← hY]; exact nodeM_length _ _
        rw [hY]
        have HY := Lib.hid hY; clear hY hb3
        have m1 : (rowAt w3 w.heap.size 0 32).isSome = true := by rw [rowAt_whole HF3.out.c 32 (by rw [dgV_size, hXl])]; rfl
        have m2 : wrAt w3 w.heap.size = true := wrAt_of_heap HF3.out.c
        have m3 : plainCells (dgV Y) = true := dgV_plain _
        have m4 : (dgV Y).size = 32 := by rw [dgV_size, hYl]
        go_wp2
        go_roundw
        case rel => exact ⟨j + 1, by omega, by go_num, by rw [HST.out]; simp only [Bool.false_eq_true, if_true, if_false]; rw [HY.out]; exact HF3.out.put (by omega) hXl hYl⟩
        case measure => simp [intOf]; omega
    · obtain rfl : j = k := by omega
      rw [List.take_of_length_le (by omega), List.take_of_length_le (by omega)] at hF
      have hXl := foldM_length l Z ps hl
      have hfin : foldM l (sidesM i n).reverse ps = foldM l Z ps := by rw [HS.out, HZ.out]
      obtain ⟨X, hX⟩ : ∃ X, foldM l Z ps = X := ⟨_, rfl⟩
      rw [hX] at hF hXl hfin
      have HFI := Lib.hid hfin; clear hfin hX
      have hcX : rowAt wr w.heap.size 0 32 = some (dgV X) := rowAt_whole hF.c 32 (by rw [dgV_size, hXl])
      have m1 : (rowAt wr (w.heap.size + 1) 0 32).isSome = true := by rw [rowAt_whole hF.d 32 rfl]; rfl
      have m2 : wrAt wr (w.heap.size + 1) = true := wrAt_of_heap hF.d
      have m3 : plainCells (dgV X) = true := dgV_plain _
      have m4 : (dgV X).size = 32 := by rw [dgV_size, hXl]
      have HF := Lib.hid hF; clear hF
      go_wp2
      refine bodyPost_ret (v := .tuple #[.agg (dgV X), .nilIface]) (results_cell_tmp_at rfl _ _ (w.heap.size + 1) 0 _ _ rfl rfl agg_digest ?_) rfl ⟨by rw [HFI.out], ?_⟩
      · rw [cells_digest]; exact rowAt_put_same HF.out.d (dgV X) (by rw [m4]; rfl) 32 m4.symm
      · exact putAt_below HF.out.below (by omega) _ _
end Go.Proofs.YtamjldakllafcaaDoor
