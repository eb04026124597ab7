/- The walk of the reference's Sum. Conditions: none beyond each theorem's own. -/
import Derived.Test.YtamjldakllafcaaDoorRefB
namespace Go.Proofs.YtamjldakllafcaaDoor
set_option linter.unusedVariables false
set_option linter.unusedSimpArgs false
open Go.RowKit
attribute [local go_sem ↓] run_load_agg run_store_agg

theorem SmI.below' {w wr w' : World} (h : SmI w wr) (hb : Below wr.heap.size wr w') : SmI w w' :=
  ⟨h.below.trans (hb.mono h.below.size), (hb.block _ (Array.getElem?_eq_some_iff.1 h.d0).1).trans h.d0⟩
theorem rpad_more (n j : Nat) (h : j < (119 - n % 64) % 64) : (((n + 1 + j : Nat) : Int) % 64 != 56) = true := by
  rw [bne_iff_ne]; omega
theorem rpad_done (n j : Nat) (h : j = (119 - n % 64) % 64) : (((n + 1 + j : Nat) : Int) % 64 != 56) = false := by
  rw [bne_eq_false_iff_eq]; omega
theorem putM_len (n : Nat) : putM (n * 8) 8 = (List.range 8).map (lenByte n) := by
  unfold putM lenByte
  apply List.map_congr_left
  intro j hj
  have hj : j < 8 := List.mem_range.1 hj
  have : (256 : Nat) ^ (8 - 1 - j) = 2 ^ (8 * (7 - j)) := by
    rw [Nat.pow_mul]
  rw [this]
theorem iI (x : UInt32) (n : Int) (h : wv x = n) : iV x = .int .i64 n := by unfold iV; rw [h]
theorem stI0 : stI St0 = [.int .i64 1779033703, .int .i64 3144134277, .int .i64 1013904242, .int .i64 2773480762, .int .i64 1359893119, .int .i64 2600822924, .int .i64 528734635, .int .i64 1541459225] := by
  unfold stI St0
  rw [iI _ 1779033703 (by decide), iI _ 3144134277 (by decide), iI _ 1013904242 (by decide), iI _ 2773480762 (by decide), iI _ 1359893119 (by decide), iI _ 2600822924 (by decide), iI _ 528734635 (by decide), iI _ 1541459225 (by decide)]
set_option maxHeartbeats 2000000 in
set_option maxRecDepth 100000 in
theorem rsum_any (b : List UInt8) (v : Value) (n : Nat) (w : World) (hb : rd w v n (b.map vB)) (hl : b.length = n) (hn : n ≤ 140737488353000) :
    Calls Tryd.prog 16 #[v] w fun e w' => e = .returned (.agg (dgV (shaM b))) ∧ Below w.heap.size w w' := by
  have hb' := hb
  obtain ⟨ao, cap, rfl, k1, k2, -⟩ := hb'
  unfold maxLen at k2
  have HB := Lib.hid hb; clear hb
  have HL := Lib.hid hl; clear hl
  obtain ⟨i0, hi0, hz0, hz1, hz2⟩ := info_parts info_u8
  have HS0 := Lib.hid ((SmI.start w).alloc (.cells #[] 5))
  have HR0 := Lib.hid (rd_belowB HB.out HS0.out.below (Nat.le_refl _))
  go_enter Tryd.func16, Tryd.ntmps16
  go_wp2_with (at_builtin; refine wpList_append_rd rfl (.tmp 11) (.tmp 12) 32 rfl 5 i0 (.int .u8 0) 1 1 Tryd.underlying32 hi0 hz0 hz1 hz2 rfl (by decide) (w.heap.size + 1) 0 [] (own_empty _ _ _ _ _) n (b.map vB) ?c1 HR0.out (vB_plain _) ?c2 ?c3 ?c4 ?_)
  case c1 => have := HL.out; simp [this]
  case c2 => unfold maxLen; omega
  case c3 => omega
  case c4 => simp
  intro v1 w1 ho1 _ hg1
  have HS1 := Lib.hid (SmI.grown HS0.out hg1 (fun k hk => by cases hk))
  have HO1 := Lib.hid ho1
  clear hg1 ho1
  go_wp2_with (at_builtin; refine wpList_append_rd rfl (.tmp 13) (.tmp 14) 32 rfl 5 i0 (.int .u8 0) 1 1 Tryd.underlying32 hi0 hz0 hz1 hz2 rfl (by decide) (w.heap.size + 1) n (b.map vB) (own_alloc HO1.out _) 1 [vB 128] ?d1 (rd_new1 _ _ _ _ rfl) (vB_plain [128]) ?d2 ?d3 ?d4 ?_)
  case d1 => rfl
  case d2 => unfold maxLen; omega
  case d3 => omega
  case d4 => have := HS1.out.below.size; have := (Array.getElem?_eq_some_iff.1 HS1.out.d0).1; simp; omega
  intro v2 w2 ho2 _ hg2
  have HS2 := Lib.hid (SmI.grown (HS1.out.alloc _) hg2 (fun k hk => own_rows HO1.out k hk))
  have ho2 : own w2 (w.heap.size + 1) 5 1 v2 (n + 1) ((b ++ 128 :: List.replicate 0 0).map vB) := by simpa using ho2
  have HO2 := Lib.hid ho2; clear hg2 ho2 HS1 HO1
  go_wp2_with fail
  go_loopg [3] ((119 - n % 64) % 64) (fun k t wr => ∃ j : Nat, j + k = (119 - n % 64) % 64 ∧ own wr (w.heap.size + 1) 5 1 t (n + 1 + j) ((b ++ 128 :: List.replicate j 0).map vB) ∧ SmI w wr)
  case atStart => exact ⟨0, by omega, HO2.out, HS2.out⟩
  case round =>
    obtain ⟨j, hjk, ho, hS⟩ := hrel
    have ho' := ho
    obtain ⟨-, a3, cap3, rfl, p1, p2, -⟩ := ho'
    unfold maxLen at p2
    have HO := Lib.hid ho; have HSr := Lib.hid hS; clear ho hS
    by_cases hj : j < (119 - n % 64) % 64
    · have hm := rpad_more n j hj
      obtain ⟨N, hN⟩ : ∃ N, n + 1 + j = N := ⟨_, rfl⟩
      have HO3 := HO.out
      rw [hN] at hm p1 HO3
      rw [hN]
      have hNb : N ≤ 140737488354000 := by omega
      have HN := Lib.hid hN; clear hN
      have HO4 := Lib.hid HO3; clear HO3
      go_wp2_with (at_builtin; refine wpList_append_rd rfl (.tmp 20) (.tmp 21) 32 rfl 5 i0 (.int .u8 0) 1 1 Tryd.underlying32 hi0 hz0 hz1 hz2 rfl (by decide) (w.heap.size + 1) N _ (own_alloc HO4.out _) 1 [vB 0] ?f1 (rd_new1 _ _ _ _ rfl) (vB_plain [0]) ?f2 ?f3 ?f4 ?_)
      case f1 => rfl
      case f2 => unfold maxLen; omega
      case f3 => omega
      case f4 => have := HSr.out.below.size; have := (Array.getElem?_eq_some_iff.1 HSr.out.d0).1; simp; omega
      intro v3 w3 ho3 _ hg3
      have HS3 := Lib.hid (SmI.grown (HSr.out.alloc _) hg3 (fun k hk => own_rows HO4.out k hk))
      have HO5 := Lib.hid ho3; clear ho3 hg3
      go_wp2
      go_roundg (gk - 1)
      case rel =>
        refine ⟨j + 1, by omega, ?_, HS3.out⟩
        have e := HO5.out
        have e1 := HN.out
        rw [show n + 1 + (j + 1) = N + 1 from by omega, List.replicate_succ']
        simpa using e
      case measure => omega
    · have hjz : j = (119 - n % 64) % 64 := by omega
      have hm := rpad_done n j hjz
      obtain ⟨N, hN⟩ : ∃ N, n + 1 + j = N := ⟨_, rfl⟩
      have HO3 := HO.out
      rw [hN] at hm p1 HO3
      rw [hN]
      have hNb : N ≤ 140737488354000 := by omega
      obtain ⟨T, hT⟩ : ∃ T, b ++ 128 :: List.replicate j 0 = T := ⟨_, rfl⟩
      rw [hT] at HO3
      have HTT := Lib.hid (show b ++ 128 :: List.replicate (padZ n) 0 = T by rw [← hT, hjz]; rfl)
      have HN := Lib.hid (show n + 1 + padZ n = N by rw [← hN, hjz]; rfl)
      have HO4 := Lib.hid HO3; clear HO3 hjk hT hjz hN
      have hput := put_any (n * 8) 8 wr (by omega) (by omega) (by omega)
      rw [show ((n * 8 : Nat) : Int) = (n : Int) * 8 from by omega, putM_len] at hput
      have HPUT := Lib.hid hput; clear hput
      go_wp2_with fail
      refine HPUT.out.mono ?_
      rintro e w3 ⟨lv, rfl, hol, hb3⟩
      have hor := own_rd hol
      have hor' := hor
      obtain ⟨lo, lcap, rfl, l1, l2, -⟩ := hor'
      unfold maxLen at l2
      have HS3 := Lib.hid (SmI.below' HSr.out hb3)
      have HO5 := Lib.hid (own_below hb3 HO4.out (Nat.le_refl _))
      have HLR := Lib.hid hor
      clear hol hb3 hor
      go_wp2_with (at_builtin; refine wpList_append_rd rfl (.tmp 30) (.tmp 31) 32 rfl 5 i0 (.int .u8 0) 1 1 Tryd.underlying32 hi0 hz0 hz1 hz2 rfl (by decide) (w.heap.size + 1) N _ HO5.out 8 _ ?g1 HLR.out (vB_plain _) ?g2 ?g3 ?g4 ?_)
      case g1 => simp
      case g2 => unfold maxLen; omega
      case g3 => omega
      case g4 => have := HS3.out.below.size; have := (Array.getElem?_eq_some_iff.1 HS3.out.d0).1; omega
      intro v4 w4 ho4 _ hg4
      have HS4 := Lib.hid (SmI.grown HS3.out hg4 (fun k hk => own_rows HO5.out k hk))
      have hP : T.map vB ++ ((List.range 8).map (lenByte n)).map vB = (padM b).map vB := by
        rw [← HTT.out]
        unfold padM padTail
        rw [HL.out]; simp
      have ho4 : own w4 (w.heap.size + 1) 5 1 v4 (N + 8) ((padM b).map vB) := by rw [← hP]; exact ho4
      obtain ⟨M, hM⟩ : ∃ M, N + 8 = M := ⟨_, rfl⟩
      rw [hM] at ho4
      have hML : (padM b).length = M := by have := ho4.1; rw [List.length_map] at this; omega
      have hM64 : M % 64 = 0 := by rw [← hML]; exact padM_mod b
      obtain ⟨P, hPP⟩ : ∃ P, padM b = P := ⟨_, rfl⟩
      rw [hPP] at ho4 hML
      have ho4' := ho4
      obtain ⟨-, mo, mcap, rfl, m1, m2, -⟩ := ho4'
      unfold maxLen at m2
      have hMb : M ≤ 140737488354200 := by omega
      have hwS := HS4.out.d0
      have hws : w.heap.size + 1 ≤ w4.heap.size := (Array.getElem?_eq_some_iff.1 hwS).1
      have HP := Lib.hid hPP; have HML := Lib.hid hML
      have HS5 := Lib.hid (HS4.out.alloc (.cells (stI St0).toArray 3))
      have HO6 := Lib.hid (own_alloc ho4 (.cells (stI St0).toArray 3))
      have hh0 := own_rd (own_lit (w := w4) (base := w.heap.size + 1) (e := 3) (sz := 1) (stI St0).toArray 8 hws (by decide) (by rfl))
      have HH0 := Lib.hid hh0
      clear hg4 ho4 hP hM hPP hML hwS hh0 HS3 HO5 HLR HS0 HR0 HS2 HO2 HO HSr HO4 HTT HN hm
      rw [stI0] at HS5 HO6 HH0
      go_wp2_with fail
      refine (rounds_any _).mono ?_
      rintro e w5 ⟨rfl, rfl⟩
      change Hid (SmI w (w4.alloc (.cells #[.int .i64 1779033703, .int .i64 3144134277, .int .i64 1013904242, .int .i64 2773480762, .int .i64 1359893119, .int .i64 2600822924, .int .i64 528734635, .int .i64 1541459225] 3))) at HS5
      change Hid (own (w4.alloc (.cells #[.int .i64 1779033703, .int .i64 3144134277, .int .i64 1013904242, .int .i64 2773480762, .int .i64 1359893119, .int .i64 2600822924, .int .i64 528734635, .int .i64 1541459225] 3)) _ _ _ _ _ _) at HO6
      have HH1 : Hid (rd (w4.alloc (.cells #[.int .i64 1779033703, .int .i64 3144134277, .int .i64 1013904242, .int .i64 2773480762, .int .i64 1359893119, .int .i64 2600822924, .int .i64 528734635, .int .i64 1541459225] 3)) (.slice (some ⟨w4.heap.size, 0, none⟩) 8 8) 8 (stI St0)) := by
        have e := HH0.out
        rw [stI0]
        exact e
      clear HH0
      generalize w4.alloc (.cells #[.int .i64 1779033703, .int .i64 3144134277, .int .i64 1013904242, .int .i64 2773480762, .int .i64 1359893119, .int .i64 2600822924, .int .i64 528734635, .int .i64 1541459225] 3) = w5 at HS5 HO6 HH1 ⊢
      have HS6 := Lib.hid (HS5.out.alloc (.cells kI 3))
      have HO7 := Lib.hid (own_alloc HO6.out (.cells kI 3))
      have HH2 := Lib.hid (rd_alloc HH1.out (.cells kI 3))
      have HK := Lib.hid (rd_block (heap_alloc_new w5 (.cells kI 3)) 64 kI_size (by decide))
      generalize w5.heap.size = kg at HK ⊢
      generalize w5.alloc (.cells kI 3) = w6 at HS6 HO7 HH2 HK ⊢
      clear HS5 HO6 HH1
      go_wp2_with fail
      go_loopw [6, 8] (fun hv at_ wr => ∃ i : Nat, 64 * i ≤ M ∧ at_ = .int .i64 ((64 * i : Nat) : Int) ∧ rd wr hv 8 (stI (blocksM St0 P i)) ∧ SmI w wr ∧ rd wr (.slice (some ⟨kg, 0, none⟩) 64 64) 64 kI.toList ∧ own wr (w.heap.size + 1) 5 1 (.slice mo M mcap) M (P.map vB)) (fun _ at_ _ => M - (intOf at_).toNat)
      case atStart => exact ⟨0, by omega, rfl, by rw [blocksM_zero]; exact HH2.out, HS6.out, HK.out, HO7.out⟩
      case round =>
        obtain ⟨i, hiM, rfl, hh, hS, hk, ho⟩ := hrel
        obtain ⟨A, hA⟩ : ∃ A, 64 * i = A := ⟨_, rfl⟩
        rw [hA] at hiM ⊢
        have hh' := hh
        obtain ⟨ho_, hcap, rfl, h1, h2, -⟩ := hh'
        unfold maxLen at h2
        by_cases hlt : A < M
        · have hAM : A + 64 ≤ M := by omega
          have hmid := rd_mid (own_rd ho) (by rw [List.length_map]; exact HML.out) A (A + 64) (by omega) (by omega)
          rw [if_neg (by omega), show A + 64 - A = 64 from by omega, Nat.mul_one, ← List.map_drop, ← List.map_take] at hmid
          have HMID := Lib.hid hmid; have HH3 := Lib.hid hh; have HS7 := Lib.hid hS; have HK3 := Lib.hid hk; have HO8 := Lib.hid ho; have HA := Lib.hid hA
          clear hmid hh hS hk ho hA
          go_wp2_with fail
          refine (rblock_any (blocksM St0 P i) ((P.drop A).take 64) _ _ _ wr HH3.out HK3.out HMID.out (by have := HML.out; simp; omega)).mono ?_
          rintro e w7 ⟨hv7, rfl, ho7, hb7⟩
          have hst : blockM (blocksM St0 P i) ((P.drop A).take 64) = blocksM St0 P (i + 1) := by
            rw [blocksM_succ, HA.out]
            apply blockM_congr
            intro j hj
            rw [List.getD_eq_getElem?_getD, List.getD_eq_getElem?_getD, List.getElem?_take, if_pos hj]
          rw [hst] at ho7
          have HS9 := Lib.hid (SmI.below' HS7.out hb7)
          have HK9 := Lib.hid (rd_below HK3.out hb7)
          have HO9 := Lib.hid (own_below hb7 HO8.out (Nat.le_refl _))
          have HH9 := Lib.hid (own_rd ho7)
          clear ho7 hb7 hst
          go_wp2
          go_roundw
          case rel => exact ⟨i + 1, by have := HA.out; omega, by rw [← HA.out]; go_num, HH9.out, HS9.out, HK9.out, HO9.out⟩
          case measure => simp [intOf]; omega
        · have hi : i = M / 64 := by omega
          have hF : shaM b = digestM (blocksM St0 P i) := by rw [shaM_eq, HP.out, HML.out, hi]
          obtain ⟨F, hFF⟩ : ∃ F, blocksM St0 P i = F := ⟨_, rfl⟩
          rw [hFF] at hF hh
          have HF := Lib.hid hF; have HH3 := Lib.hid hh; have HS7 := Lib.hid hS
          have hz := (Array.getElem?_eq_some_iff.1 hS.d0).1
          have HS8 := Lib.hid (hS.alloc (.cells zD 25))
          have HD8 := Lib.hid (heap_alloc_new wr (.cells zD 25))
          have HH4 := Lib.hid (rd_alloc hh (.cells zD 25))
          clear hh hS hk ho hA hF hFF hi
          go_wp2_with fail
          obtain ⟨D, hD⟩ : ∃ D, wr.heap.size = D := ⟨_, rfl⟩
          change Code.wp _ _ _ _ (wr.alloc (.cells zD 25))
          rw [hD] at hz HD8 ⊢
          generalize wr.alloc (.cells zD 25) = w8 at HS8 HD8 HH4 ⊢
          clear hD HS7 HH3
          go_loopw [10] (fun i wq => ∃ k : Nat, k ≤ 32 ∧ i = .int .i64 k ∧ Below w.heap.size w wq ∧ wq.heap[w.heap.size]? = some (.cells zD 25 (0, 0)) ∧ rd wq (.slice ho_ 8 hcap) 8 (stI F) ∧ wq.heap[D]? = some (.cells (dgV (dgP F k)) 25 (0, 0))) (fun i _ => 32 - (intOf i).toNat)
          case atStart => exact ⟨0, by omega, rfl, HS8.out.below, HS8.out.d0, HH4.out, by rw [dgP_zero]; exact HD8.out⟩
          case round =>
            obtain ⟨k, hk32, rfl, hB, h0, hh, hD⟩ := hrel
            by_cases hk : k < 32
            · obtain ⟨a, c, hkac, hc4⟩ : ∃ a c, k = 4 * a + c ∧ c < 4 := ⟨k / 4, k % 4, by omega, by omega⟩
              have hby := byte_val F a c (by omega) hc4
              obtain ⟨_, _, e1, -, -, e3⟩ := hh
              cases e1
              rcases e3 with e3 | ⟨hg, hoff, rfl, e3⟩
              · cases e3
              have hcx := e3 a _ (stI_get F a (by omega))
              obtain ⟨x, hx⟩ : ∃ x, stWord F a = x := ⟨_, rfl⟩
              rw [hx] at hcx hby
              unfold iV at hcx
              have hcl : wr.cell? ⟨D, k, none⟩ = some (.int .u8 (bv ((dgP F k).getD k 0))) := by
                rw [cell_of_row _ _ _ _ _ _ hD, dgV_get _ _ (by rw [dgP_length]; omega)]
              generalize (dgP F k).getD k 0 = z at hcl
              have hfr : wr.frozen? ⟨D, k, none⟩ = false := frozen_of_row _ _ _ _ _ hD
              have HBY := Lib.hid hby
              have qa : (k : Int) / 4 = (a : Int) := by omega
              have qb : (k : Int).tdiv 4 = (a : Int) := by rw [Int.tdiv_eq_ediv_of_nonneg (by omega)]; exact qa
              have qc : (k : Int) % 4 = (c : Int) := by omega
              have qd : (k : Int).tmod 4 = (c : Int) := by rw [Int.tmod_eq_emod_of_nonneg (by omega)]; exact qc
              have ha8 : a < 8 := by omega
              have B5 : Hid (Below w.heap.size w (wr.setCell ⟨D, k, none⟩ (.int .u8 (bv (stByte F k))))) := hB.setCell (by show _ ≤ D; omega) _
              have h5 : Hid ((wr.setCell ⟨D, k, none⟩ (.int .u8 (bv (stByte F k)))).heap[w.heap.size]? = some (.cells zD 25 (0, 0))) := by show _ = _; rw [Below.heap_setCell _ _ _ _ (by show _ ≠ D; omega)]; exact h0
              have H5 : Hid (rd (wr.setCell ⟨D, k, none⟩ (.int .u8 (bv (stByte F k)))) (.slice (some ⟨hg, hoff, none⟩) 8 hcap) 8 (stI F)) := by
                refine rd_setCell_ne ⟨_, _, rfl, by omega, by unfold maxLen; omega, .inr ⟨hg, hoff, rfl, e3⟩⟩ _ hcl (fun u hu e => ?_)
                simp only [stI, List.mem_cons, List.not_mem_nil, or_false] at hu
                rcases hu with rfl | rfl | rfl | rfl | rfl | rfl | rfl | rfl <;> cases e
              have HD5 : Hid ((wr.setCell ⟨D, k, none⟩ (.int .u8 (bv (stByte F k)))).heap[D]? = some (.cells (dgV (dgP F (k + 1))) 25 (0, 0))) := by show _ = _; rw [heap_setCell_same _ _ _ _ _ _ hD, dgP_set]
              clear hby hB h0 hD e3 hx
              obtain rfl | rfl | rfl | rfl : c = 0 ∨ c = 1 ∨ c = 2 ∨ c = 3 := by omega
              · have he : wv x / 16777216 % 256 = bv (stByte F k) := by have := HBY.out; rw [hkac]; simpa using this
                have HE := Lib.hid he; clear he hkac
                go_wp2
                go_roundw
                case rel => exact ⟨k + 1, by omega, by go_num, by rw [HE.out]; exact ⟨B5.out, h5.out, H5.out, HD5.out⟩⟩
                case measure => simp [intOf]; omega
              · have he : wv x / 65536 % 256 = bv (stByte F k) := by have := HBY.out; rw [hkac]; simpa using this
                have HE := Lib.hid he; clear he hkac
                go_wp2
                go_roundw
                case rel => exact ⟨k + 1, by omega, by go_num, by rw [HE.out]; exact ⟨B5.out, h5.out, H5.out, HD5.out⟩⟩
                case measure => simp [intOf]; omega
              · have he : wv x / 256 % 256 = bv (stByte F k) := by have := HBY.out; rw [hkac]; simpa using this
                have HE := Lib.hid he; clear he hkac
                go_wp2
                go_roundw
                case rel => exact ⟨k + 1, by omega, by go_num, by rw [HE.out]; exact ⟨B5.out, h5.out, H5.out, HD5.out⟩⟩
                case measure => simp [intOf]; omega
              · have he : wv x % 256 = bv (stByte F k) := by have := HBY.out; rw [hkac]; simpa using this
                have HE := Lib.hid he; clear he hkac
                go_wp2
                go_roundw
                case rel => exact ⟨k + 1, by omega, by go_num, by rw [HE.out]; exact ⟨B5.out, h5.out, H5.out, HD5.out⟩⟩
                case measure => simp [intOf]; omega
            · obtain rfl : k = 32 := by omega
              have hrw : rowAt wr D 0 32 = some (dgV (dgP F 32)) := rowAt_whole hD 32 (by rw [dgV_size, dgP_length])
              have e1 := HF.out
              rw [dgP_done, ← e1] at hrw
              have m1 : (rowAt wr w.heap.size 0 32).isSome = true := by rw [rowAt_whole h0 32 rfl]; rfl
              have m2 : wrAt wr w.heap.size = true := wrAt_of_heap h0
              have m3 : plainCells (dgV (shaM b)) = true := dgV_plain _
              have m4 : (dgV (shaM b)).size = 32 := by rw [dgV_size, shaM_length]
              have H0 := Lib.hid h0; have B5 := Lib.hid hB
              clear h0 hB hD hh e1 hk32
              go_wp2
              refine bodyPost_ret (v := .agg (dgV (shaM b))) (results_cell_at rfl _ _ w.heap.size 0 _ rfl agg_digest ?_) rfl ⟨rfl, ?_⟩
              · rw [cells_digest]; exact rowAt_put_same H0.out (dgV (shaM b)) (by rw [m4]; rfl) 32 m4.symm
              · exact putAt_below B5.out (Nat.le_refl _) _ _
end Go.Proofs.YtamjldakllafcaaDoor
