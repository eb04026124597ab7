/- Merged: Smo. Conditions: none beyond each theorem's own. -/
import Derived.Test.YtljcdkfafknnpaaGreatDoorMf
import Derived.Test.YtljcdkfafknnpaaGreatDoorMe
namespace Go.Proofs.YtljcdkfafknnpaaGreatDoor
set_option linter.unusedVariables false
set_option linter.unusedSimpArgs false
open Go.RowKit
attribute [local go_sem ↓] run_load_agg run_store_agg run_load_any

set_option maxHeartbeats 2000000 in
set_option maxRecDepth 100000 in
theorem rsame_tell (a b : List UInt8) (ao bo : Option Addr) (c1 c2 : Nat) (w : World) (h1 : rd w (.slice ao a.length c1) a.length (a.map vB)) (h2 : rd w (.slice bo b.length c2) b.length (b.map vB)) :
    Calls Tryz.prog 97 #[.slice ao a.length c1, .slice bo b.length c2] w fun e w' => e = .returned (.bool (decide (a = b))) ∧ Drawn w w' := by
  have h1' := h1
  obtain ⟨_, _, e, k1, k2, -⟩ := h1'
  cases e
  have h2' := h2
  obtain ⟨_, _, e, p1, p2, -⟩ := h2'
  cases e
  unfold maxLen at k2 p2
  have H1 := Lib.hid h1; have H2 := Lib.hid h2; clear h1 h2
  obtain ⟨B, hB⟩ : ∃ B, decide (a = b) = B := ⟨_, rfl⟩
  have HD := Lib.hid hB
  clear hB
  go_enter Tryz.func97, Tryz.ntmps97
  by_cases hl : a.length = b.length
  · have f1 : ((a.length : Int) != b.length) = false := by rw [hl]; simp
    have HL := Lib.hid hl
    clear hl
    go_wp2_with fail
    clear f1
    go_loopw [5] (fun c wr => ∃ j : Nat, j ≤ a.length ∧ c = .int .i64 j ∧ Hid (Drawn w wr) ∧ Hid (a.take j = b.take j)) (fun c _ => a.length - (intOf c).toNat)
    case atStart => exact ⟨0, by omega, rfl, Lib.hid (Drawn.refl _), Lib.hid rfl⟩
    case round =>
      obtain ⟨j, hj, rfl, HW, HT⟩ := hrel
      by_cases hlt : j < a.length
      · have hlt2 : j < b.length := by have := HL.out; omega
        have hja : j < (a.map vB).length := by simpa using hlt
        have hjb : j < (b.map vB).length := by simpa using hlt2
        obtain ⟨ag, aoff, rfl, acs⟩ := rd_cells (rd_belowB H1.out HW.out.below (Nat.le_refl _)) j hja
        obtain ⟨bg, boff, rfl, bcs⟩ := rd_cells (rd_belowB H2.out HW.out.below (Nat.le_refl _)) j hjb
        have a1 : wr.cell? ⟨ag, aoff + j, none⟩ = some (.int .u8 (bv (a[j]'hlt))) := by rw [acs j hja]; simp [vB]
        have b1 : wr.cell? ⟨bg, boff + j, none⟩ = some (.int .u8 (bv (b[j]'hlt2))) := by rw [bcs j hjb]; simp [vB]
        have HTA := Lib.hid (List.take_succ_eq_append_getElem hlt)
        have HTB := Lib.hid (List.take_succ_eq_append_getElem hlt2)
        have HNE : Hid (a[j]'hlt ≠ b[j]'hlt2 → B = false) := Lib.hid fun hne => by rw [← HD.out]; exact decide_eq_false fun e => hne (by subst e; rfl)
        obtain ⟨x, hx⟩ : ∃ x, a[j]'hlt = x := ⟨_, rfl⟩
        obtain ⟨y, hy⟩ : ∃ y, b[j]'hlt2 = y := ⟨_, rfl⟩
        simp only [hx] at a1 HTA HNE
        simp only [hy] at b1 HTB HNE
        clear acs bcs hx hy hja hjb
        by_cases hxy : x = y
        · have f2 : (bv x != bv y) = false := by rw [hxy]; simp
          have HT2 : Hid (a.take (j + 1) = b.take (j + 1)) := Lib.hid (by rw [HTA.out, HTB.out, HT.out, hxy])
          clear hxy
          go_wp2_with fail
          go_region
          all_goals
            go_wp2
            go_roundw
            case rel => exact ⟨j + 1, by omega, by go_num, Lib.hid HW.out.drew, HT2⟩
            case measure => simp [intOf]; omega
        · have f2 : (bv x != bv y) = true := by rw [bne_iff_ne]; exact fun e => hxy (bv_inj e)
          have HBF := Lib.hid (HNE.out hxy)
          clear hxy
          go_wp2_with fail
          go_region
          all_goals
            go_wp2
            go_ret
            exact ⟨by rw [HD.out, HBF.out]; rfl, HW.out.drew⟩
      · have HBT : Hid (B = true) := Lib.hid (by
          rw [← HD.out]
          have := HT.out
          rw [List.take_of_length_le (by omega), List.take_of_length_le (by have := HL.out; omega)] at this
          exact decide_eq_true this)
        go_wp2
        go_ret
        exact ⟨by rw [HD.out, HBT.out]; rfl, HW.out⟩
  · have f1 : ((a.length : Int) != b.length) = true := by simp; omega
    have HBF : Hid (B = false) := Lib.hid (by rw [← HD.out]; exact decide_eq_false fun e => hl (by rw [e]))
    clear hl
    go_wp2
    go_ret
    exact ⟨by rw [HD.out, HBF.out]; rfl, Drawn.refl _⟩
set_option maxHeartbeats 4000000 in
set_option maxRecDepth 100000 in
theorem sameOut_any (x y : Int) (l m : List OpD) (ao bo : Option Addr) (c d : Nat) (w : World) (h1 : rdSl opR 3 w (.slice ao l.length c) l) (h2 : rdSl opR 3 w (.slice bo m.length d) m) :
    Calls Tryz.prog 63 #[.agg #[.int .i64 x, .slice ao l.length c], .agg #[.int .i64 y, .slice bo m.length d]] w fun e w' => e = .returned (.bool (outE x l y m)) ∧ Below w.heap.size w w' := by
  have k0 := ((Kept.refl w).alloc #[.int .i64 x, .slice ao l.length c] 103).alloc #[.int .i64 y, .slice bo m.length d] 103
  rw [show (w.alloc (.cells #[.int .i64 x, .slice ao l.length c] 103)).heap.size = w.heap.size + 1 from by simp] at k0
  obtain ⟨n1, n2, n3⟩ := new_out w x ao l.length c
  obtain ⟨m1, m2, m3⟩ := new_out (w.alloc (.cells #[.int .i64 x, .slice ao l.length c] 103)) y bo m.length d
  unfold zOut at n1 n2 m1 m2
  obtain ⟨_, _, e, k1, k2⟩ := sl_bounds h1
  cases e
  obtain ⟨_, _, e, p1, p2⟩ := sl_bounds h2
  cases e
  unfold maxLen at k2 p2
  have H1 := Lib.hid h1; have H2 := Lib.hid h2; have K0 := Lib.hid k0
  obtain ⟨B, hB⟩ : ∃ B, outE x l y m = B := ⟨_, rfl⟩
  have HB := Lib.hid hB
  rw [hB]
  clear h1 h2 k0 hB
  go_enter Tryz.func63, Tryz.ntmps63
  go_upto_region 1 with fail
  clear n1 n2 n3 m1 m2 m3
  change Code.wp _ _ _ _ ((w.alloc (.cells #[.int .i64 x, .slice ao l.length c] 103)).alloc (.cells #[.int .i64 y, .slice bo m.length d] 103))
  obtain ⟨G2, hG2⟩ : ∃ G, w.heap.size + 1 = G := ⟨_, rfl⟩
  rw [hG2] at K0 ⊢
  clear hG2
  obtain ⟨G1, hG1⟩ : ∃ G, w.heap.size = G := ⟨_, rfl⟩
  have K0' : Hid (∃ w0, (w.alloc (.cells #[.int .i64 x, .slice ao l.length c] 103)).alloc (.cells #[.int .i64 y, .slice bo m.length d] 103) = w0 ∧ Kept w [(G2, #[.int .i64 y, .slice bo m.length d], 103), (G1, #[.int .i64 x, .slice ao l.length c], 103)] w0) := Lib.hid ⟨_, rfl, by rw [← hG1]; exact K0.out⟩
  rw [hG1] at ⊢
  clear hG1 K0
  obtain ⟨w0, hw0, k0⟩ := K0'.out
  rw [hw0]
  have K0 := Lib.hid k0
  clear hw0 k0 K0'
  have x0 : w0.cell? ⟨G1, 0, none⟩ = some (.int .i64 x) := K0.out.cell 1 0 _ _ rfl rfl
  have x1 : w0.cell? ⟨G1, 1, none⟩ = some (.slice ao l.length c) := K0.out.cell 1 1 _ _ rfl rfl
  have y0 : w0.cell? ⟨G2, 0, none⟩ = some (.int .i64 y) := K0.out.cell 0 0 _ _ rfl rfl
  have y1 : w0.cell? ⟨G2, 1, none⟩ = some (.slice bo m.length d) := K0.out.cell 0 1 _ _ rfl rfl
  by_cases hxy : x = y
  rotate_left
  · have f : (x != y) = true := bne_iff_ne.2 hxy
    have HBF : Hid (B = false) := Lib.hid (by rw [← HB.out]; unfold outE; rw [decide_eq_false hxy, Bool.false_and])
    clear hxy
    go_wp2
    go_ret
    exact ⟨by rw [HBF.out]; rfl, K0.out.below⟩
  by_cases hlm : l.length = m.length
  rotate_left
  · have f : (x != y) = false := by rw [hxy]; simp
    have f2 : ((l.length : Int) != (m.length : Int)) = true := bne_iff_ne.2 (by omega)
    have HBF : Hid (B = false) := Lib.hid (by
      rw [← HB.out]; unfold outE
      cases he : opsE l m with
      | false => rw [Bool.and_false]
      | true => exact absurd (by rw [(opsE_iff l m).1 he]) hlm)
    clear hxy hlm
    go_wp2
    go_ret
    exact ⟨by rw [HBF.out]; rfl, K0.out.below⟩
  have f : (x != y) = false := by rw [hxy]; simp
  have f2 : ((l.length : Int) != (m.length : Int)) = false := by rw [hlm]; simp
  have HBE : Hid (opsE l m = B) := Lib.hid (by rw [← HB.out]; unfold outE; rw [decide_eq_true hxy, Bool.true_and])
  have HLM := Lib.hid hlm
  clear hxy hlm HB
  go_wp2_with fail
  clear f f2 x0 x1 y0 y1
  go_loopw [5] (fun c' wr => ∃ j : Nat, j ≤ l.length ∧ c' = .int .i64 j ∧ Hid (Kept w [(G2, #[.int .i64 y, .slice bo m.length d], 103), (G1, #[.int .i64 x, .slice ao l.length c], 103)] wr) ∧ Hid (opsE (l.drop j) (m.drop j) = B)) (fun c' _ => l.length - (intOf c').toNat)
  case atStart => exact ⟨0, by omega, rfl, K0, HBE⟩
  case round =>
    obtain ⟨j, hj, rfl, HK, HE⟩ := hrel
    have x1 : wr.cell? ⟨G1, 1, none⟩ = some (.slice ao l.length c) := HK.out.cell 1 1 _ _ rfl rfl
    have y1 : wr.cell? ⟨G2, 1, none⟩ = some (.slice bo m.length d) := HK.out.cell 0 1 _ _ rfl rfl
    by_cases hlt : j < l.length
    · have hlt2 : j < m.length := by have := HLM.out; omega
      obtain ⟨ag, aoff, sa, acap, rfl, -, a1, a2, adat, arow⟩ := op_at (opR_stays.slB H1.out HK.out.below (Nat.le_refl _)) j hlt
      obtain ⟨bg, boff, sb, bcap, rfl, -, b1, b2, bdat, brow⟩ := op_at (opR_stays.slB H2.out HK.out.below (Nat.le_refl _)) j hlt2
      have HST := Lib.hid (opsE_step l m j hlt hlt2); have HSP := Lib.hid (opsE_stop l m j hlt hlt2)
      obtain ⟨p, hp⟩ : ∃ p, l[j] = p := ⟨_, rfl⟩
      obtain ⟨q, hq⟩ : ∃ q, m[j] = q := ⟨_, rfl⟩
      rw [hp] at adat arow a1 HST HSP
      rw [hq] at bdat brow b1 HST HSP
      obtain ⟨r1, r2, r3⟩ := op_cells arow
      obtain ⟨t1, t2, t3⟩ := op_cells brow
      have HD : Hid (∀ k, Calls Tryz.prog 97 #[.slice sa p.data.length acap, .slice sb q.data.length bcap] (wr.drewN k) fun e w' => e = .returned (.bool (decide (p.data = q.data))) ∧ Drawn (wr.drewN k) w') :=
        Lib.hid fun k => rsame_tell p.data q.data sa sb acap bcap (wr.drewN k) (rd_belowB adat (below_drewN (Below.refl _ _) k) (Nat.le_refl _)) (rd_belowB bdat (below_drewN (Below.refl _ _) k) (Nat.le_refl _))
      have HOE : Hid (opE p q = (decide (p.op = q.op) && (decide (p.n = q.n) && decide (p.data = q.data)))) := Lib.hid rfl
      clear adat bdat arow brow hp hq
      by_cases ho : p.op = q.op
      rotate_left
      · have f1 : (p.op != q.op) = true := bne_iff_ne.2 ho
        have HBF : Hid (B = false) := Lib.hid (by rw [← HE.out]; exact HSP.out (by rw [HOE.out, decide_eq_false ho, Bool.false_and]))
        clear ho HST HSP HOE
        go_wp2_with fail
        go_quiet (first | (go_at_call 97; refine Calls.quiet_of (HD.out _)))
        go_wp2_with fail
        try go_region
        all_goals
          go_wp2
          go_ret
          exact ⟨by rw [HBF.out]; rfl, by first | exact (HK.out.on (below_drewN (Below.refl _ _) _)).below | exact (HK.out.on (below_drewN (Below.refl _ _) _)).drew.below | exact HK.out.drew.below⟩
      by_cases hn : p.n = q.n
      rotate_left
      · have f1 : (p.op != q.op) = false := by rw [ho]; simp
        have f2 : (p.n != q.n) = true := bne_iff_ne.2 hn
        have HBF : Hid (B = false) := Lib.hid (by rw [← HE.out]; exact HSP.out (by rw [HOE.out, decide_eq_false hn, Bool.false_and, Bool.and_false]))
        clear ho hn HST HSP HOE
        go_wp2_with fail
        go_quiet (first | (go_at_call 97; refine Calls.quiet_of (HD.out _)))
        go_wp2_with fail
        try go_region
        all_goals
          go_wp2
          go_ret
          exact ⟨by rw [HBF.out]; rfl, by first | exact (HK.out.on (below_drewN (Below.refl _ _) _)).below | exact (HK.out.on (below_drewN (Below.refl _ _) _)).drew.below | exact HK.out.drew.below⟩
      have f1 : (p.op != q.op) = false := by rw [ho]; simp
      have f2 : (p.n != q.n) = false := by rw [hn]; simp
      by_cases hd : p.data = q.data
      · rw [decide_eq_true hd] at HD
        have HN : Hid (opsE (l.drop (j + 1)) (m.drop (j + 1)) = B) := Lib.hid (by rw [← HE.out]; exact (HST.out (by rw [HOE.out, decide_eq_true ho, decide_eq_true hn, decide_eq_true hd]; rfl)).symm)
        clear ho hn hd HST HSP HOE HE
        go_wp2_with fail
        go_quiet (first | (go_at_call 97; refine Calls.quiet_of (HD.out _)))
        clear HD
        go_wp2_with fail
        go_roundw
        case rel => exact ⟨j + 1, by omega, by go_num, Lib.hid (HK.out.on (below_drewN (Below.refl _ _) _)), HN⟩
        case measure => simp [intOf]; omega
      · rw [decide_eq_false hd] at HD
        have HBF : Hid (B = false) := Lib.hid (by rw [← HE.out]; exact HSP.out (by rw [HOE.out, decide_eq_false hd, Bool.and_false, Bool.and_false]))
        clear ho hn hd HST HSP HOE HE
        go_wp2_with fail
        go_quiet (first | (go_at_call 97; refine Calls.quiet_of (HD.out _)))
        clear HD
        go_wp2
        go_ret
        exact ⟨by rw [HBF.out]; rfl, by first | exact (below_drewN HK.out.below _) | exact (HK.out.on (below_drewN (Below.refl _ _) _)).below⟩
    · have HBT : Hid (B = true) := Lib.hid (by
        rw [← HE.out, List.drop_eq_nil_of_le (show l.length ≤ j by omega), List.drop_eq_nil_of_le (show m.length ≤ j by have := HLM.out; omega)]; rfl)
      go_wp2
      go_ret
      exact ⟨by rw [HBT.out]; rfl, HK.out.below⟩
end Go.Proofs.YtljcdkfafknnpaaGreatDoor
