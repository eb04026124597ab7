/- The walk of lock.Check. Conditions: none beyond each theorem's own. -/
import Derived.Test.YtljcdkfafknnpaaDoorLckf
namespace Go.Proofs.YtljcdkfafknnpaaDoor
set_option linter.unusedVariables false
set_option linter.unusedSimpArgs false
open Go.RowKit
attribute [local go_sem ↓] run_load_agg run_store_agg

def bV (b : Bool) : Value := .bool b
theorem info_bool : (Tryd.prog.info? 4).map (fun i => (i.zero, i.size, i.bytes)) = some (some (.bool false), 1, 1) := by kernel_rfl
def zOp : Array Value := #[.int .i64 0, .int .i64 0, .slice none 0 0]
theorem new_op (w : World) (op n : Int) (so : Option Addr) (dl dcap : Nat) : (rowAt (w.alloc (.cells zOp 101)) w.heap.size 0 3).isSome = true ∧ wrAt (w.alloc (.cells zOp 101)) w.heap.size = true ∧
    plainCells #[.int .i64 op, .int .i64 n, .slice so dl dcap] = true ∧ rowAt (w.alloc (.cells #[.int .i64 op, .int .i64 n, .slice so dl dcap] 101)) w.heap.size 0 3 = some #[.int .i64 op, .int .i64 n, .slice so dl dcap] :=
  ⟨by rw [rowAt_whole (heap_alloc_new w _) 3 rfl]; rfl, wrAt_of_heap (heap_alloc_new w _), rfl, rowAt_whole (heap_alloc_new w _) 3 rfl⟩
/-- The stack of open Ifs, a reslice shorter. -/
theorem own_take {w : World} {base : Nat} {e : TypeId} {sz : Nat} {ao : Option Addr} {n cap : Nat} {xs : List Value} (h : own w base e sz (.slice ao n cap) n xs) (k : Nat) (hk : k ≤ n) : own w base e sz (.slice ao k cap) k (xs.take (k * sz)) := by
  obtain ⟨hl, ao', cap', hv, h1, h2, h3⟩ := h
  cases hv
  have hmul : k * sz ≤ n * sz := Nat.mul_le_mul_right _ hk
  refine ⟨by rw [List.length_take, hl]; omega, _, _, rfl, by omega, h2, ?_⟩
  rcases h3 with h3 | ⟨g, off, cur, rfl, hb, hg, hs, hx⟩
  · exact .inl h3
  · refine .inr ⟨g, off, cur, rfl, hb, hg, hs, ?_⟩
    rw [← hx, List.take_take, Nat.min_eq_left hmul]
/-- A store into an element of one cell. -/
theorem own_set {w : World} {base : Nat} {e : TypeId} {g off n cap : Nat} {xs : List Value} (h : own w base e 1 (.slice (some ⟨g, off, none⟩) n cap) n xs) (j : Nat) (hj : j < n) (u : Value) :
    own (w.setCell ⟨g, off + j, none⟩ u) base e 1 (.slice (some ⟨g, off, none⟩) n cap) n (xs.set j u) := by
  obtain ⟨hl, ao', cap', hv, h1, h2, h3⟩ := h
  cases hv
  refine ⟨by rw [List.length_set]; exact hl, _, _, rfl, h1, h2, ?_⟩
  rcases h3 with h3 | ⟨g', off', cur, e2, hb, hg, hs, hx⟩
  · omega
  · cases e2
    simp only [Nat.mul_one] at hs hx hl
    refine .inr ⟨g, off, cur.setIfInBounds (off + j) u, rfl, hb, heap_setCell_same _ _ _ _ _ _ hg, by simpa using hs, ?_⟩
    simp only [Nat.mul_one, Array.toList_setIfInBounds]
    rw [List.drop_set, if_neg (by omega), List.take_set, hx, show off + j - off = j from by omega]
/-- The cell of an element. -/
theorem own_cell {w : World} {base : Nat} {e : TypeId} {g off n cap : Nat} {xs : List Value} (h : own w base e 1 (.slice (some ⟨g, off, none⟩) n cap) n xs) (j : Nat) (hj : j < n) (u : Value) (hu : xs[j]? = some u) :
    w.cell? ⟨g, off + j, none⟩ = some u ∧ w.frozen? ⟨g, off + j, none⟩ = false ∧ base ≤ g := by
  obtain ⟨hl, ao', cap', hv, h1, h2, h3⟩ := h
  cases hv
  rcases h3 with h3 | ⟨g', off', cur, e2, hb, hg, hs, hx⟩
  · omega
  · cases e2
    simp only [Nat.mul_one] at hs hx hl
    refine ⟨?_, frozen_of_row _ _ _ _ _ hg, hb⟩
    rw [cell_of_row _ _ _ _ _ _ hg]
    rw [← hx, List.getElem?_take, if_pos (by omega), List.getElem?_drop] at hu
    simpa using hu
theorem scan_else_f (st : List Bool) (s : List Int) : scanM (false :: st) (12 :: s) = scanM (true :: st) s := by simp [scanM]
theorem scan_else_t (st : List Bool) (s : List Int) : scanM (true :: st) (12 :: s) = none := by simp [scanM]
theorem scan_end (b : Bool) (st : List Bool) (s : List Int) : scanM (b :: st) (13 :: s) = scanM st s := by simp [scanM]
theorem scan_no (k : Int) (s : List Int) (h : k = 12 ∨ k = 13) : scanM [] (k :: s) = none := by rcases h with rfl | rfl <;> simp [scanM]
theorem pairF_none (os : List OpD) (h : scanM [] (os.map OpD.op) = none) : pairF os = 1 := by unfold pairF; rw [h]; rfl
theorem lockF_one (os : List OpD) (hn : ¬ 60 < os.length) (hz : firstF os = 0) (h : pairF os = 1) : lockF os = 1 := by rw [lockF_pairs os hn hz, h]
theorem errV_ne {c : Int} (h : c ≠ 0) : errV c = .iface 46 (.int .i64 c) := by unfold errV; rw [if_neg h]
theorem errV_0 : errV 0 = .nilIface := rfl
/-- The stack as it lies: the oldest If first. -/
def stV' (st : List Bool) : List Value := st.reverse.map bV
theorem stV'_push (b : Bool) (st : List Bool) : stV' (b :: st) = stV' st ++ [bV b] := by simp [stV']
theorem stV'_len (st : List Bool) : (stV' st).length = st.length := by simp [stV']
theorem stV'_top (b : Bool) (st : List Bool) : (stV' (b :: st))[st.length]? = some (bV b) := by
  rw [stV'_push, List.getElem?_append_right (by rw [stV'_len]; exact Nat.le_refl _), stV'_len, Nat.sub_self]; rfl
theorem stV'_set (b : Bool) (st : List Bool) : (stV' (b :: st)).set st.length (bV true) = stV' (true :: st) := by
  rw [stV'_push, stV'_push, List.set_append_right _ _ (by rw [stV'_len]; exact Nat.le_refl _), stV'_len, Nat.sub_self]; rfl
theorem stV'_pop (b : Bool) (st : List Bool) : (stV' (b :: st)).take st.length = stV' st := by
  rw [stV'_push, List.take_left' (stV'_len st)]
set_option maxHeartbeats 8000000 in
set_option maxRecDepth 100000 in
theorem lockCheck_any (os : List OpD) (ao : Option Addr) (cap : Nat) (w : World) (h : rdSl opR 3 w (.slice ao os.length cap) os) :
    Calls Tryd.prog 47 #[.slice ao os.length cap] w fun e w' => e = .returned (errV (lockF os)) ∧ Below w.heap.size w w' := by
  obtain ⟨_, _, e, hcap, hmax⟩ := sl_bounds h
  cases e
  unfold maxLen at hmax
  have HS := Lib.hid h; clear h
  by_cases hn : 60 < os.length
  · have hf : lockF os = 4 := by unfold lockF; rw [if_pos hn]
    have HF := Lib.hid hf; clear hf
    go_enter Tryd.func47, Tryd.ntmps47
    go_wp2
    go_ret
    exact ⟨by rw [HF.out]; rfl, Below.refl _ _⟩
  have HN := Lib.hid hn
  go_enter Tryd.func47, Tryd.ntmps47
  go_wp2_with fail
  go_loopw [16] (fun c wr => ∃ j : Nat, j ≤ os.length ∧ c = .int .i64 j ∧ Hid (Below w.heap.size w wr) ∧ Hid (firstF os = firstF (os.drop j))) (fun c _ => os.length - (intOf c).toNat)
  case atStart => exact ⟨0, by omega, rfl, Lib.hid (Below.refl _ _), Lib.hid rfl⟩
  case round =>
    obtain ⟨j, hj, rfl, HB, HF⟩ := hrel
    by_cases hlt : j < os.length
    · obtain ⟨g, off, so, dcap, rfl, -, d1, d2, -, hrow⟩ := op_at (opR_stays.slB HS.out HB.out (Nat.le_refl _)) j hlt
      have H1 := Lib.hid (firstF_step os j hlt); have H2 := Lib.hid (firstF_hit os j hlt)
      obtain ⟨op, hop⟩ : ∃ x, os[j].op = x := ⟨_, rfl⟩
      obtain ⟨k, hk⟩ : ∃ x, os[j].n = x := ⟨_, rfl⟩
      obtain ⟨dl, hdl⟩ : ∃ x, os[j].data.length = x := ⟨_, rfl⟩
      rw [hop, hk, hdl] at hrow H1 H2
      rw [hdl] at d1
      clear hop hk hdl
      obtain ⟨n1, n2, n3, n5⟩ := new_op wr op k so dl dcap
      have B0 := Lib.hid (HB.out.alloc HB.out.size (.cells #[.int .i64 op, .int .i64 k, .slice so dl dcap] 101))
      unfold zOp at n1 n2
      go_wp2_with fail
      clear n1 n2 n3 n5
      change Calls _ _ _ (wr.alloc (.cells #[.int .i64 op, .int .i64 k, .slice so dl dcap] 101)) _
      generalize wr.alloc (.cells #[.int .i64 op, .int .i64 k, .slice so dl dcap] 101) = w0 at B0 ⊢
      refine (lockOp_any op k so dl dcap _ d1 d2).mono ?_
      rintro e w1 ⟨rfl, hb1⟩
      have B1 := Lib.hid (B0.out.trans (hb1.mono B0.out.size)); clear hb1
      obtain ⟨c, hc⟩ : ∃ x, opF op k dl = x := ⟨_, rfl⟩
      rw [hc] at H1 H2 ⊢
      by_cases hz : c = 0
      · have hf := HF.out.trans (H1.out hz)
        have HF2 := Lib.hid hf
        subst hz
        clear hf hc
        rw [errV_0]
        go_wp2
        go_roundw
        case rel => exact ⟨j + 1, by omega, by go_num, B1, HF2⟩
        case measure => simp [intOf]; omega
      · have hf := lockF_hit os HN.out c (HF.out.trans (H2.out c rfl hz)) hz
        have HF2 := Lib.hid hf
        rw [errV_ne hz]
        have HZ := Lib.hid hz
        clear hf hc hz
        go_wp2
        go_ret
        exact ⟨by rw [HF2.out, errV_ne HZ.out]; rfl, B1.out⟩
    · have hz : firstF os = 0 := by rw [HF.out, List.drop_eq_nil_of_le (by omega)]; rfl
      have HZ := Lib.hid hz
      obtain ⟨i0, hi0, hz0, hz1, hz2⟩ := info_parts' info_bool
      clear hz
      go_wp2_with fail
      go_loopw [6, 28] (fun v c wq => ∃ (i : Nat) (st : List Bool), i ≤ os.length ∧ c = .int .i64 i ∧ Hid (own wq w.heap.size 4 1 v st.length (stV' st)) ∧ st.length ≤ i ∧ Hid (Below w.heap.size w wq) ∧ Hid (scanM [] (os.map OpD.op) = scanM st ((os.map OpD.op).drop i))) (fun _ c _ => os.length - (intOf c).toNat)
      case atStart => exact ⟨0, [], by omega, rfl, Lib.hid (own_nil _ _ _ _), by simp, HB, Lib.hid rfl⟩
      case round =>
        obtain ⟨i, st, hi, rfl, HO, hst, HBq, HSC⟩ := hrel
        have ho' := HO.out
        obtain ⟨-, oo, ocap, rfl, o1, o2, -⟩ := ho'
        unfold maxLen at o2
        by_cases hlt2 : i < os.length
        · obtain ⟨g, off, so, dcap, rfl, -, d1, d2, -, hrow⟩ := op_at (opR_stays.slB HS.out HBq.out (Nat.le_refl _)) i hlt2
          have hks := kinds_cons os i hlt2
          obtain ⟨op, hop⟩ : ∃ x, os[i].op = x := ⟨_, rfl⟩
          obtain ⟨k, hk⟩ : ∃ x, os[i].n = x := ⟨_, rfl⟩
          obtain ⟨dl, hdl⟩ : ∃ x, os[i].data.length = x := ⟨_, rfl⟩
          rw [hop, hk, hdl] at hrow
          rw [hop] at hks
          rw [hdl] at d1
          have HK := Lib.hid hks
          clear hop hk hdl hks
          obtain ⟨n1, n2, n3, n5⟩ := new_op wr op k so dl dcap
          have B0 := Lib.hid (HBq.out.alloc HBq.out.size (.cells #[.int .i64 op, .int .i64 k, .slice so dl dcap] 101))
          have HO1 := Lib.hid (own_alloc HO.out (.cells #[.int .i64 op, .int .i64 k, .slice so dl dcap] 101))
          unfold zOp at n1 n2
          by_cases h11 : op = 11
          · have hsc := HSC.out
            rw [HK.out, scan_if _ _ _ h11] at hsc
            have HSC2 := Lib.hid hsc
            subst h11
            clear hsc
            have HN2 := Lib.hid (rd_new1 (wr.alloc (.cells #[.int .i64 11, .int .i64 k, .slice so dl dcap] 101)) (bV false) 4 (wr.heap.size + 1) (by simp))
            have HO2 := Lib.hid (own_alloc HO1.out (.cells #[bV false] 4))
            have B2 := Lib.hid (B0.out.alloc B0.out.size (.cells #[bV false] 4))
            go_wp2_with (at_builtin; refine wpList_append_rd rfl (.tmp 42) (.tmp 43) 117 rfl 4 i0 (.bool false) 1 1 Tryd.underlying117 hi0 hz0 hz1 hz2 rfl (by decide) w.heap.size st.length _ HO2.out 1 [bV false] ?c1 HN2.out ?c5 ?c2 ?c3 ?c4 ?_)
            case c1 => rfl
            case c5 => intro u hu; rw [List.mem_singleton.1 hu]; rfl
            case c2 => unfold maxLen; omega
            case c3 => omega
            case c4 => exact B2.out.size
            intro v1 w2 ho1 _ hg1
            have B3 := Lib.hid (B2.out.grown hg1 B2.out.size (fun q hq => (own_lt HO2.out hq).1))
            have HO3 := Lib.hid ho1; clear ho1 hg1
            go_wp2_with fail
            go_roundw
            case rel => exact ⟨i + 1, false :: st, by omega, by go_num, Lib.hid (by rw [stV'_push]; exact HO3.out), by simp; omega, B3, HSC2⟩
            case measure => simp [intOf]; omega
          · have q11 : (op == 11) = false := beq_false_of_ne h11
            by_cases h23 : op = 12 ∨ op = 13
            · have HPN := Lib.hid (lockF_one os HN.out HZ.out)
              cases st with
              | nil =>
                have hsc := HSC.out
                rw [HK.out, scan_no op _ h23] at hsc
                have HF2 := Lib.hid (HPN.out (pairF_none os hsc))
                clear hsc
                rcases h23 with h | h
                all_goals
                  subst h
                  go_wp2
                  go_ret
                  exact ⟨by rw [HF2.out]; rfl, B0.out⟩
              | cons b st =>
                obtain ⟨L, hL⟩ : ∃ L, st.length = L := ⟨_, rfl⟩
                have hbl : (b :: st).length = L + 1 := by simp [hL]
                rw [hbl] at hst o1 HO HO1 ⊢
                have hor := own_rd HO.out
                obtain ⟨_, _, e1, -, -, e3⟩ := hor
                cases e1
                rcases e3 with e3 | ⟨og, ooff, rfl, -⟩
                · rw [stV'_push] at e3; simp at e3
                have htop := stV'_top b st
                have hset := stV'_set b st
                have hpop := stV'_pop b st
                rw [hL] at htop hset hpop
                obtain ⟨oc1, oc2, oc3⟩ := own_cell HO1.out L (by omega) (bV b) htop
                have HL := Lib.hid hL; have HST := Lib.hid hset; have HPP := Lib.hid hpop
                have hLi : ((L + 1 : Nat) : Int) - 1 = (L : Int) := by omega
                clear htop hset hpop hL
                by_cases h12 : op = 12
                · subst h12
                  have hsc := HSC.out
                  rw [HK.out] at hsc
                  cases b
                  · rw [scan_else_f] at hsc
                    have HSC2 := Lib.hid hsc
                    clear hsc h23
                    unfold bV at oc1
                    go_wp2_with fail
                    go_roundw
                    case rel => exact ⟨i + 1, true :: st, by omega, by go_num, Lib.hid (by
                      have e := own_set HO1.out L (by omega) (bV true)
                      rw [HST.out] at e
                      simpa [HL.out, bV] using e), by simp [HL.out]; omega, Lib.hid (B0.out.setCell oc3 _), HSC2⟩
                    case measure => simp [intOf]; omega
                  · rw [scan_else_t] at hsc
                    have HF2 := Lib.hid (HPN.out (pairF_none os hsc))
                    clear hsc h23
                    unfold bV at oc1
                    go_wp2
                    go_ret
                    exact ⟨by rw [HF2.out]; rfl, B0.out⟩
                · have h13 : op = 13 := by rcases h23 with h | h; exact absurd h h12; exact h
                  subst h13
                  have hsc := HSC.out
                  rw [HK.out, scan_end] at hsc
                  have HSC2 := Lib.hid hsc
                  clear hsc h23 h12
                  go_wp2_with fail
                  go_roundw
                  case rel => exact ⟨i + 1, st, by omega, by go_num, Lib.hid (by
                    have e := own_take HO1.out L (by omega)
                    rw [Nat.mul_one, HPP.out] at e
                    simpa [HL.out] using e), by rw [HL.out]; omega, B0, HSC2⟩
                  case measure => simp [intOf]; omega
            · have hsc := HSC.out
              rw [HK.out, scan_other _ _ _ h11 h23] at hsc
              have HSC2 := Lib.hid hsc
              have q12 : (op != 12) = true := by rw [bne_iff_ne]; omega
              have q13 : (op != 13) = true := by rw [bne_iff_ne]; omega
              clear hsc h23
              go_wp2
              go_roundw
              case rel => exact ⟨i + 1, st, by omega, by go_num, HO1, by omega, B0, HSC2⟩
              case measure => simp [intOf]; omega
        · have hsc := HSC.out
          rw [List.drop_eq_nil_of_le (by simp; omega)] at hsc
          cases st with
          | nil =>
            have hp : pairF os = 0 := by unfold pairF; rw [hsc]; rfl
            have HF2 := Lib.hid (show lockF os = 0 by rw [lockF_pairs os HN.out HZ.out, hp])
            clear hp hsc
            go_wp2
            go_ret
            exact ⟨by rw [HF2.out]; rfl, HBq.out⟩
          | cons b st =>
            have hp : pairF os = 1 := by unfold pairF; rw [hsc]; rfl
            have HF2 := Lib.hid (lockF_one os HN.out HZ.out hp)
            clear hp hsc
            have hpos : 0 < (b :: st).length := by simp
            go_wp2
            go_ret
            exact ⟨by rw [HF2.out]; rfl, HBq.out⟩
end Go.Proofs.YtljcdkfafknnpaaDoor
