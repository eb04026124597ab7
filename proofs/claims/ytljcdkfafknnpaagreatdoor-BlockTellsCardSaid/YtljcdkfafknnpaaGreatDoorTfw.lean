/- Merged: Tfw. Conditions: none beyond each theorem's own. -/
import Derived.Test.YtljcdkfafknnpaaGreatDoorMd
import Derived.Test.YtljcdkfafknnpaaGreatDoorMb
namespace Go.Proofs.YtljcdkfafknnpaaGreatDoor
set_option linter.unusedVariables false
set_option linter.unusedSimpArgs false
open Go.RowKit
attribute [local go_sem ↓] run_load_agg run_store_agg run_load_any

theorem inF_2 {met : List PlaceD} {x : InD} (h : x.ix < 0 ∨ 40 ≤ x.ix) : inF met x = 2 := by unfold inF; rw [if_pos h]
theorem inF_6 {met : List PlaceD} {x : InD} (h : ¬ (x.ix < 0 ∨ 40 ≤ x.ix)) (h2 : met.any (fun p => plE p x.place) = true) : inF met x = 6 := by unfold inF; rw [if_neg h, if_pos h2]
theorem inF_4 {met : List PlaceD} {x : InD} (h : ¬ (x.ix < 0 ∨ 40 ≤ x.ix)) (h2 : met.any (fun p => plE p x.place) = false) (h3 : 30 < x.keys.length ∨ x.keys.any (fun k => decide (3000 < k.length)) = true) : inF met x = 4 := by
  unfold inF; rw [if_neg h, if_neg (by rw [h2]; decide)]
  by_cases h4 : 30 < x.keys.length
  · rw [if_pos h4]
  · rw [if_neg h4, if_pos (by rcases h3 with h3 | h3; exact absurd h3 h4; exact h3)]
theorem inF_0 {met : List PlaceD} {x : InD} (h : ¬ (x.ix < 0 ∨ 40 ≤ x.ix)) (h2 : met.any (fun p => plE p x.place) = false) (h3 : ¬ 30 < x.keys.length) (h4 : x.keys.any (fun k => decide (3000 < k.length)) = false) : inF met x = 0 := by
  unfold inF; rw [if_neg h, if_neg (by rw [h2]; decide), if_neg h3, if_neg (by rw [h4]; decide)]
set_option maxHeartbeats 8000000 in
set_option maxRecDepth 100000 in
theorem txFault_any (t : TxD) (ai ao : Option Addr) (ci co : Nat) (w : World) (hi : rdSl inR 34 w (.slice ai t.ins.length ci) t.ins) (ho : rdSl outR 2 w (.slice ao t.outs.length co) t.outs) :
    Calls Tryz.prog 42 #[.agg #[.slice ai t.ins.length ci, .slice ao t.outs.length co, .int .i64 t.time]] w fun e w' => e = .returned (.int .i64 (txF t)) ∧ Below w.heap.size w w' := by
  obtain ⟨n1, n2, n3⟩ := new_tx w ai ao t.ins.length t.outs.length ci co t.time
  have k0 := (Kept.refl w).alloc (txV t ai ao ci co) 59
  unfold zTx at n1 n2
  obtain ⟨_, _, e, i1, i2⟩ := sl_bounds hi
  cases e
  obtain ⟨_, _, e, o1, o2⟩ := sl_bounds ho
  cases e
  unfold maxLen at i2 o2
  have HI := Lib.hid hi; have HO := Lib.hid ho
  have K0 := Lib.hid k0
  clear hi ho k0
  go_enter Tryz.func42, Tryz.ntmps42
  go_upto_region 1 with fail
  clear n1 n2 n3
  change Code.wp _ _ _ _ (w.alloc (.cells (txV t ai ao ci co) 59))
  obtain ⟨G, hG⟩ : ∃ G, w.heap.size = G := ⟨_, rfl⟩
  have K0' : Hid (∃ w0, w.alloc (.cells (txV t ai ao ci co) 59) = w0 ∧ Kept w [(G, txV t ai ao ci co, 59)] w0) := Lib.hid ⟨_, rfl, by rw [← hG]; exact K0.out⟩
  rw [hG] at ⊢
  clear hG K0
  obtain ⟨w0, hw0, k0⟩ := K0'.out
  rw [hw0]
  have K0 := Lib.hid k0
  clear hw0 k0 K0'
  have c0 : w0.cell? ⟨G, 0, none⟩ = some (.slice ai t.ins.length ci) := K0.out.cell 0 0 _ _ rfl rfl
  have c1 : w0.cell? ⟨G, 1, none⟩ = some (.slice ao t.outs.length co) := K0.out.cell 0 1 _ _ rfl rfl
  have c2 : w0.cell? ⟨G, 2, none⟩ = some (.int .i64 t.time) := K0.out.cell 0 2 _ _ rfl rfl
  by_cases h1 : 40 < t.ins.length
  · have HF : Hid (txF t = 4) := Lib.hid (by unfold txF; rw [if_pos (.inl h1)])
    go_wp2
    go_ret
    exact ⟨by rw [HF.out]; rfl, K0.out.below⟩
  by_cases h2 : 40 < t.outs.length
  · have HF : Hid (txF t = 4) := Lib.hid (by unfold txF; rw [if_pos (.inr h2)])
    go_wp2
    go_ret
    exact ⟨by rw [HF.out]; rfl, K0.out.below⟩
  have HL : Hid (¬ (40 < t.ins.length ∨ 40 < t.outs.length)) := Lib.hid (by omega)
  by_cases h3 : t.outs.length = 0
  · have HF : Hid (txF t = 5) := Lib.hid (by unfold txF; rw [if_neg HL.out, if_pos h3])
    have h4 := h3
    go_wp2
    go_ret
    exact ⟨by rw [HF.out]; rfl, K0.out.below⟩
  by_cases h4 : 0 ≤ t.time ∧ t.time ≤ 1073741824
  rotate_left
  · have HF : Hid (txF t = 2) := Lib.hid (by unfold txF; rw [if_neg HL.out, if_neg h3, if_pos h4])
    have d4 : decide (0 ≤ t.time ∧ t.time ≤ 1073741824) = false := decide_eq_false h4
    have HT := Lib.hid (time_any t.time)
    rw [d4] at HT
    have h5 : 0 < t.outs.length := by omega
    clear h4 h3 d4
    go_wp2_with fail
    refine (HT.out _).mono ?_
    rintro e w' ⟨rfl, hw'⟩
    rw [hw']
    clear hw' w'
    go_wp2
    go_ret
    exact ⟨by rw [HF.out]; rfl, K0.out.below⟩
  have HF : Hid (txF t = if insF [] t.ins = 0 then outsF t.outs else insF [] t.ins) := Lib.hid (by unfold txF; rw [if_neg HL.out, if_neg h3, if_neg (fun h => h h4)])
  have d4 : decide (0 ≤ t.time ∧ t.time ≤ 1073741824) = true := decide_eq_true h4
  have HT := Lib.hid (time_any t.time)
  rw [d4] at HT
  have h5 : 0 < t.outs.length := by omega
  clear h4 h3 d4
  go_wp2_with fail
  refine (HT.out _).mono ?_
  rintro e w' ⟨rfl, hw'⟩
  rw [hw']
  clear hw' w' HT
  go_wp2_with fail
  clear c0 c1 c2
  go_loopw [3] (fun c wr => ∃ j : Nat, j ≤ t.ins.length ∧ c = .int .i64 j ∧ Hid (Kept w [(G, txV t ai ao ci co, 59)] wr) ∧ Hid (insF [] t.ins = insF ((t.ins.take j).map InD.place) (t.ins.drop j))) (fun c _ => t.ins.length - (intOf c).toNat)
  case atStart => exact ⟨0, by omega, rfl, K0, Lib.hid rfl⟩
  case round =>
    obtain ⟨j, hj, rfl, HK, HFS⟩ := hrel
    have c0 : wr.cell? ⟨G, 0, none⟩ = some (.slice ai t.ins.length ci) := HK.out.cell 0 0 _ _ rfl rfl
    by_cases hlt : j < t.ins.length
    · obtain ⟨g, off, so, scap, rfl, -, h32, hkeys, hrow0⟩ := in_at HI.out j hlt
      have hrow : rowAt wr g (off + j * 34) 34 = some (inV t.ins[j] (.slice so t.ins[j].keys.length scap)) := (rowAt_below HK.out.below (rowAt_lt hrow0) _ _).trans hrow0
      have HAT := Lib.hid (insF_at t.ins j hlt)
      obtain ⟨x, hx⟩ : ∃ x, t.ins[j]'hlt = x := ⟨_, rfl⟩
      simp only [hx] at h32 hkeys hrow HAT
      obtain ⟨_, _, e, l1, l2⟩ := sl_bounds hkeys
      cases e
      unfold maxLen at l2
      have HKY := Lib.hid hkeys
      clear hx hrow0 hkeys
      obtain ⟨n1, n2, n3, n4⟩ := new_in wr x so x.keys.length scap h32
      unfold zIn at n1 n2
      go_upto_region 11 with fail
      clear n1 n2 n3 n4 hrow c0
      have HC32 : Hid ((inV x (.slice so x.keys.length scap))[32]? = some (.int .i64 x.ix)) := Lib.hid (inV_tail x _ h32).1
      have HC33 : Hid ((inV x (.slice so x.keys.length scap))[33]? = some (.slice so x.keys.length scap)) := Lib.hid (inV_tail x _ h32).2
      have K2' : Hid (∃ D w2, wr.heap.size = D ∧ wr.alloc (.cells (inV x (.slice so x.keys.length scap)) 100) = w2 ∧ Kept w [(D, inV x (.slice so x.keys.length scap), 100), (G, txV t (some ⟨g, off, none⟩) ao ci co, 59)] w2) := Lib.hid ⟨_, _, rfl, rfl, HK.out.alloc _ _⟩
      change Code.wp _ _ _ _ (wr.alloc (.cells (inV x (.slice so x.keys.length scap)) 100))
      obtain ⟨D, w2, hd, hw, k2⟩ := K2'.out
      rw [hd, hw]
      have K2 := Lib.hid k2
      have d32 : w2.cell? ⟨D, 32, none⟩ = some (.int .i64 x.ix) := k2.cell 0 32 _ _ rfl HC32.out
      clear hd hw k2 K2' HK
      have HXF : Hid (∀ f, inF ((t.ins.take j).map InD.place) x = f → f ≠ 0 → txF t = f) := Lib.hid fun f hf hn => by
        have h1 := HFS.out.trans ((HAT.out f hf).2 hn)
        rw [HF.out, if_neg (by rw [h1]; exact hn), h1]
      by_cases r1 : x.ix < 0
      · have HZ : Hid (txF t = 2) := Lib.hid (HXF.out 2 (inF_2 (.inl r1)) (by decide))
        go_wp2
        go_ret
        exact ⟨by rw [HZ.out]; rfl, K2.out.below⟩
      by_cases r2 : 40 ≤ x.ix
      · have HZ : Hid (txF t = 2) := Lib.hid (HXF.out 2 (inF_2 (.inr r2)) (by decide))
        go_wp2
        go_ret
        exact ⟨by rw [HZ.out]; rfl, K2.out.below⟩
      have HRG : Hid (¬ (x.ix < 0 ∨ 40 ≤ x.ix)) := Lib.hid (by omega)
      go_wp2_with fail
      clear d32 r1 r2
      go_loopw [5] (fun c ws => ∃ k : Nat, k ≤ j ∧ c = .int .i64 k ∧ Hid (Kept w [(D, inV x (.slice so x.keys.length scap), 100), (G, txV t (some ⟨g, off, none⟩) ao ci co, 59)] ws) ∧ Hid (∀ p ∈ (t.ins.take k).map InD.place, plE p x.place = false)) (fun c _ => j - (intOf c).toNat)
      case atStart => exact ⟨0, by omega, rfl, K2, Lib.hid (fun p hp => by simp at hp)⟩
      case round =>
        obtain ⟨k, hk, rfl, HK3, HNO⟩ := hrel
        by_cases hkj : k < j
        · obtain ⟨g', off', so2, scap2, e, -, h322, -, hrow2⟩ := in_at HI.out k (by omega)
          cases e
          have hrw : rowAt wr g (off + k * 34) 34 = some (inV t.ins[k] (.slice so2 t.ins[k].keys.length scap2)) := (rowAt_below HK3.out.below (rowAt_lt hrow2) _ _).trans hrow2
          have hpl := in_place hrw h322
          have hpx : rowAt wr D 0 33 = some (plV x.place) := in_place (HK3.out.row 0 _ 34 rfl (inV_size x _ h32)) h32
          have hp1 : t.ins[k].place.tx.length = 32 := h322
          have hp2 : x.place.tx.length = 32 := h32
          have HTK : Hid (t.ins.take (k + 1) = t.ins.take k ++ [t.ins[k]'(by omega)]) := Lib.hid (List.take_succ_eq_append_getElem (by omega))
          have HMM : Hid (t.ins[k]'(by omega) ∈ t.ins.take j) := Lib.hid (by rw [List.mem_take_iff_getElem]; exact ⟨k, by omega, rfl⟩)
          obtain ⟨q, hq⟩ : ∃ q, (t.ins[k]'(by omega)) = q := ⟨_, rfl⟩
          simp only [hq] at hpl hp1 HTK HMM
          have he := run_eql_place q.place x.place hp1 hp2
          have c0 : wr.cell? ⟨G, 0, none⟩ = some (.slice (some ⟨g, off, none⟩) t.ins.length ci) := HK3.out.cell 1 0 _ _ rfl rfl
          have hkl : k < t.ins.length := by omega
          obtain ⟨b, hb⟩ : ∃ b, plE q.place x.place = b := ⟨_, rfl⟩
          rw [hb] at he
          have HB := Lib.hid hb
          clear hrow2 hrw hq hb
          cases b
          · have HNO2 : Hid (∀ p ∈ (t.ins.take (k + 1)).map InD.place, plE p x.place = false) := Lib.hid (by
              rw [HTK.out, List.map_append]
              intro p hp
              rcases List.mem_append.1 hp with h | h
              · exact HNO.out p h
              · rw [show p = q.place from by simpa using h]; exact HB.out)
            go_wp2_with fail
            go_region
            all_goals
              go_wp2
              go_roundw
              case rel => exact ⟨k + 1, by omega, by go_num, Lib.hid HK3.out.drew, HNO2⟩
              case measure => simp [intOf]; omega
          · have HZ : Hid (txF t = 6) := Lib.hid (HXF.out 6 (inF_6 HRG.out (by
              rw [List.any_eq_true]
              exact ⟨q.place, List.mem_map_of_mem HMM.out, HB.out⟩)) (by decide))
            go_wp2_with fail
            go_region
            all_goals
              go_wp2
              go_ret
              exact ⟨by rw [HZ.out]; rfl, HK3.out.drew.below⟩
        · have hkk : k = j := by omega
          have HNN : Hid (((t.ins.take j).map InD.place).any (fun p => plE p x.place) = false) := Lib.hid (by
            rw [← hkk, List.any_eq_false]
            intro p hp; rw [HNO.out p hp]; decide)
          have d33 : wr.cell? ⟨D, 33, none⟩ = some (.slice so x.keys.length scap) := HK3.out.cell 0 33 _ _ rfl HC33.out
          clear hkk
          by_cases r3 : 30 < x.keys.length
          · have HZ : Hid (txF t = 4) := Lib.hid (HXF.out 4 (inF_4 HRG.out HNN.out (.inl r3)) (by decide))
            go_wp2
            go_ret
            exact ⟨by rw [HZ.out]; rfl, HK3.out.below⟩
          go_wp2_with fail
          clear d33
          go_loopw [6] (fun c ws => ∃ m : Nat, m ≤ x.keys.length ∧ c = .int .i64 m ∧ Hid (Kept w [(D, inV x (.slice so x.keys.length scap), 100), (G, txV t (some ⟨g, off, none⟩) ao ci co, 59)] ws) ∧ Hid (∀ q ∈ x.keys.take m, ¬ 3000 < q.length)) (fun c _ => x.keys.length - (intOf c).toNat)
          case atStart => exact ⟨0, by omega, rfl, HK3, Lib.hid (fun p hp => by simp at hp)⟩
          case round =>
            obtain ⟨m, hm, rfl, HK4, HSM⟩ := hrel
            have d33 : wr.cell? ⟨D, 33, none⟩ = some (.slice so x.keys.length scap) := HK4.out.cell 0 33 _ _ rfl HC33.out
            by_cases hmt : m < x.keys.length
            · obtain ⟨gk, offk, sk, kcap, rfl, -, e1, e2, -, ck⟩ := bs_at (bsR_stays.slB HKY.out HK4.out.below (Nat.le_refl _)) m hmt
              have HTM : Hid (x.keys.take (m + 1) = x.keys.take m ++ [x.keys[m]'hmt]) := Lib.hid (List.take_succ_eq_append_getElem hmt)
              have HMM : Hid (x.keys[m]'hmt ∈ x.keys) := Lib.hid (List.getElem_mem hmt)
              obtain ⟨q, hq⟩ : ∃ q, (x.keys[m]'hmt) = q := ⟨_, rfl⟩
              simp only [hq] at e1 ck HTM HMM
              clear hq
              by_cases hlong : 3000 < q.length
              · have HZ : Hid (txF t = 4) := Lib.hid (HXF.out 4 (inF_4 HRG.out HNN.out (.inr (by
                  rw [List.any_eq_true]
                  exact ⟨q, HMM.out, decide_eq_true hlong⟩))) (by decide))
                go_wp2
                go_ret
                exact ⟨by rw [HZ.out]; rfl, HK4.out.below⟩
              · have HSM2 : Hid (∀ q ∈ x.keys.take (m + 1), ¬ 3000 < q.length) := Lib.hid (by
                  rw [HTM.out]
                  intro p hp
                  rcases List.mem_append.1 hp with h | h
                  · exact HSM.out p h
                  · rw [List.mem_singleton.1 h]; exact hlong)
                go_wp2_with fail
                go_roundw
                case rel => exact ⟨m + 1, by omega, by go_num, HK4, HSM2⟩
                case measure => simp [intOf]; omega
            · have HAL : Hid (x.keys.any (fun k => decide (3000 < k.length)) = false) := Lib.hid (by
                rw [List.any_eq_false]
                intro q hq
                have := HSM.out q (by rw [List.take_of_length_le (by omega)]; exact hq)
                simpa using this)
              have HN : Hid (insF [] t.ins = insF ((t.ins.take (j + 1)).map InD.place) (t.ins.drop (j + 1))) := Lib.hid (HFS.out.trans ((HAT.out 0 (inF_0 HRG.out HNN.out r3 HAL.out)).1 rfl))
              go_wp2_with fail
              go_roundw
              case rel => exact ⟨j + 1, by omega, by go_num, Lib.hid (⟨HK4.out.below, fun b hb => HK4.out.at_ b (List.mem_cons_of_mem _ hb)⟩ : Kept w _ _), HN⟩
              case measure => simp [intOf]; omega
    · have HZ : Hid (insF [] t.ins = 0) := Lib.hid (by rw [HFS.out, List.drop_eq_nil_of_le (by omega)]; rfl)
      have HF2 : Hid (txF t = outsF t.outs) := Lib.hid (HF.out.trans (by rw [if_pos HZ.out]))
      clear HF HZ HFS
      go_wp2_with fail
      clear c0
      go_loopw [7] (fun c ws => ∃ k : Nat, k ≤ t.outs.length ∧ c = .int .i64 k ∧ Hid (Kept w [(G, txV t ai ao ci co, 59)] ws) ∧ Hid (outsF t.outs = outsF (t.outs.drop k))) (fun c _ => t.outs.length - (intOf c).toNat)
      case atStart => exact ⟨0, by omega, rfl, HK, Lib.hid rfl⟩
      case round =>
        obtain ⟨k, hk, rfl, HK3, HFS⟩ := hrel
        have c1 : wr.cell? ⟨G, 1, none⟩ = some (.slice ao t.outs.length co) := HK3.out.cell 0 1 _ _ rfl rfl
        by_cases hlk : k < t.outs.length
        · obtain ⟨g2, off2, so, scap, rfl, -, hlock, hrow⟩ := out_at (outR_stays.slB HO.out HK3.out.below (Nat.le_refl _)) k hlk
          have HAT := Lib.hid (outsF_at t.outs k hlk)
          obtain ⟨_, _, e, l1, l2⟩ := sl_bounds hlock
          cases e
          unfold maxLen at l2
          obtain ⟨o, ho⟩ : ∃ o, t.outs[k]'hlk = o := ⟨_, rfl⟩
          simp only [ho] at hlock hrow HAT l1
          have HLX := Lib.hid hlock
          have e0 : wr.cell? ⟨g2, off2 + k * 2, none⟩ = some (.int .i64 o.amount) := cell_of_rowAt hrow 0 (by omega)
          have e1 : wr.cell? ⟨g2, off2 + k * 2 + 1, none⟩ = some (.slice so o.lock.length scap) := cell_of_rowAt hrow 1 (by omega)
          clear hlock hrow ho
          by_cases hm : 0 ≤ o.amount ∧ o.amount ≤ 1125899906842624
          · have d4 : decide (0 ≤ o.amount ∧ o.amount ≤ 1125899906842624) = true := decide_eq_true hm
            have HOF : Hid (outF o = lockF o.lock) := Lib.hid (by unfold outF; rw [if_neg (by omega)])
            have HM := Lib.hid (money_any o.amount)
            rw [d4] at HM
            clear hm d4
            go_wp2_with fail
            refine (HM.out _).mono ?_
            rintro e w' ⟨rfl, hw'⟩
            rw [hw']
            clear hw' w'
            go_wp2_with fail
            refine (lockFault_any o.lock so scap _ HLX.out).mono ?_
            rintro e w3 ⟨rfl, hb3⟩
            have K3 := Lib.hid (HK3.out.on hb3); clear hb3
            obtain ⟨f, hf⟩ : ∃ x, lockF o.lock = x := ⟨_, rfl⟩
            rw [hf] at HOF ⊢
            clear hf
            by_cases hz : f = 0
            · have HST := Lib.hid (HFS.out.trans (HAT.out.1 (HOF.out.trans hz)))
              subst hz
              go_wp2
              go_roundw
              case rel => exact ⟨k + 1, by omega, by go_num, K3, HST⟩
              case measure => simp [intOf]; omega
            · have HZ : Hid (txF t = f) := Lib.hid (by rw [HF2.out, HFS.out, HAT.out.2 (by rw [HOF.out]; exact hz), HOF.out])
              have q : (f != 0) = true := by rw [bne_iff_ne]; exact hz
              clear hz
              go_wp2
              go_ret
              exact ⟨by rw [HZ.out]; rfl, K3.out.below⟩
          · have d4 : decide (0 ≤ o.amount ∧ o.amount ≤ 1125899906842624) = false := decide_eq_false hm
            have HOF : Hid (outF o = 2) := Lib.hid (by unfold outF; rw [if_pos (by omega)])
            have HZ : Hid (txF t = 2) := Lib.hid (by rw [HF2.out, HFS.out, HAT.out.2 (by rw [HOF.out]; decide), HOF.out])
            have HM := Lib.hid (money_any o.amount)
            rw [d4] at HM
            clear hm d4
            go_wp2_with fail
            refine (HM.out _).mono ?_
            rintro e w' ⟨rfl, hw'⟩
            rw [hw']
            clear hw' w'
            go_wp2
            go_ret
            exact ⟨by rw [HZ.out]; rfl, HK3.out.below⟩
        · have HZ : Hid (txF t = 0) := Lib.hid (by rw [HF2.out, HFS.out, List.drop_eq_nil_of_le (by omega)]; rfl)
          go_wp2
          go_ret
          exact ⟨by rw [HZ.out]; rfl, HK3.out.below⟩
end Go.Proofs.YtljcdkfafknnpaaGreatDoor
