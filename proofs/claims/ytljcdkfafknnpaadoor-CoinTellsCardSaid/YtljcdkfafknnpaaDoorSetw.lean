/- The walk of the reference's SetFault. Conditions: none beyond each theorem's own. -/
import Derived.Test.YtljcdkfafknnpaaDoorSetp
import Derived.Deep.DeepCutAuto
import Derived.BigQuiet
import Derived.BigRegion
namespace Go.Proofs.YtljcdkfafknnpaaDoor
set_option linter.unusedVariables false
set_option linter.unusedSimpArgs false
open Go.RowKit
attribute [local go_sem ↓] run_load_agg run_store_agg run_load_any

/-- The worlds of a region that reads a place and a coin of the call's own, and calls. -/
structure HeldC (w0 : World) (A ao : Nat) (p : PlaceD) (G : Nat) (c : CoinD) (s : Value) (w : World) : Prop where
  below : Below w0.heap.size w0 w
  a : rowAt w A ao 33 = some (plV p)
  c : CoinAt w G c s
theorem HeldC.on {w0 : World} {A ao : Nat} {p : PlaceD} {G : Nat} {c : CoinD} {s : Value} {w w' : World} (h : HeldC w0 A ao p G c s w) (hb : Below w.heap.size w w') : HeldC w0 A ao p G c s w' :=
  ⟨h.below.trans (hb.mono h.below.size), (rowAt_below hb (rowAt_lt h.a) _ _).trans h.a, h.c.on hb⟩
set_option maxHeartbeats 8000000 in
set_option maxRecDepth 100000 in
theorem setFault_any (cs : List CoinD) (ao : Option Addr) (cap : Nat) (w : World) (h : rdSl coinR 36 w (.slice ao cs.length cap) cs) :
    Calls Tryd.prog 17 #[.slice ao cs.length cap] w fun e w' => e = .returned (.int .i64 (setF cs)) ∧ Below w.heap.size w w' := by
  obtain ⟨_, _, e, hcap, hmax⟩ := sl_bounds h
  cases e
  unfold maxLen at hmax
  have HS := Lib.hid h; clear h
  by_cases hn : 1000 < cs.length
  · have hf : setF cs = 4 := by unfold setF; rw [if_pos hn]
    have HF := Lib.hid hf; clear hf
    go_enter Tryd.func17, Tryd.ntmps17
    go_wp2
    go_ret
    exact ⟨by rw [HF.out]; rfl, Below.refl _ _⟩
  have HN := Lib.hid (setF_of cs hn)
  go_enter Tryd.func17, Tryd.ntmps17
  go_wp2_with fail
  go_loopw [3] (fun c wr => ∃ j : Nat, j ≤ cs.length ∧ c = .int .i64 j ∧ Hid (Below w.heap.size w wr) ∧ Hid (setFrom cs cs.length 0 = setFrom cs (cs.length - j) j)) (fun c _ => cs.length - (intOf c).toNat)
  case atStart => exact ⟨0, by omega, rfl, Lib.hid (Below.refl _ _), Lib.hid rfl⟩
  case round =>
    obtain ⟨j, hj, rfl, HB, HF⟩ := hrel
    by_cases hlt : j < cs.length
    · obtain ⟨g, off, so, scap, rfl, -, h32, d1, d2, hlock, hrow⟩ := coin_at (coinR_stays.slB HS.out HB.out (Nat.le_refl _)) j hlt
      have HSA := Lib.hid (setFrom_ahead cs j hlt); have HSH := Lib.hid (setFrom_hit cs j hlt); have HST := Lib.hid (setFrom_step cs j hlt)
      have hgd : cs.getD j default = cs[j] := by rw [List.getD_eq_getElem?_getD, List.getElem?_eq_getElem hlt, Option.getD_some]
      obtain ⟨c, hc⟩ : ∃ c, cs[j] = c := ⟨_, rfl⟩
      rw [hgd] at HSH HST
      rw [hc] at hgd h32 d1 hlock hrow HSH HST
      have HLK := Lib.hid hlock; have HGD := Lib.hid hgd
      obtain ⟨n1, n2, n3, n4⟩ := new_coin wr c so c.lock.length scap h32
      have B0 := Lib.hid (HB.out.alloc HB.out.size (.cells (coinV c (.slice so c.lock.length scap)) 59))
      have BR := Lib.hid ((Below.refl wr.heap.size wr).alloc (Nat.le_refl _) (.cells (coinV c (.slice so c.lock.length scap)) 59))
      have HCA := Lib.hid (CoinAt.new wr c (.slice so c.lock.length scap) h32)
      have hgl := rowAt_lt hrow
      clear hc hlock hgd
      unfold zCoin at n1 n2
      go_upto_region 7 with fail
      clear n1 n2 n3 n4
      obtain ⟨G, hG⟩ : ∃ G, wr.heap.size = G := ⟨_, rfl⟩
      have hB1 := B0.out
      change Code.wp _ _ _ _ (wr.alloc (.cells (coinV c (.slice so c.lock.length scap)) 59))
      have hrow1 : Hid (∀ o n, rowAt (wr.alloc (.cells (coinV c (.slice so c.lock.length scap)) 59)) g o n = rowAt wr g o n) := fun o n => rowAt_alloc_past _ _ _ _ _ hgl
      rw [hG] at HCA hgl ⊢
      generalize wr.alloc (.cells (coinV c (.slice so c.lock.length scap)) 59) = w0 at B0 BR HCA hB1 hrow1 ⊢
      clear hrow hB1
      go_cut [32] (fun s wx => ∃ b : Bool, s = .bool b ∧ Hid (aheadB cs j = b) ∧ Below wr.heap.size wr wx ∧ CoinAt wx G c (.slice so c.lock.length scap))
      case first =>
        by_cases hj0 : 0 < j
        · obtain ⟨g1, off1, so1, scap1, e1, -, p32, -, -, -, prow⟩ := coin_at (coinR_stays.slB HS.out HB.out (Nat.le_refl _)) (j - 1) (by omega)
          cases e1
          have q1 : decide ((0 : Int) < (j : Int)) = true := decide_eq_true (by omega)
          have q2 : (0 : Int) < (j : Int) := by omega
          obtain ⟨P, hP⟩ : ∃ P, cs[j - 1].place = P := ⟨_, rfl⟩
          have hP32 : P.tx.length = 32 := by rw [← hP]; exact p32
          have hpl : rowAt wr g (off + (j - 1) * 36) 33 = some (plV P) := by
            have := rowAt_part prow 0 33 (by omega)
            rw [Nat.add_zero, Nat.zero_add, coinV_place _ _ p32, hP] at this
            exact this
          have hah : aheadB cs j = decide (0 ≤ plC P c.place) := by
            unfold aheadB
            rw [decide_eq_true hj0, Bool.true_and, HGD.out, List.getD_eq_getElem?_getD, List.getElem?_eq_getElem (show j - 1 < cs.length by omega), Option.getD_some, hP]
          have HAH := Lib.hid hah
          have hc32 : c.place.tx.length = 32 := h32
          obtain ⟨i, hi⟩ : ∃ i, j - 1 = i := ⟨_, rfl⟩
          rw [hi] at hpl
          have q3 : (j : Int) - 1 = (i : Int) := by omega
          have q4 : IntKind.i64.wrap (i : Int) = (i : Int) := by rw [IntKind.wrap_i64]; omega
          have q5 : i < cs.length := by omega
          have q6 : (0 : Int) ≤ (i : Int) := by omega
          have q7 : (i : Int) < (cs.length : Int) := by omega
          have HH : Hid (HeldC wr g (off + i * 36) P G c (.slice so c.lock.length scap) w0) := ⟨BR.out, (hrow1.out _ _).trans hpl, HCA.out⟩
          clear hP hpl hah prow hi p32
          refine wp_region_quiet (C := HeldC wr g (off + i * 36) P G c (.slice so c.lock.length scap)) (by kernel_rfl) (by kernel_rfl) (HH.out.on (Below.refl _ _).drew) ?_
          iterate 8 quiet_step ((intro _; with_reducible rfl))
          refine wpQuiet_step (fun K hK => ?_)
          rw [if_pos (by rfl)]
          refine quiet_loadP g (off + i * 36) _ rfl (fun w h => h.a) (hK _ ?_)
          clear hK K
          quiet_step ((intro _; with_reducible rfl))
          refine wpQuiet_step (fun K hK => ?_)
          rw [if_pos (by rfl)]
          refine quiet_loadP G 0 _ rfl (fun w h => h.c.p) (hK _ ?_)
          clear hK K
          quiet_step ((intro hC; refine (places_any P c.place hP32 hc32 _).mono ?_; rintro e w9 ⟨rfl, hb9⟩; exact ⟨rfl, hC.on hb9⟩))
          iterate 2 quiet_step ((intro _; with_reducible rfl))
          refine wpQuiet_nil ?_
          intro w3 hw3
          have HH3 := Lib.hid hw3
          clear hw3
          go_wp2_with fail
          go_meet
          exact ⟨_, rfl, HAH, HH3.out.below, HH3.out.c⟩
        · have HF0 : Hid (aheadB cs j = false) := by show aheadB cs j = false; unfold aheadB; rw [decide_eq_false hj0]; rfl
          have q1 : decide ((0 : Int) < (j : Int)) = false := decide_eq_false (by omega)
          have q2 : ¬ ((0 : Int) < (j : Int)) := by omega
          go_region
          all_goals
            go_wp2_with fail
            go_meet
            exact ⟨false, rfl, HF0, BR.out.drew, HCA.out.on (Below.refl _ _).drew⟩
      case rest =>
        obtain ⟨b, rfl, HA, hB2, hC2⟩ := hcut
        have B2 := Lib.hid (HB.out.trans (hB2.mono HB.out.size))
        obtain ⟨-, c1, c2, c3, c4⟩ := hC2
        have HLK2 := Lib.hid (opR_stays.slB HLK.out hB2 (Nat.le_refl _))
        clear hB2
        cases b
        case true =>
          have HZ := Lib.hid (HN.out 6 (HF.out.trans (HSA.out HA.out)))
          go_wp2
          go_ret
          exact ⟨by rw [HZ.out]; rfl, B2.out⟩
        have HSH2 := Lib.hid (HSH.out HA.out); have HST2 := Lib.hid (HST.out HA.out)
        have hbad : (c.ix < 0 ∨ 40 ≤ c.ix ∨ c.height < 0 ∨ 1073741824 < c.height ∨ c.amount < 0 ∨ 1125899906842624 < c.amount) → setF cs = 2 := fun hb => HN.out 2 (HF.out.trans (HSH2.out 2 (by unfold coinF; rw [if_pos hb]) (by decide)))
        have hgood : ¬ (c.ix < 0 ∨ 40 ≤ c.ix ∨ c.height < 0 ∨ 1073741824 < c.height ∨ c.amount < 0 ∨ 1125899906842624 < c.amount) → coinF c = lockF c.lock := fun hb => by unfold coinF; rw [if_neg hb]
        have HBAD := Lib.hid hbad; have HGOOD := Lib.hid hgood
        clear hbad hgood
        by_cases h1 : c.ix < 0
        · have HZ := Lib.hid (HBAD.out (.inl h1))
          go_wp2
          go_ret
          exact ⟨by rw [HZ.out]; rfl, B2.out⟩
        by_cases h2 : 40 ≤ c.ix
        · have HZ := Lib.hid (HBAD.out (by omega))
          go_wp2
          go_ret
          exact ⟨by rw [HZ.out]; rfl, B2.out⟩
        by_cases h3 : 0 ≤ c.height ∧ c.height ≤ 1073741824
        · by_cases h4 : 0 ≤ c.amount ∧ c.amount ≤ 1125899906842624
          · have hco := HGOOD.out (by omega)
            have d3 : decide (0 ≤ c.height ∧ c.height ≤ 1073741824) = true := decide_eq_true h3
            have d4 : decide (0 ≤ c.amount ∧ c.amount ≤ 1125899906842624) = true := decide_eq_true h4
            have HT := Lib.hid (time_any c.height); have HM := Lib.hid (money_any c.amount)
            rw [d3] at HT
            rw [d4] at HM
            have HCO := Lib.hid hco
            clear h3 h4 d3 d4 hco
            go_wp2_with fail
            refine (HT.out _).mono ?_
            rintro e w' ⟨rfl, hw'⟩
            rw [hw']
            clear hw' w'
            go_wp2_with fail
            refine (HM.out _).mono ?_
            rintro e w' ⟨rfl, hw'⟩
            rw [hw']
            clear hw' w'
            go_wp2_with fail
            refine (lockFault_any c.lock so scap _ HLK2.out).mono ?_
            rintro e w1 ⟨rfl, hb1⟩
            have B3 := Lib.hid (B2.out.trans (hb1.mono B2.out.size)); clear hb1
            obtain ⟨f, hf⟩ : ∃ x, lockF c.lock = x := ⟨_, rfl⟩
            rw [hf] at HCO ⊢
            clear hf
            by_cases hz : f = 0
            · have hst := HF.out.trans (HST2.out (HCO.out.trans hz))
              have HF2 := Lib.hid hst
              subst hz
              clear hst
              go_wp2
              go_roundw
              case rel => exact ⟨j + 1, by omega, by go_num, B3, HF2⟩
              case measure => simp [intOf]; omega
            · have HZ := Lib.hid (HN.out f (HF.out.trans (HSH2.out f HCO.out hz)))
              have q : (f != 0) = true := by rw [bne_iff_ne]; exact hz
              clear hz
              go_wp2
              go_ret
              exact ⟨by rw [HZ.out]; rfl, B3.out⟩
          · have HZ := Lib.hid (HBAD.out (by omega))
            have d3 : decide (0 ≤ c.height ∧ c.height ≤ 1073741824) = true := decide_eq_true h3
            have d4 : decide (0 ≤ c.amount ∧ c.amount ≤ 1125899906842624) = false := decide_eq_false h4
            have HT := Lib.hid (time_any c.height); have HM := Lib.hid (money_any c.amount)
            rw [d3] at HT
            rw [d4] at HM
            clear h3 h4 d3 d4
            go_wp2_with fail
            refine (HT.out _).mono ?_
            rintro e w' ⟨rfl, hw'⟩
            rw [hw']
            clear hw' w'
            go_wp2_with fail
            refine (HM.out _).mono ?_
            rintro e w' ⟨rfl, hw'⟩
            rw [hw']
            clear hw' w'
            go_wp2
            go_ret
            exact ⟨by rw [HZ.out]; rfl, B2.out⟩
        · have HZ := Lib.hid (HBAD.out (by omega))
          have d3 : decide (0 ≤ c.height ∧ c.height ≤ 1073741824) = false := decide_eq_false h3
          have HT := Lib.hid (time_any c.height)
          rw [d3] at HT
          clear h3 d3
          go_wp2_with fail
          refine (HT.out _).mono ?_
          rintro e w' ⟨rfl, hw'⟩
          rw [hw']
          clear hw' w'
          go_wp2
          go_ret
          exact ⟨by rw [HZ.out]; rfl, B2.out⟩
    · have hz := HN.out 0 (by rw [HF.out]; exact setFrom_end cs j (by omega))
      have HZ := Lib.hid hz
      clear hz
      go_wp2
      go_ret
      exact ⟨by rw [HZ.out]; rfl, HB.out⟩
end Go.Proofs.YtljcdkfafknnpaaDoor
