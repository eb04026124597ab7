/- Merged: Csm RCsm ClSm. Conditions: none beyond each theorem's own. -/
import Derived.Test.YtljcdkfafknnpaaDoorMc
import Derived.Test.YtljcdkfafknnpaaDoorMa
namespace Go.Proofs.YtljcdkfafknnpaaDoor
set_option linter.unusedVariables false
set_option linter.unusedSimpArgs false
open Go.RowKit
attribute [local go_sem ↓] run_load_agg run_store_agg run_load_any

theorem sumE_zero {cs : List CoinD} (h : sumE cs = 0) : setF cs = 0 ∧ sumV cs = (amounts cs).sum := by
  unfold sumE at h
  split at h
  · rename_i hs
    refine ⟨hs, ?_⟩
    unfold sumV
    rw [if_pos hs, totV_sum h]
  · rename_i hs; exact absurd h hs
theorem sumV_le (cs : List CoinD) : 0 ≤ sumV cs ∧ sumV cs ≤ 1125899906842624 := by
  unfold sumV
  split
  · exact totV_le _
  · exact ⟨by omega, by omega⟩
theorem outs_bound : ∀ (os : List OutD), (∀ o ∈ os, OutOk o) → 0 ≤ (os.map OutD.amount).sum ∧ (os.map OutD.amount).sum ≤ os.length * 1125899906842624
  | [], _ => by simp
  | o :: os, h => by
    have h1 := outs_bound os (fun p hp => h p (by simp [hp]))
    have h2 := h o (by simp)
    have a0 := h2.a0; have a1 := h2.a1
    simp only [List.map_cons, List.sum_cons, List.length_cons]
    omega
set_option maxHeartbeats 4000000 in
set_option maxRecDepth 100000 in
theorem coinSums_any (cs : List CoinD) (ca : Option Addr) (cc : Nat) (t : TxD) (ai : Option Addr) (ci : Nat) (ao : Option Addr) (co : Nat) (h : Int) (w : World) (hc : rdSl coinR 36 w (.slice ca cs.length cc) cs) (hi : rdSl inR 34 w (.slice ai t.ins.length ci) t.ins) (ho : rdSl outR 2 w (.slice ao t.outs.length co) t.outs) (hT : tabAt w) :
    Calls Tryd.prog 6 #[.slice ca cs.length cc, .agg #[.slice ai t.ins.length ci, .slice ao t.outs.length co, .int .i64 t.time], .int .i64 h] w fun e w' => e = .returned (.bool true) ∧ Below w.heap.size w w' := by
  obtain ⟨n1, n2, n3⟩ := new_tx w ai ao t.ins.length t.outs.length ci co t.time
  unfold zTx at n1 n2
  have hgT := rowAt_lt hT
  have HC := Lib.hid hc; have HI := Lib.hid hi; have HO := Lib.hid ho; have HT := Lib.hid hT
  have HX := Lib.hid (heap_alloc_new w (.cells #[.slice ai t.ins.length ci, .slice ao t.outs.length co, .int .i64 t.time] 25))
  have B0 := Lib.hid ((Below.refl w.heap.size w).alloc (Nat.le_refl _) (.cells #[.slice ai t.ins.length ci, .slice ao t.outs.length co, .int .i64 t.time] 25))
  clear hc hi ho hT
  go_enter Tryd.func6, Tryd.ntmps6
  go_upto_region 1 with fail
  clear n1 n2 n3
  change Code.wp _ _ _ _ (w.alloc (.cells #[.slice ai t.ins.length ci, .slice ao t.outs.length co, .int .i64 t.time] 25))
  obtain ⟨G, hG⟩ : ∃ G, w.heap.size = G := ⟨_, rfl⟩
  rw [hG] at HX ⊢
  clear hG
  generalize w.alloc (.cells #[.slice ai t.ins.length ci, .slice ao t.outs.length co, .int .i64 t.time] 25) = w0 at HX B0 ⊢
  go_wp2_with fail
  refine (made_law w0 ((rowAt_below B0.out hgT 0 64).trans HT.out)).mono ?_
  rintro e w1 ⟨rfl, hb⟩
  have B1 := Lib.hid (B0.out.trans (hb.mono B0.out.size))
  have HX1 : Hid (w1.heap[G]? = some (.cells #[.slice ai t.ins.length ci, .slice ao t.outs.length co, .int .i64 t.time] 25 (0, 0))) := (hb.block G (Array.getElem?_eq_some_iff.1 HX.out).1).trans HX.out
  have r3 : rowAt w1 G 0 3 = some #[.slice ai t.ins.length ci, .slice ao t.outs.length co, .int .i64 t.time] := rowAt_whole HX1.out 3 rfl
  clear hb
  go_wp2_with fail
  refine (apply_any cs t h ca ai ao cc ci co w1 (coinR_stays.slB HC.out B1.out (Nat.le_refl _)) (inR_stays.slB HI.out B1.out (Nat.le_refl _)) (outR_stays.slB HO.out B1.out (Nat.le_refl _)) ((rowAt_below B1.out hgT 0 64).trans HT.out)).mono ?_
  rintro e w2 ⟨hb, hap⟩
  have B2 := Lib.hid (B1.out.trans (hb.mono B1.out.size))
  have HX2 : Hid (w2.heap[G]? = some (.cells #[.slice ai t.ins.length ci, .slice ao t.outs.length co, .int .i64 t.time] 25 (0, 0))) := (hb.block G (Array.getElem?_eq_some_iff.1 HX1.out).1).trans HX1.out
  clear hb r3
  rcases hap with ⟨hz, rfl⟩ | ⟨hz, v, u, rfl, hs2, hu2⟩
  · rw [errV_ne hz]
    clear hz
    go_wp2
    go_ret
    exact ⟨rfl, B2.out⟩
  · have hok := applyOk_of hz
    obtain ⟨e1, e2, e3⟩ := hok.sums ((all32_iff cs).1 (all32_of HC.out))
    have hto := txOk_of hok.tx
    have hcl := (setF_zero cs hok.set).1
    obtain ⟨va, vcap, rfl, s1, s2⟩ := sl_bounds hs2
    obtain ⟨ua, ucap, rfl, u1, u2⟩ := sl_bounds hu2
    unfold maxLen at s2 u2
    have e4 := news_sum (idD t) h t.outs 0
    have HSR := Lib.hid hs2
    rw [errV_0]
    go_wp2_with fail
    refine (coinSum_any cs ca cc w2 (coinR_stays.slB HC.out B2.out (Nat.le_refl _))).mono ?_
    rintro e w3 ⟨rfl, hb⟩
    have B3 := Lib.hid (B2.out.trans (hb.mono B2.out.size))
    have HX3 : Hid (w3.heap[G]? = some (.cells #[.slice ai t.ins.length ci, .slice ao t.outs.length co, .int .i64 t.time] 25 (0, 0))) := (hb.block G (Array.getElem?_eq_some_iff.1 HX2.out).1).trans HX2.out
    have HS3 := Lib.hid (coinR_stays.slB HSR.out hb (Nat.le_refl _))
    have HQ1 := Lib.hid (fun z => sumE_zero (cs := cs) z)
    have HQ2 := Lib.hid (fun z => sumE_zero (cs := applyS cs t h) z)
    have HB1 := Lib.hid (sumV_le cs)
    have HB2 := Lib.hid (sumV_le (applyS cs t h))
    obtain ⟨A, hA⟩ : ∃ A, sumV cs = A := ⟨_, rfl⟩
    obtain ⟨F1, hF1⟩ : ∃ F, sumE cs = F := ⟨_, rfl⟩
    rw [hA, hF1] at HQ1 ⊢
    rw [hA] at HB1
    clear hb hA hF1 hs2
    go_wp2_with fail
    refine (coinSum_any (applyS cs t h) va vcap w3 HS3.out).mono ?_
    rintro e w4 ⟨rfl, hb⟩
    have B4 := Lib.hid (B3.out.trans (hb.mono B3.out.size))
    have HX4 : Hid (w4.heap[G]? = some (.cells #[.slice ai t.ins.length ci, .slice ao t.outs.length co, .int .i64 t.time] 25 (0, 0))) := (hb.block G (Array.getElem?_eq_some_iff.1 HX3.out).1).trans HX3.out
    obtain ⟨B, hB⟩ : ∃ B, sumV (applyS cs t h) = B := ⟨_, rfl⟩
    obtain ⟨F2, hF2⟩ : ∃ F, sumE (applyS cs t h) = F := ⟨_, rfl⟩
    rw [hB, hF2] at HQ2 ⊢
    rw [hB] at HB2
    clear hb hB hF2
    by_cases z1 : F1 = 0
    · by_cases z2 : F2 = 0
      · rw [z1, z2, errV_0]
        have q1 := (HQ1.out z1).2
        have q2 := (HQ2.out z2).2
        clear z1 z2 HQ1 HQ2
        have a0 := HB1.out.1; have a1 := HB1.out.2; have b0 := HB2.out.1; have b1 := HB2.out.2
        have ob := outs_bound t.outs hto.out
        have hoo := hto.outs
        have hio := hto.ins
        have KL : Hid (applyL cs t h = if 0 < t.ins.length then (amounts (spC cs t.ins)).sum - (amounts (newsT t h)).sum else 0) := by
          show applyL cs t h = _
          unfold applyL
          rw [totV_sum hok.had, totV_sum hok.pays]
        have k0 : 0 < t.ins.length → (amounts (newsT t h)).sum ≤ (amounts (spC cs t.ins)).sum := fun hn => by
          have := hok.left hn
          rw [totV_sum hok.had, totV_sum hok.pays] at this
          exact this
        have k1 : (amounts (newsT t h)).sum = (t.outs.map OutD.amount).sum := e4
        have k2 : t.ins.length = 0 → (amounts (spC cs t.ins)).sum = 0 := fun hn => by
          rw [List.eq_nil_of_length_eq_zero hn]; rfl
        have K0 := Lib.hid k0; have K1 := Lib.hid k1; have K2 := Lib.hid k2
        rw [e3] at e2
        have HSL := Lib.hid e2
        have KQ : Hid (B + (amounts (spC cs t.ins)).sum = A + (amounts (newsT t h)).sum) := by
          show B + (amounts (spC cs t.ins)).sum = A + (amounts (newsT t h)).sum
          omega
        have HOK := Lib.hid hto.out
        clear q1 q2 e1 e2 e3 e4 k0 k1 k2
        obtain ⟨L, hL⟩ : ∃ L, applyL cs t h = L := ⟨_, rfl⟩
        rw [hL] at KL ⊢
        obtain ⟨p1, hp1⟩ : ∃ n, (applyS cs t h).length = n := ⟨_, rfl⟩
        rw [hp1] at HSL ⊢
        clear hL hp1 s1 u1 s2 u2 HSR HS3 hu2 hok
        have r3 : rowAt w4 G 0 3 = some #[.slice ai t.ins.length ci, .slice ao t.outs.length co, .int .i64 t.time] := rowAt_whole HX4.out 3 rfl
        have HO4 := Lib.hid (outR_stays.slB HO.out B4.out (Nat.le_refl _))
        go_wp2_with fail
        go_loopw [16, 17] (fun s c wr => Hid (wr = w4) ∧ ∃ (j : Nat) (S : Int), j ≤ t.outs.length ∧ s = .int .i64 S ∧ c = .int .i64 j ∧ Hid (((t.outs.take j).map OutD.amount).sum = S)) (fun _ c _ => t.outs.length - (intOf c).toNat)
        case atStart => exact ⟨Lib.hid rfl, 0, 0, by omega, rfl, rfl, Lib.hid rfl⟩
        case round =>
          obtain ⟨hw, j, S, hj, rfl, rfl, HS⟩ := hrel
          have hw' := hw.out
          subst hw'
          clear hw
          have c0 : wr.cell? ⟨G, 1, none⟩ = some (.slice ao t.outs.length co) := by rw [cell_of_row _ _ _ _ _ _ HX4.out]; rfl
          by_cases hlt : j < t.outs.length
          · obtain ⟨g, off, so, scap, rfl, -, -, hrow⟩ := out_at HO4.out j hlt
            have hts : (t.outs.take (j+1)) = t.outs.take j ++ [t.outs[j]] := List.take_succ_eq_append_getElem hlt
            have hoj := HOK.out _ (List.getElem_mem hlt)
            have ha0 := hoj.a0; have ha1 := hoj.a1
            have hsb := outs_bound (t.outs.take j) (fun o ho => HOK.out o (List.mem_of_mem_take ho))
            rw [List.length_take] at hsb
            have hS := HS.out
            have HS1 : Hid (((t.outs.take (j+1)).map OutD.amount).sum = S + t.outs[j].amount) := by
              show ((t.outs.take (j+1)).map OutD.amount).sum = S + t.outs[j].amount
              rw [hts, List.map_append, List.sum_append, hS]; simp
            rw [hS] at hsb
            clear hS hts hoj
            obtain ⟨a, ha⟩ : ∃ a, t.outs[j].amount = a := ⟨_, rfl⟩
            rw [ha] at HS1 ha0 ha1 hrow
            clear ha
            have c1 : wr.cell? ⟨g, off + j * 2, none⟩ = some (.int .i64 a) := cell_of_rowAt hrow 0 (by omega)
            have hS0 := hsb.1
            have hS1 : S ≤ 45035996273704960 := by omega
            clear hsb hrow
            go_wp2_with fail
            go_roundw
            case rel => exact ⟨trivial, j + 1, S + a, by omega, rfl, by go_num, HS1⟩
            case measure => simp [intOf]; omega
          · obtain rfl : j = t.outs.length := by omega
            have hS := HS.out
            rw [List.take_length] at hS
            have c2 : wr.cell? ⟨G, 0, none⟩ = some (.slice ai t.ins.length ci) := by rw [cell_of_row _ _ _ _ _ _ HX4.out]; rfl
            have hob := ob.1
            have hob2 : (t.outs.map OutD.amount).sum ≤ 45035996273704960 := by omega
            clear ob
            rw [hS] at K1 hob hob2
            clear hS
            have hcl2 := hcl
            obtain ⟨no, hno⟩ : ∃ n, t.outs.length = n := ⟨_, rfl⟩
            obtain ⟨ni, hni⟩ : ∃ n, t.ins.length = n := ⟨_, rfl⟩
            obtain ⟨na, hna⟩ : ∃ n, cs.length = n := ⟨_, rfl⟩
            rw [hno] at HSL hoo c0 ⊢
            rw [hni] at HSL hio KL K0 K2 c2 ⊢
            rw [hna] at HSL hcl2 ⊢
            clear hno hni hna
            have h0 := HSL.out
            have f1 : ((p1 : Int) != (na : Int) - (ni : Int) + (no : Int)) = false := by
              have : (p1 : Int) = (na : Int) - (ni : Int) + (no : Int) := by omega
              rw [this]; simp
            have f2 : decide (L < 0) = false := by
              have := KL.out
              have := K0.out
              simp only [decide_eq_false_iff_not]
              split at * <;> omega
            have q1 := KQ.out
            have q2 := KL.out
            have q3 := K1.out
            have q4 := K2.out
            by_cases hn : ni = 0
            · rw [if_neg (by omega)] at q2
              have q5 := q4 hn
              have f3 : (B == A + S) = true := by simp; omega
              have f4 : ((ni : Int) == 0) = true := by simp; omega
              have f5 : (L == 0) = true := by simp; omega
              clear h0 hcl hn q1 q2 q3 q4 q5 KQ KL K1 K2
              go_wp2
              go_ret
              exact ⟨rfl, B4.out⟩
            · rw [if_pos (by omega)] at q2
              have f3 : (B == A - L) = true := by simp; omega
              have f4 : ((ni : Int) == 0) = false := by simp; omega
              have hl0 : 0 ≤ L := by have := K0.out (by omega); omega
              have hl1 : L ≤ A := by omega
              clear h0 hcl q1 q2 q3 q4 KQ KL K1 K2
              go_wp2
              go_ret
              exact ⟨rfl, B4.out⟩
      · rw [z1, errV_0, errV_ne z2]
        clear z1 z2 HQ1 HQ2
        go_wp2
        go_ret
        exact ⟨rfl, B4.out⟩
    · rw [errV_ne z1]
      clear z1 HQ1 HQ2
      go_wp2
      go_ret
      exact ⟨rfl, B4.out⟩
end Go.Proofs.YtljcdkfafknnpaaDoor
namespace Go.Proofs.YtljcdkfafknnpaaDoor.coinSums
set_option linter.unusedVariables false
set_option linter.unusedSimpArgs false
open Go.ChangeShapes Go.WideShapes Go.ChangeAt Go.RowKit
open Go.Proofs.YtljcdkfafknnpaaDoor

theorem okWide_arr {P : Program} {w : World} {r : Reach} {base : Nat} {n : Nat} {t e : TypeId} {v : Value} (ht : P.underlying t = some (.array n e)) (h : Value.okWide P w r base t v) : ∃ cs, v = .agg cs ∧ cs.size = P.cellsOf t := by
  simp only [Value.okWide, ht] at h
  obtain ⟨cs, h1, h2, -⟩ := h
  exact ⟨cs, h1, h2⟩
def witP : Value := .agg ((Array.replicate 32 (Value.int .u8 0)).push (Value.int .i64 0))
theorem okWide_st {P : Program} {w : World} {r : Reach} {base : Nat} {t : TypeId} {fs : Array Field} {v : Value} (ht : P.underlying t = some (.struct fs)) (h : Value.okWide P w r base t v) : ∃ cs, v = .agg cs ∧ cs.size = P.cellsOf t := by
  simp only [Value.okWide, ht] at h
  obtain ⟨cs, h1, h2, -⟩ := h
  exact ⟨cs, h1, h2⟩
theorem trodAll_cons_mk2 {H : Type} {enc : TypeId × Value → H} {P : Program} {w : World} {sp : Nat → Bool} {t : TypeId} {ts : List TypeId} {v : Value} {vs : List Value} {d : DataW H} {ds : List (DataW H)} {p q : List MemPlace}
    (h : DataW.Trod enc P w 0 sp true t v d p) (r : DataW.TrodAll enc P w 0 sp true ts vs ds q) : DataW.TrodAll enc P w 0 sp true (t :: ts) (v :: vs) (d :: ds) (p ++ q) := ⟨p, q, h, r, rfl⟩
set_option maxRecDepth 100000 in
theorem contract (walk : ∀ (zs0 : List CoinD) (ao0 : Option Addr) (c0 : Nat) (t1 : TxD) (ai1 : Option Addr) (ci1 : Nat) (ao1 : Option Addr) (co1 : Nat) (a2 : Int) (w : World) (_ : rdSl coinR 36 w (.slice ao0 zs0.length c0) zs0) (_ : rdSl inR 34 w (.slice ai1 t1.ins.length ci1) t1.ins) (_ : rdSl outR 2 w (.slice ao1 t1.outs.length co1) t1.outs) (_ : (Lit.int .i64 a2).wf = true) (_ : tabAt w),
      Calls Tryd.prog 6 #[.slice ao0 zs0.length c0, .agg #[.slice ai1 t1.ins.length ci1, .slice ao1 t1.outs.length co1, .int .i64 t1.time], .int .i64 a2] w fun e w' => e = .returned (.bool true) ∧ Below w.heap.size w w')
    (H : Type) (enc : TypeId × Value → H) (W : World) (base : Nat) (args : Array Value) (ds gs : List (DataW H)) (before : List MemPlace)
    (hval : ∀ (j : Nat) t v, Tryd.f6.params[j]? = some t → args[j]? = some v → Value.okWide Tryd.prog W .any base t v)
    (hW : DataW.Whole enc Tryd.prog Tryd.f6.params.toList Rows.coinSumsSpec.vars false W args.toList ds gs before) (hL : laidMetH Tryd.prog Rows.coinSumsRow.laid W) :
    Calls Tryd.prog 6 args W fun e W' => ∃ v, e = .returned v ∧ Rows.coinSumsSpec.post enc Tryd.prog Tryd.f6 false true false false W args v W' := by
  have hW' := hW
  obtain ⟨p, q, hA0, hV, rfl, hfz, hnd⟩ := hW
  have hA : DataW.TrodAll enc Tryd.prog W 0 (fun _ => true) true Tryd.f6.params.toList args.toList ds p := hA0
  rw [Tryd.params6] at hA hval
  obtain ⟨x0, vs0, d0, ds0, p0, q0, hargs, rfl, rfl, h0, r0⟩ := trodAll_cons hA
  obtain ⟨x1, vs1, d1, ds1, p1, q1, rfl, rfl, rfl, h1, r1⟩ := trodAll_cons r0
  obtain ⟨x2, vs2, d2, ds2, p2, q2, rfl, rfl, rfl, h2, r2⟩ := trodAll_cons r1
  obtain ⟨rfl, rfl, rfl⟩ := trodAll_nil r2
  obtain rfl : args = #[x0, x1, x2] := by cases args; simp_all
  obtain ⟨rfl, rfl⟩ := trodVars_none hV
  obtain ⟨sa0, sl0, sc0, rfl⟩ := okWide_slice Tryd.underlying44 (hval 0 44 x0 rfl rfl)
  have g0 := h0
  obtain ⟨fu0, hf0⟩ := g0
  obtain ⟨zs0, hr0⟩ := open_coins hf0
  obtain ⟨ao0, c0, hx0, -, -⟩ := sl_bounds hr0
  cases hx0
  obtain ⟨cs1, rfl, hz1⟩ := okWide_st Tryd.underlying25 (hval 1 25 x1 rfl rfl)
  have g1 := h1
  obtain ⟨fu1, hf1⟩ := g1
  obtain ⟨t1, sa1, sb1, e1, hi1, ho1⟩ := open_tx hf1
  obtain ⟨ai1, ci1, rfl, -, -⟩ := sl_bounds hi1
  obtain ⟨ao1, co1, rfl, -, -⟩ := sl_bounds ho1
  obtain rfl : cs1 = #[.slice ai1 t1.ins.length ci1, .slice ao1 t1.outs.length co1, .int .i64 t1.time] := by apply Array.ext'; simpa [Value.cells] using e1
  have g2 := h2
  obtain ⟨a2, rfl, rfl, rfl, w2⟩ := open_int Tryd.underlying3 (hval 2 3 x2 rfl rfl) g2
  clear hA0
  simp only [List.append_nil] at hW'
  refine (walk zs0 _ _ t1 _ _ _ _ a2 W hr0 hi1 ho1 w2 (tab_of hL)).mono fun e W' ⟨he, hg⟩ => ?_
  subst he
  have hlt := fun x hx => hW'.lt x hx
  refine ⟨_, rfl, post_of_below (pa := (p0 ++ (p1 ++ ([] ++ [])))) (pv := []) hW' (fun _ _ _ => trodAll_cons_mk (shut_bool Tryd.underlying4 _) trodAll_mk0)
    (fun sp hsp => (trodAll_cons_mk2 (WideElems.Trod_stays (sp' := sp) (by kernel_rfl) (by kernel_rfl) (of_decide_eq_true (by kernel_rfl)) h0 (fun x hx => hg.same (hlt x (by first | (cases hx; done) | simp [hx]))) (fun x hx => hsp x (by first | (cases hx; done) | simp [hx]))) (trodAll_cons_mk2 (WideElems.Trod_stays (sp' := sp) (by kernel_rfl) (by kernel_rfl) (of_decide_eq_true (by kernel_rfl)) h1 (fun x hx => hg.same (hlt x (by first | (cases hx; done) | simp [hx]))) (fun x hx => hsp x (by first | (cases hx; done) | simp [hx]))) (trodAll_cons_mk2 (WideElems.Trod_stays (sp' := sp) (by kernel_rfl) (by kernel_rfl) (of_decide_eq_true (by kernel_rfl)) h2 (fun x hx => hg.same (hlt x (by first | (cases hx; done) | simp [hx]))) (fun x hx => hsp x (by first | (cases hx; done) | simp [hx]))) trodAll_mk0))))
    (fun _ _ => rfl) (by simp) hg (ok_one (by kernel_rfl) rfl (okWide_bool_mk Tryd.underlying4 _))⟩

set_option maxRecDepth 100000 in
theorem laid_met (os : Os) : laidMet Tryd.prog Rows.coinSumsRow.laid ((laidWorld os).forCall (fun _ _ => 0) ⟨#[], #[.slice none 0 0, .agg #[.slice none 0 0, .slice none 0 0, .int .i64 0], .int .i64 0], []⟩).memory :=
  laidMet_of_run' 8 (by kernel_rfl) (by kernel_rfl)
set_option maxRecDepth 100000 in
theorem reads (os : Os) {H : Type} (enc : TypeId × Value → H) : ∃ places, DataW.whole enc Tryd.prog ((laidWorld os).forCall (fun _ _ => 0) ⟨#[], #[.slice none 0 0, .agg #[.slice none 0 0, .slice none 0 0, .int .i64 0], .int .i64 0], []⟩).memory Tryd.f6.params.toList Rows.coinSumsSpec.vars false (#[.slice none 0 0, .agg #[.slice none 0 0, .slice none 0 0, .int .i64 0], .int .i64 0] : Array Value).toList 8 = some ([.nil, .agg [.nil, .nil, .lit (.int .i64 0)], .lit (.int .i64 0)], [], places) :=
  ⟨[], by kernel_rfl⟩

set_option maxRecDepth 100000 in
theorem lifted (walk : ∀ (zs0 : List CoinD) (ao0 : Option Addr) (c0 : Nat) (t1 : TxD) (ai1 : Option Addr) (ci1 : Nat) (ao1 : Option Addr) (co1 : Nat) (a2 : Int) (w : World) (_ : rdSl coinR 36 w (.slice ao0 zs0.length c0) zs0) (_ : rdSl inR 34 w (.slice ai1 t1.ins.length ci1) t1.ins) (_ : rdSl outR 2 w (.slice ao1 t1.outs.length co1) t1.outs) (_ : (Lit.int .i64 a2).wf = true) (_ : tabAt w),
      Calls Tryd.prog 6 #[.slice ao0 zs0.length c0, .agg #[.slice ai1 t1.ins.length ci1, .slice ao1 t1.outs.length co1, .int .i64 t1.time], .int .i64 a2] w fun e w' => e = .returned (.bool true) ∧ Below w.heap.size w w') (os : Os) (started : os.Started) (H : Type) (enc : TypeId × Value → H) (F : Stop.Interp) :
    ReturnsInHanded {} Tryd.checked os 6 .any ((OpenSpec.ofChange Rows.coinSumsSpec).preRow enc Tryd.prog Tryd.f6 Rows.coinSumsRow.domain false Rows.coinSumsRow.laid) (((OpenSpec.ofChange Rows.coinSumsSpec).at F).post enc Tryd.prog Tryd.f6 false true false false) := by
  obtain ⟨places, hx⟩ := reads os enc
  refine returnsInHanded_of_row (C := Tryd.checked) (s := OpenSpec.ofChange Rows.coinSumsSpec) own_knob started (by kernel_rfl) Tryd.func6
    (witness_row_at (enc := enc) (C := Tryd.checked) false (laidWorld os) #[.slice none 0 0, .agg #[.slice none 0 0, .slice none 0 0, .int .i64 0], .int .i64 0] rfl (by kernel_rfl) (by kernel_rfl) (by kernel_rfl)
      (OpenSpec.preRow_of_cond 8 hx (by kernel_rfl) (fun k hk => by cases hk) (by kernel_rfl) (laid_met os))) ?_
  intro W base args ds gs before hval hW _ _ _ hL _ _
  exact contract walk H enc W base args ds gs before hval hW hL
theorem said_of (walk : ∀ (zs0 : List CoinD) (ao0 : Option Addr) (c0 : Nat) (t1 : TxD) (ai1 : Option Addr) (ci1 : Nat) (ao1 : Option Addr) (co1 : Nat) (a2 : Int) (w : World) (_ : rdSl coinR 36 w (.slice ao0 zs0.length c0) zs0) (_ : rdSl inR 34 w (.slice ai1 t1.ins.length ci1) t1.ins) (_ : rdSl outR 2 w (.slice ao1 t1.outs.length co1) t1.outs) (_ : (Lit.int .i64 a2).wf = true) (_ : tabAt w),
      Calls Tryd.prog 6 #[.slice ao0 zs0.length c0, .agg #[.slice ai1 t1.ins.length ci1, .slice ao1 t1.outs.length co1, .int .i64 t1.time], .int .i64 a2] w fun e w' => e = .returned (.bool true) ∧ Below w.heap.size w w') : Rows.CoinSumsSaid :=
  OpenClaim.holds_of_cond 6 Tryd.f6 rfl rfl rfl rfl rfl rfl rfl ⟨rfl, rfl, rfl, rfl, rfl⟩ rfl rfl rfl rfl rfl (by kernel_rfl) Tryd.func6 (by kernel_rfl)
    (of_decide_eq_true (by kernel_rfl)) (by unfold Func.isWrapper; first | (rw [if_pos (by decide +kernel)]; kernel_rfl) | (rw [if_neg (by decide +kernel)]; exact ⟨rfl, rfl⟩))
    (fun os started H enc _ F => by rw [OpenClaim.pre_eq_preRow]; exact lifted walk os started H enc F)
theorem plain (f : FuncId) (fn : Func) (hf : Tryd.pinned.checked.prog.funcNamed "moneyer/moneyerlaw2.CoinSums" = some f) (hfn : Tryd.pinned.checked.prog.funcs[f]? = some fn) :
    true = Tryd.pinned.checked.prog.looks [] ∧ ∀ (j : Nat) t, fn.params[j]? = some t → Tryd.pinned.checked.prog.wantsStandIn t = false := by
  obtain rfl : f = 6 := Option.some.inj ((show Tryd.prog.funcNamed "moneyer/moneyerlaw2.CoinSums" = some 6 by kernel_rfl).symm.trans hf) |>.symm
  obtain rfl : fn = Tryd.f6 := (Option.some.inj (Tryd.func6.symm.trans hfn)).symm
  refine ⟨by kernel_rfl, fun j t ht => ?_⟩
  rw [Tryd.params6] at ht
  have hm := Array.mem_of_getElem? ht
  simp only [List.mem_toArray, List.mem_cons, List.not_mem_nil, or_false] at hm
  rcases hm with rfl | rfl | rfl
  · exact (show Tryd.prog.wantsStandIn 44 = false by kernel_rfl)
  · exact (show Tryd.prog.wantsStandIn 25 = false by kernel_rfl)
  · exact (show Tryd.prog.wantsStandIn 3 = false by kernel_rfl)
theorem card_of (walk : ∀ (zs0 : List CoinD) (ao0 : Option Addr) (c0 : Nat) (t1 : TxD) (ai1 : Option Addr) (ci1 : Nat) (ao1 : Option Addr) (co1 : Nat) (a2 : Int) (w : World) (_ : rdSl coinR 36 w (.slice ao0 zs0.length c0) zs0) (_ : rdSl inR 34 w (.slice ai1 t1.ins.length ci1) t1.ins) (_ : rdSl outR 2 w (.slice ao1 t1.outs.length co1) t1.outs) (_ : (Lit.int .i64 a2).wf = true) (_ : tabAt w),
      Calls Tryd.prog 6 #[.slice ao0 zs0.length c0, .agg #[.slice ai1 t1.ins.length ci1, .slice ao1 t1.outs.length co1, .int .i64 t1.time], .int .i64 a2] w fun e w' => e = .returned (.bool true) ∧ Below w.heap.size w w') : Rows.CoinSumsCardSaid :=
  Claim7.holds_tied_plain_at .later [] _ _ _ _ (said_of walk) (fun _ h => by cases h) (by kernel_rfl) (fun _ h => by cases h) coinSums_row_tie rfl ⟨rfl, rfl⟩ (by kernel_rfl) rfl plain (by kernel_rfl)
end Go.Proofs.YtljcdkfafknnpaaDoor.coinSums
namespace Go.Proofs.YtljcdkfafknnpaaDoor.coinSums
set_option linter.unusedVariables false
set_option linter.unusedSimpArgs false
open Go.Proofs.YtljcdkfafknnpaaDoor
theorem proved : Rows.CoinSumsCardSaid := card_of fun cs ao cap t ai ci bo co h w hc hi ho _ hT => coinSums_any cs ao cap t ai ci bo co h w hc hi ho hT
#print axioms proved
end Go.Proofs.YtljcdkfafknnpaaDoor.coinSums
