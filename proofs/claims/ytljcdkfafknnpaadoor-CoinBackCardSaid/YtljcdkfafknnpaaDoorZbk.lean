/- Merged: Cbk RCbk ClBk. Conditions: none beyond each theorem's own. -/
import Derived.Test.YtljcdkfafknnpaaDoorMe
import Derived.Test.YtljcdkfafknnpaaDoorMa
import Derived.Test.YtljcdkfafknnpaaDoorMc
namespace Go.Proofs.YtljcdkfafknnpaaDoor
set_option linter.unusedVariables false
set_option linter.unusedSimpArgs false
open Go.RowKit
attribute [local go_sem ↓] run_load_agg run_store_agg run_load_any

set_option maxHeartbeats 8000000 in
set_option maxRecDepth 100000 in
theorem coinBack_any (cs : List CoinD) (ca : Option Addr) (cc : Nat) (t : TxD) (ai : Option Addr) (ci : Nat) (ao : Option Addr) (co : Nat) (h : Int) (w : World) (hc : rdSl coinR 36 w (.slice ca cs.length cc) cs)
    (hi : rdSl inR 34 w (.slice ai t.ins.length ci) t.ins) (ho : rdSl outR 2 w (.slice ao t.outs.length co) t.outs) (hT : tabAt w) :
    Calls Tryd.prog 7 #[.slice ca cs.length cc, .agg #[.slice ai t.ins.length ci, .slice ao t.outs.length co, .int .i64 t.time], .int .i64 h] w fun e w' => e = .returned (.bool true) ∧ Below w.heap.size w w' := by
  obtain ⟨n1, n2, n3⟩ := new_tx w ai ao t.ins.length t.outs.length ci co t.time
  have k0 := (Kept.refl w).alloc (txV t ai ao ci co) 25
  unfold zTx at n1 n2
  have hgT := rowAt_lt hT
  have HC := Lib.hid hc; have HI := Lib.hid hi; have HO := Lib.hid ho; have HT := Lib.hid hT
  have K0 := Lib.hid k0
  clear hc hi ho hT k0
  go_enter Tryd.func7, Tryd.ntmps7
  go_upto_region 1 with fail
  clear n1 n2 n3
  change Code.wp _ _ _ _ (w.alloc (.cells (txV t ai ao ci co) 25))
  obtain ⟨G, hG⟩ : ∃ G, w.heap.size = G := ⟨_, rfl⟩
  have K0' : Hid (∃ w0, w.alloc (.cells (txV t ai ao ci co) 25) = w0 ∧ Kept w [(G, txV t ai ao ci co, 25)] w0) := Lib.hid ⟨_, rfl, by rw [← hG]; exact K0.out⟩
  rw [hG] at ⊢
  clear hG K0
  obtain ⟨w0, hw0, k0⟩ := K0'.out
  rw [hw0]
  have K0 := Lib.hid k0
  clear hw0 k0 K0'
  go_wp2_with fail
  refine (made_law w0 ((rowAt_below K0.out.below hgT 0 64).trans HT.out)).mono ?_
  rintro e w1 ⟨rfl, hb⟩
  have K1 := Lib.hid (K0.out.on hb)
  clear hb
  have r1 : rowAt w1 G 0 3 = some #[.slice ai t.ins.length ci, .slice ao t.outs.length co, .int .i64 t.time] := K1.out.row 0 _ 3 rfl rfl
  go_wp2_with fail
  refine (apply_any cs t h ca ai ao cc ci co w1 (coinR_stays.slB HC.out K1.out.below (Nat.le_refl _)) (inR_stays.slB HI.out K1.out.below (Nat.le_refl _)) (outR_stays.slB HO.out K1.out.below (Nat.le_refl _)) ((rowAt_below K1.out.below hgT 0 64).trans HT.out)).mono ?_
  rintro e w2 hap
  obtain ⟨hb, hap⟩ := applyPost_cases hap
  have K2 := Lib.hid (K1.out.on hb)
  clear hb r1
  rcases hap with ⟨hz, rfl⟩ | ⟨k1, va, vcap, ua, ucap, rfl, hs, hu⟩
  · rw [errV_ne hz]
    clear hz
    go_wp2
    go_ret
    exact ⟨rfl, K2.out.below⟩
  have KA := Lib.hid k1
  have H32 := Lib.hid ((all32_iff cs).1 (all32_of HC.out))
  have HBK := Lib.hid (k1.back H32.out)
  have HS := Lib.hid hs
  have HU := Lib.hid hu
  have J2 := Lib.hid K2.out.self
  have hul : (spC cs t.ins).length ≤ 1000 := by
    have := (setF_zero cs k1.set).1
    have h2 := (k1.sums H32.out).2.2
    have := (txOk_of k1.tx).ins
    omega
  have HLC := Lib.hid (fun c hc => locks_of k1.set c (spC_mem (cs := cs) (xs := t.ins) hc).1)
  have HSS := Lib.hid (k1.setS H32.out)
  have HUL := Lib.hid hul
  clear k1 hs hu hul
  obtain ⟨S, hS⟩ : ∃ S, applyS cs t h = S := ⟨_, rfl⟩
  obtain ⟨U, hU⟩ : ∃ U, spC cs t.ins = U := ⟨_, rfl⟩
  obtain ⟨L, hL⟩ : ∃ L, applyL cs t h = L := ⟨_, rfl⟩
  have HSE := Lib.hid hS; have HUE := Lib.hid hU; have HLE := Lib.hid hL
  rw [hS, hU] at HBK
  rw [hS] at HS HSS ⊢
  rw [hU] at HU HLC HUL ⊢
  rw [hL]
  clear hS hU hL
  have r2 : rowAt w2 G 0 3 = some #[.slice ai t.ins.length ci, .slice ao t.outs.length co, .int .i64 t.time] := K2.out.row 0 _ 3 rfl rfl
  go_wp2_with fail
  refine (undo_any S t U va ai ao ua vcap ci co ucap w2 HS.out (inR_stays.slB HI.out K2.out.below (Nat.le_refl _)) (outR_stays.slB HO.out K2.out.below (Nat.le_refl _)) HU.out ((rowAt_below K2.out.below hgT 0 64).trans HT.out)
    (fun _ W hW => copy_any U ua ucap W (coinR_stays.slB HU.out hW (Nat.le_refl _)) HUL.out HLC.out)).mono ?_
  rintro e w3 ⟨hb, hup⟩
  have J3 := Lib.hid (J2.out.on hb)
  have K3 := Lib.hid (K2.out.from_ J3.out)
  clear hb r2
  rcases hup with ⟨hz, -⟩ | ⟨-, v, rfl, hrb⟩
  · exact absurd HBK.out.1 hz
  rw [HBK.out.2] at hrb
  obtain ⟨ba, bcap, rfl, -, -⟩ := sl_bounds hrb
  have HB3 := Lib.hid hrb
  clear hrb
  rw [errV_0]
  go_wp2_with fail
  refine (coins_same cs ba ca _ bcap cc w3 HB3.out (coinR_stays.slB HC.out K3.out.below (Nat.le_refl _)) rfl).mono ?_
  rintro e w4 ⟨rfl, hd⟩
  have HB4 := Lib.hid (coinR_stays.slB HB3.out hd.below (Nat.le_refl _))
  have J4 := Lib.hid (J3.out.on hd.below)
  have K4 := Lib.hid (K2.out.from_ J4.out)
  clear hd
  have r2 : rowAt w4 G 0 3 = some #[.slice ai t.ins.length ci, .slice ao t.outs.length co, .int .i64 t.time] := K4.out.row 0 _ 3 rfl rfl
  go_wp2_with fail
  refine (apply_any cs t h ba ai ao bcap ci co w4 HB4.out (inR_stays.slB HI.out K4.out.below (Nat.le_refl _)) (outR_stays.slB HO.out K4.out.below (Nat.le_refl _)) ((rowAt_below K4.out.below hgT 0 64).trans HT.out)).mono ?_
  rintro e w5 hap
  obtain ⟨hb, hap⟩ := applyPost_cases hap
  have J5 := Lib.hid (J4.out.on hb)
  have K5 := Lib.hid (K2.out.from_ J5.out)
  clear hb r2
  rcases hap with ⟨hz, -⟩ | ⟨-, xa, xcap, ya, ycap, rfl, hs, hu⟩
  · exact absurd (applyOk_to KA.out) hz
  rw [HSE.out] at hs
  rw [HUE.out] at hu
  rw [HSE.out, HUE.out, HLE.out]
  have HS5 := Lib.hid hs; have HU5 := Lib.hid hu
  clear hs hu
  go_wp2_with fail
  refine (coins_same S xa va _ xcap vcap w5 HS5.out (coinR_stays.slB HS.out J5.out.below (Nat.le_refl _)) rfl).mono ?_
  rintro e w6 ⟨rfl, hd⟩
  have HU6 := Lib.hid (coinR_stays.slB HU5.out hd.below (Nat.le_refl _))
  have J6 := Lib.hid (J5.out.on hd.below)
  clear hd
  go_wp2_with fail
  refine (coins_same U ya ua _ ycap ucap w6 HU6.out (coinR_stays.slB HU.out J6.out.below (Nat.le_refl _)) rfl).mono ?_
  rintro e w7 ⟨rfl, hd⟩
  have J7 := Lib.hid (J6.out.on hd.below)
  clear hd
  have HCK := Lib.hid (coinCheck_any S va vcap w7 (coinR_stays.slB HS.out J7.out.below (Nat.le_refl _)))
  rw [HSS.out, errV_0] at HCK
  have f1 : (L == L) = true := by simp
  go_wp2_with fail
  refine Calls.mono HCK.out ?_
  rintro e w8 ⟨rfl, hb⟩
  have K8 := Lib.hid (K2.out.from_ (J7.out.on hb))
  clear hb
  go_wp2
  go_ret
  exact ⟨rfl, K8.out.below⟩
end Go.Proofs.YtljcdkfafknnpaaDoor
namespace Go.Proofs.YtljcdkfafknnpaaDoor.coinBack
set_option linter.unusedVariables false
set_option linter.unusedSimpArgs false
open Go.ChangeShapes Go.WideShapes Go.ChangeAt Go.RowKit
open Go.Proofs.YtljcdkfafknnpaaDoor

theorem okWide_arr {P : Program} {w : World} {r : Reach} {base : Nat} {n : Nat} {t e : TypeId} {v : Value} (ht : P.underlying t = some (.array n e)) (h : Value.okWide P w r base t v) : ∃ cs, v = .agg cs ∧ cs.size = P.cellsOf t := by
  simp only [Value.okWide, ht] at h
  obtain ⟨cs, h1, h2, -⟩ := h
  exact ⟨cs, h1, h2⟩
def witP : Value := .agg ((Array.replicate 32 (Value.int .u8 0)).push (Value.int .i64 0))
theorem okWide_st {P : Program} {w : World} {r : Reach} {base : Nat} {t : TypeId} {fs : Array Field} {v : Value} (ht : P.underlying t = some (.struct fs)) (h : Value.okWide P w r base t v) : ∃ cs, v = .agg cs ∧ cs.size = P.cellsOf t := by
  simp only [Value.okWide, ht] at h
  obtain ⟨cs, h1, h2, -⟩ := h
  exact ⟨cs, h1, h2⟩
theorem trodAll_cons_mk2 {H : Type} {enc : TypeId × Value → H} {P : Program} {w : World} {sp : Nat → Bool} {t : TypeId} {ts : List TypeId} {v : Value} {vs : List Value} {d : DataW H} {ds : List (DataW H)} {p q : List MemPlace}
    (h : DataW.Trod enc P w 0 sp true t v d p) (r : DataW.TrodAll enc P w 0 sp true ts vs ds q) : DataW.TrodAll enc P w 0 sp true (t :: ts) (v :: vs) (d :: ds) (p ++ q) := ⟨p, q, h, r, rfl⟩
set_option maxRecDepth 100000 in
theorem contract (walk : ∀ (zs0 : List CoinD) (ao0 : Option Addr) (c0 : Nat) (t1 : TxD) (ai1 : Option Addr) (ci1 : Nat) (ao1 : Option Addr) (co1 : Nat) (a2 : Int) (w : World) (_ : rdSl coinR 36 w (.slice ao0 zs0.length c0) zs0) (_ : rdSl inR 34 w (.slice ai1 t1.ins.length ci1) t1.ins) (_ : rdSl outR 2 w (.slice ao1 t1.outs.length co1) t1.outs) (_ : (Lit.int .i64 a2).wf = true) (_ : tabAt w),
      Calls Tryd.prog 7 #[.slice ao0 zs0.length c0, .agg #[.slice ai1 t1.ins.length ci1, .slice ao1 t1.outs.length co1, .int .i64 t1.time], .int .i64 a2] w fun e w' => e = .returned (.bool true) ∧ Below w.heap.size w w')
    (H : Type) (enc : TypeId × Value → H) (W : World) (base : Nat) (args : Array Value) (ds gs : List (DataW H)) (before : List MemPlace)
    (hval : ∀ (j : Nat) t v, Tryd.f7.params[j]? = some t → args[j]? = some v → Value.okWide Tryd.prog W .any base t v)
    (hW : DataW.Whole enc Tryd.prog Tryd.f7.params.toList Rows.coinBackSpec.vars false W args.toList ds gs before) (hL : laidMetH Tryd.prog Rows.coinBackRow.laid W) :
    Calls Tryd.prog 7 args W fun e W' => ∃ v, e = .returned v ∧ Rows.coinBackSpec.post enc Tryd.prog Tryd.f7 false true false false W args v W' := by
  have hW' := hW
  obtain ⟨p, q, hA0, hV, rfl, hfz, hnd⟩ := hW
  have hA : DataW.TrodAll enc Tryd.prog W 0 (fun _ => true) true Tryd.f7.params.toList args.toList ds p := hA0
  rw [Tryd.params7] at hA hval
  obtain ⟨x0, vs0, d0, ds0, p0, q0, hargs, rfl, rfl, h0, r0⟩ := trodAll_cons hA
  obtain ⟨x1, vs1, d1, ds1, p1, q1, rfl, rfl, rfl, h1, r1⟩ := trodAll_cons r0
  obtain ⟨x2, vs2, d2, ds2, p2, q2, rfl, rfl, rfl, h2, r2⟩ := trodAll_cons r1
  obtain ⟨rfl, rfl, rfl⟩ := trodAll_nil r2
  obtain rfl : args = #[x0, x1, x2] := by cases args; simp_all
  obtain ⟨rfl, rfl⟩ := trodVars_none hV
  obtain ⟨sa0, sl0, sc0, rfl⟩ := okWide_slice Tryd.underlying44 (hval 0 44 x0 rfl rfl)
  have g0 := h0
  obtain ⟨fu0, hf0⟩ := g0
  obtain ⟨zs0, hr0⟩ := open_coins hf0
  obtain ⟨ao0, c0, hx0, -, -⟩ := sl_bounds hr0
  cases hx0
  obtain ⟨cs1, rfl, hz1⟩ := okWide_st Tryd.underlying25 (hval 1 25 x1 rfl rfl)
  have g1 := h1
  obtain ⟨fu1, hf1⟩ := g1
  obtain ⟨t1, sa1, sb1, e1, hi1, ho1⟩ := open_tx hf1
  obtain ⟨ai1, ci1, rfl, -, -⟩ := sl_bounds hi1
  obtain ⟨ao1, co1, rfl, -, -⟩ := sl_bounds ho1
  obtain rfl : cs1 = #[.slice ai1 t1.ins.length ci1, .slice ao1 t1.outs.length co1, .int .i64 t1.time] := by apply Array.ext'; simpa [Value.cells] using e1
  have g2 := h2
  obtain ⟨a2, rfl, rfl, rfl, w2⟩ := open_int Tryd.underlying3 (hval 2 3 x2 rfl rfl) g2
  clear hA0
  simp only [List.append_nil] at hW'
  refine (walk zs0 _ _ t1 _ _ _ _ a2 W hr0 hi1 ho1 w2 (tab_of hL)).mono fun e W' ⟨he, hg⟩ => ?_
  subst he
  have hlt := fun x hx => hW'.lt x hx
  refine ⟨_, rfl, post_of_below (pa := (p0 ++ (p1 ++ ([] ++ [])))) (pv := []) hW' (fun _ _ _ => trodAll_cons_mk (shut_bool Tryd.underlying4 _) trodAll_mk0)
    (fun sp hsp => (trodAll_cons_mk2 (WideElems.Trod_stays (sp' := sp) (by kernel_rfl) (by kernel_rfl) (of_decide_eq_true (by kernel_rfl)) h0 (fun x hx => hg.same (hlt x (by first | (cases hx; done) | simp [hx]))) (fun x hx => hsp x (by first | (cases hx; done) | simp [hx]))) (trodAll_cons_mk2 (WideElems.Trod_stays (sp' := sp) (by kernel_rfl) (by kernel_rfl) (of_decide_eq_true (by kernel_rfl)) h1 (fun x hx => hg.same (hlt x (by first | (cases hx; done) | simp [hx]))) (fun x hx => hsp x (by first | (cases hx; done) | simp [hx]))) (trodAll_cons_mk2 (WideElems.Trod_stays (sp' := sp) (by kernel_rfl) (by kernel_rfl) (of_decide_eq_true (by kernel_rfl)) h2 (fun x hx => hg.same (hlt x (by first | (cases hx; done) | simp [hx]))) (fun x hx => hsp x (by first | (cases hx; done) | simp [hx]))) trodAll_mk0))))
    (fun _ _ => rfl) (by simp) hg (ok_one (by kernel_rfl) rfl (okWide_bool_mk Tryd.underlying4 _))⟩

set_option maxRecDepth 100000 in
theorem laid_met (os : Os) : laidMet Tryd.prog Rows.coinBackRow.laid ((laidWorld os).forCall (fun _ _ => 0) ⟨#[], #[.slice none 0 0, .agg #[.slice none 0 0, .slice none 0 0, .int .i64 0], .int .i64 0], []⟩).memory :=
  laidMet_of_run' 8 (by kernel_rfl) (by kernel_rfl)
set_option maxRecDepth 100000 in
theorem reads (os : Os) {H : Type} (enc : TypeId × Value → H) : ∃ places, DataW.whole enc Tryd.prog ((laidWorld os).forCall (fun _ _ => 0) ⟨#[], #[.slice none 0 0, .agg #[.slice none 0 0, .slice none 0 0, .int .i64 0], .int .i64 0], []⟩).memory Tryd.f7.params.toList Rows.coinBackSpec.vars false (#[.slice none 0 0, .agg #[.slice none 0 0, .slice none 0 0, .int .i64 0], .int .i64 0] : Array Value).toList 8 = some ([.nil, .agg [.nil, .nil, .lit (.int .i64 0)], .lit (.int .i64 0)], [], places) :=
  ⟨[], by kernel_rfl⟩

set_option maxRecDepth 100000 in
theorem lifted (walk : ∀ (zs0 : List CoinD) (ao0 : Option Addr) (c0 : Nat) (t1 : TxD) (ai1 : Option Addr) (ci1 : Nat) (ao1 : Option Addr) (co1 : Nat) (a2 : Int) (w : World) (_ : rdSl coinR 36 w (.slice ao0 zs0.length c0) zs0) (_ : rdSl inR 34 w (.slice ai1 t1.ins.length ci1) t1.ins) (_ : rdSl outR 2 w (.slice ao1 t1.outs.length co1) t1.outs) (_ : (Lit.int .i64 a2).wf = true) (_ : tabAt w),
      Calls Tryd.prog 7 #[.slice ao0 zs0.length c0, .agg #[.slice ai1 t1.ins.length ci1, .slice ao1 t1.outs.length co1, .int .i64 t1.time], .int .i64 a2] w fun e w' => e = .returned (.bool true) ∧ Below w.heap.size w w') (os : Os) (started : os.Started) (H : Type) (enc : TypeId × Value → H) (F : Stop.Interp) :
    ReturnsInHanded {} Tryd.checked os 7 .any ((OpenSpec.ofChange Rows.coinBackSpec).preRow enc Tryd.prog Tryd.f7 Rows.coinBackRow.domain false Rows.coinBackRow.laid) (((OpenSpec.ofChange Rows.coinBackSpec).at F).post enc Tryd.prog Tryd.f7 false true false false) := by
  obtain ⟨places, hx⟩ := reads os enc
  refine returnsInHanded_of_row (C := Tryd.checked) (s := OpenSpec.ofChange Rows.coinBackSpec) own_knob started (by kernel_rfl) Tryd.func7
    (witness_row_at (enc := enc) (C := Tryd.checked) false (laidWorld os) #[.slice none 0 0, .agg #[.slice none 0 0, .slice none 0 0, .int .i64 0], .int .i64 0] rfl (by kernel_rfl) (by kernel_rfl) (by kernel_rfl)
      (OpenSpec.preRow_of_cond 8 hx (by kernel_rfl) (fun k hk => by cases hk) (by kernel_rfl) (laid_met os))) ?_
  intro W base args ds gs before hval hW _ _ _ hL _ _
  exact contract walk H enc W base args ds gs before hval hW hL
theorem said_of (walk : ∀ (zs0 : List CoinD) (ao0 : Option Addr) (c0 : Nat) (t1 : TxD) (ai1 : Option Addr) (ci1 : Nat) (ao1 : Option Addr) (co1 : Nat) (a2 : Int) (w : World) (_ : rdSl coinR 36 w (.slice ao0 zs0.length c0) zs0) (_ : rdSl inR 34 w (.slice ai1 t1.ins.length ci1) t1.ins) (_ : rdSl outR 2 w (.slice ao1 t1.outs.length co1) t1.outs) (_ : (Lit.int .i64 a2).wf = true) (_ : tabAt w),
      Calls Tryd.prog 7 #[.slice ao0 zs0.length c0, .agg #[.slice ai1 t1.ins.length ci1, .slice ao1 t1.outs.length co1, .int .i64 t1.time], .int .i64 a2] w fun e w' => e = .returned (.bool true) ∧ Below w.heap.size w w') : Rows.CoinBackSaid :=
  OpenClaim.holds_of_cond 7 Tryd.f7 rfl rfl rfl rfl rfl rfl rfl ⟨rfl, rfl, rfl, rfl, rfl⟩ rfl rfl rfl rfl rfl (by kernel_rfl) Tryd.func7 (by kernel_rfl)
    (of_decide_eq_true (by kernel_rfl)) (by unfold Func.isWrapper; first | (rw [if_pos (by decide +kernel)]; kernel_rfl) | (rw [if_neg (by decide +kernel)]; exact ⟨rfl, rfl⟩))
    (fun os started H enc _ F => by rw [OpenClaim.pre_eq_preRow]; exact lifted walk os started H enc F)
theorem plain (f : FuncId) (fn : Func) (hf : Tryd.pinned.checked.prog.funcNamed "moneyer/moneyerlaw2.CoinBack" = some f) (hfn : Tryd.pinned.checked.prog.funcs[f]? = some fn) :
    true = Tryd.pinned.checked.prog.looks [] ∧ ∀ (j : Nat) t, fn.params[j]? = some t → Tryd.pinned.checked.prog.wantsStandIn t = false := by
  obtain rfl : f = 7 := Option.some.inj ((show Tryd.prog.funcNamed "moneyer/moneyerlaw2.CoinBack" = some 7 by kernel_rfl).symm.trans hf) |>.symm
  obtain rfl : fn = Tryd.f7 := (Option.some.inj (Tryd.func7.symm.trans hfn)).symm
  refine ⟨by kernel_rfl, fun j t ht => ?_⟩
  rw [Tryd.params7] at ht
  have hm := Array.mem_of_getElem? ht
  simp only [List.mem_toArray, List.mem_cons, List.not_mem_nil, or_false] at hm
  rcases hm with rfl | rfl | rfl
  · exact (show Tryd.prog.wantsStandIn 44 = false by kernel_rfl)
  · exact (show Tryd.prog.wantsStandIn 25 = false by kernel_rfl)
  · exact (show Tryd.prog.wantsStandIn 3 = false by kernel_rfl)
theorem card_of (walk : ∀ (zs0 : List CoinD) (ao0 : Option Addr) (c0 : Nat) (t1 : TxD) (ai1 : Option Addr) (ci1 : Nat) (ao1 : Option Addr) (co1 : Nat) (a2 : Int) (w : World) (_ : rdSl coinR 36 w (.slice ao0 zs0.length c0) zs0) (_ : rdSl inR 34 w (.slice ai1 t1.ins.length ci1) t1.ins) (_ : rdSl outR 2 w (.slice ao1 t1.outs.length co1) t1.outs) (_ : (Lit.int .i64 a2).wf = true) (_ : tabAt w),
      Calls Tryd.prog 7 #[.slice ao0 zs0.length c0, .agg #[.slice ai1 t1.ins.length ci1, .slice ao1 t1.outs.length co1, .int .i64 t1.time], .int .i64 a2] w fun e w' => e = .returned (.bool true) ∧ Below w.heap.size w w') : Rows.CoinBackCardSaid :=
  Claim7.holds_tied_plain_at .later [] _ _ _ _ (said_of walk) (fun _ h => by cases h) (by kernel_rfl) (fun _ h => by cases h) coinBack_row_tie rfl ⟨rfl, rfl⟩ (by kernel_rfl) rfl plain (by kernel_rfl)
end Go.Proofs.YtljcdkfafknnpaaDoor.coinBack
namespace Go.Proofs.YtljcdkfafknnpaaDoor.coinBack
set_option linter.unusedVariables false
set_option linter.unusedSimpArgs false
open Go.Proofs.YtljcdkfafknnpaaDoor
theorem proved : Rows.CoinBackCardSaid := card_of fun cs ao cap t ai ci bo co h w hc hi ho _ hT => coinBack_any cs ao cap t ai ci bo co h w hc hi ho hT
#print axioms proved
end Go.Proofs.YtljcdkfafknnpaaDoor.coinBack
