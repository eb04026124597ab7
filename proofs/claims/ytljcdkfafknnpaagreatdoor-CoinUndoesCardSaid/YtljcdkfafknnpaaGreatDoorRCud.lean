/- Merged: RCud. Conditions: none beyond each theorem's own. -/
import Derived.Test.YtljcdkfafknnpaaGreatDoorFrmb
import Derived.Test.YtljcdkfafknnpaaGreatDoorMa
import Derived.Test.YtljcdkfafknnpaaGreatDoorOpb
import Derived.SizedLaws
namespace Go.Proofs.YtljcdkfafknnpaaGreatDoor.coinUndoes
set_option linter.unusedVariables false
set_option linter.unusedSimpArgs false
open Go.ChangeShapes Go.WideShapes Go.ChangeAt Go.RowKit
open Go.Proofs.YtljcdkfafknnpaaGreatDoor

theorem okWide_arr {P : Program} {w : World} {r : Reach} {base : Nat} {n : Nat} {t e : TypeId} {v : Value} (ht : P.underlying t = some (.array n e)) (h : Value.okWide P w r base t v) : ∃ cs, v = .agg cs ∧ cs.size = P.cellsOf t := by
  simp only [Value.okWide, ht] at h
  obtain ⟨cs, h1, h2, -⟩ := h
  exact ⟨cs, h1, h2⟩
def witP : Value := .agg ((Array.replicate 32 (Value.int .u8 0)).push (Value.int .i64 0))
theorem okWide_st {P : Program} {w : World} {r : Reach} {base : Nat} {t : TypeId} {fs : Array Field} {v : Value} (ht : P.underlying t = some (.struct fs)) (h : Value.okWide P w r base t v) : ∃ cs, v = .agg cs ∧ cs.size = P.cellsOf t := by
  simp only [Value.okWide, ht] at h
  obtain ⟨cs, h1, h2, -⟩ := h
  exact ⟨cs, h1, h2⟩
theorem trodAll_cons_mk2 {H : Type} {enc : TypeId × Value → H} {P : Program} {w : World} {sp : Nat → Bool} {t : TypeId} {ts : List TypeId} {v : Value} {vs : List Value} {d : DataW H} {ds : List (DataW H)} {p q : List MemPlace}
    (h : DataW.Trod enc P w 0 sp true t v d p) (r : DataW.TrodAll enc P w 0 sp true ts vs ds q) : DataW.TrodAll enc P w 0 sp true (t :: ts) (v :: vs) (d :: ds) (p ++ q) := ⟨p, q, h, r, rfl⟩
set_option maxRecDepth 100000 in
theorem contract (walk : ∀ (zs0 : List CoinD) (ao0 : Option Addr) (c0 : Nat) (t1 : TxD) (ai1 : Option Addr) (ci1 : Nat) (ao1 : Option Addr) (co1 : Nat) (zs2 : List CoinD) (ao2 : Option Addr) (c2 : Nat) (w : World) (_ : rdSl coinR 36 w (.slice ao0 zs0.length c0) zs0) (_ : rdSl inR 34 w (.slice ai1 t1.ins.length ci1) t1.ins) (_ : rdSl outR 2 w (.slice ao1 t1.outs.length co1) t1.outs) (_ : rdSl coinR 36 w (.slice ao2 zs2.length c2) zs2) (_ : ∀ c ∈ zs2, FitC c) (_ : tabAt w) (_ : errAt w),
      Calls Tryz.prog 5 #[.slice ao0 zs0.length c0, .agg #[.slice ai1 t1.ins.length ci1, .slice ao1 t1.outs.length co1, .int .i64 t1.time], .slice ao2 zs2.length c2] w fun e w' => e = .returned (.bool true) ∧ Below w.heap.size w w')
    (H : Type) (enc : TypeId × Value → H) (W : World) (base : Nat) (args : Array Value) (ds gs : List (DataW H)) (before : List MemPlace)
    (hval : ∀ (j : Nat) t v, Tryz.f5.params[j]? = some t → args[j]? = some v → Value.okWide Tryz.prog W .any base t v)
    (hW : DataW.Whole enc Tryz.prog Tryz.f5.params.toList Rows.coinUndoesSpec.vars false W args.toList ds gs before) (hsz : (DataW.weightsEach Tryz.prog (Tryz.f5.params.toList ++ (OpenSpec.ofChange Rows.coinUndoesSpec).bare.plain.varTypes Tryz.prog) (ds ++ gs)).all (· ≤ reachBytes) = true) (hL : laidMetH Tryz.prog Rows.coinUndoesRow.laid W) :
    Calls Tryz.prog 5 args W fun e W' => ∃ v, e = .returned v ∧ Rows.coinUndoesSpec.post enc Tryz.prog Tryz.f5 false true false false W args v W' := by
  have hW' := hW
  obtain ⟨p, q, hA0, hV, rfl, hfz, hnd⟩ := hW
  have hA : DataW.TrodAll enc Tryz.prog W 0 (fun _ => true) true Tryz.f5.params.toList args.toList ds p := hA0
  rw [Tryz.params5] at hA hval hsz
  obtain ⟨x0, vs0, d0, ds0, p0, q0, hargs, rfl, rfl, h0, r0⟩ := trodAll_cons hA
  obtain ⟨x1, vs1, d1, ds1, p1, q1, rfl, rfl, rfl, h1, r1⟩ := trodAll_cons r0
  obtain ⟨x2, vs2, d2, ds2, p2, q2, rfl, rfl, rfl, h2, r2⟩ := trodAll_cons r1
  obtain ⟨rfl, rfl, rfl⟩ := trodAll_nil r2
  obtain rfl : args = #[x0, x1, x2] := by cases args; simp_all
  obtain ⟨rfl, rfl⟩ := trodVars_none hV
  obtain ⟨sa0, sl0, sc0, rfl⟩ := okWide_slice Tryz.underlying55 (hval 0 55 x0 rfl rfl)
  have g0 := h0
  obtain ⟨fu0, hf0⟩ := g0
  obtain ⟨zs0, hr0⟩ := open_coins hf0
  obtain ⟨ao0, c0, hx0, -, -⟩ := sl_bounds hr0
  cases hx0
  obtain ⟨cs1, rfl, hz1⟩ := okWide_st Tryz.underlying59 (hval 1 59 x1 rfl rfl)
  have g1 := h1
  obtain ⟨fu1, hf1⟩ := g1
  obtain ⟨t1, sa1, sb1, e1, hi1, ho1⟩ := open_tx hf1
  obtain ⟨ai1, ci1, rfl, -, -⟩ := sl_bounds hi1
  obtain ⟨ao1, co1, rfl, -, -⟩ := sl_bounds ho1
  obtain rfl : cs1 = #[.slice ai1 t1.ins.length ci1, .slice ao1 t1.outs.length co1, .int .i64 t1.time] := by apply Array.ext'; simpa [Value.cells] using e1
  obtain ⟨sa2, sl2, sc2, rfl⟩ := okWide_slice Tryz.underlying55 (hval 2 55 x2 rfl rfl)
  have g2 := h2
  obtain ⟨fu2, hf2⟩ := g2
  obtain ⟨zs2, hr2, hft2⟩ := open_coinsb hf2 (fits_arg hsz (j := 2) (t := 55) rfl rfl)
  obtain ⟨ao2, c2, hx2, -, -⟩ := sl_bounds hr2
  cases hx2
  clear hA0
  simp only [List.append_nil] at hW'
  refine (walk zs0 _ _ t1 _ _ _ _ zs2 _ _ W hr0 hi1 ho1 hr2 hft2 (both_of_parts (show laidMet Tryz.prog [("moneyer/sha.rounds", Lib.tabData .u32 kInts)] W ∧ handlesMet Tryz.prog [("errors.errorType", Rows.laid_errors_errorType)] W from hL)).1 (both_of_parts (show laidMet Tryz.prog [("moneyer/sha.rounds", Lib.tabData .u32 kInts)] W ∧ handlesMet Tryz.prog [("errors.errorType", Rows.laid_errors_errorType)] W from hL)).2).mono fun e W' ⟨he, hg⟩ => ?_
  subst he
  have hlt := fun x hx => hW'.lt x hx
  refine ⟨_, rfl, post_of_below (pa := (p0 ++ (p1 ++ (p2 ++ [])))) (pv := []) hW' (fun _ _ _ => trodAll_cons_mk (shut_bool Tryz.underlying4 _) trodAll_mk0)
    (fun sp hsp => (trodAll_cons_mk2 (WideElems.Trod_stays (sp' := sp) (by kernel_rfl) (by kernel_rfl) (of_decide_eq_true (by kernel_rfl)) h0 (fun x hx => hg.same (hlt x (by first | (cases hx; done) | simp [hx]))) (fun x hx => hsp x (by first | (cases hx; done) | simp [hx]))) (trodAll_cons_mk2 (WideElems.Trod_stays (sp' := sp) (by kernel_rfl) (by kernel_rfl) (of_decide_eq_true (by kernel_rfl)) h1 (fun x hx => hg.same (hlt x (by first | (cases hx; done) | simp [hx]))) (fun x hx => hsp x (by first | (cases hx; done) | simp [hx]))) (trodAll_cons_mk2 (WideElems.Trod_stays (sp' := sp) (by kernel_rfl) (by kernel_rfl) (of_decide_eq_true (by kernel_rfl)) h2 (fun x hx => hg.same (hlt x (by first | (cases hx; done) | simp [hx]))) (fun x hx => hsp x (by first | (cases hx; done) | simp [hx]))) trodAll_mk0))))
    (fun _ _ => rfl) (by simp) hg (ok_one (by kernel_rfl) rfl (okWide_bool_mk Tryz.underlying4 _))⟩

set_option maxRecDepth 100000 in
theorem laid_met (os : Os) : laidMetH Tryz.prog Rows.coinUndoesRow.laid ((bothWorld os).forCall (fun _ _ => 0) ⟨#[], #[.slice none 0 0, .agg #[.slice none 0 0, .slice none 0 0, .int .i64 0], .slice none 0 0], []⟩).memory :=
  laidMetH_of_parts (laidMet_of_run' 8 (by kernel_rfl) (by kernel_rfl)) (by kernel_rfl)
set_option maxRecDepth 100000 in
theorem reads (os : Os) {H : Type} (enc : TypeId × Value → H) : ∃ places, DataW.whole enc Tryz.prog ((bothWorld os).forCall (fun _ _ => 0) ⟨#[], #[.slice none 0 0, .agg #[.slice none 0 0, .slice none 0 0, .int .i64 0], .slice none 0 0], []⟩).memory Tryz.f5.params.toList Rows.coinUndoesSpec.vars false (#[.slice none 0 0, .agg #[.slice none 0 0, .slice none 0 0, .int .i64 0], .slice none 0 0] : Array Value).toList 8 = some ([.nil, .agg [.nil, .nil, .lit (.int .i64 0)], .nil], [], places) :=
  ⟨[], by kernel_rfl⟩

set_option maxRecDepth 100000 in
theorem lifted (walk : ∀ (zs0 : List CoinD) (ao0 : Option Addr) (c0 : Nat) (t1 : TxD) (ai1 : Option Addr) (ci1 : Nat) (ao1 : Option Addr) (co1 : Nat) (zs2 : List CoinD) (ao2 : Option Addr) (c2 : Nat) (w : World) (_ : rdSl coinR 36 w (.slice ao0 zs0.length c0) zs0) (_ : rdSl inR 34 w (.slice ai1 t1.ins.length ci1) t1.ins) (_ : rdSl outR 2 w (.slice ao1 t1.outs.length co1) t1.outs) (_ : rdSl coinR 36 w (.slice ao2 zs2.length c2) zs2) (_ : ∀ c ∈ zs2, FitC c) (_ : tabAt w) (_ : errAt w),
      Calls Tryz.prog 5 #[.slice ao0 zs0.length c0, .agg #[.slice ai1 t1.ins.length ci1, .slice ao1 t1.outs.length co1, .int .i64 t1.time], .slice ao2 zs2.length c2] w fun e w' => e = .returned (.bool true) ∧ Below w.heap.size w w') (os : Os) (started : os.Started) (H : Type) (enc : TypeId × Value → H) (F : Stop.Interp) :
    ReturnsInHanded {} Tryz.checked os 5 .any ((OpenSpec.ofChange Rows.coinUndoesSpec).preRow enc Tryz.prog Tryz.f5 Rows.coinUndoesRow.domain false Rows.coinUndoesRow.laid) (((OpenSpec.ofChange Rows.coinUndoesSpec).at F).post enc Tryz.prog Tryz.f5 false true false false) := by
  obtain ⟨places, hx⟩ := reads os enc
  refine returnsInHanded_of_row (C := Tryz.checked) (s := OpenSpec.ofChange Rows.coinUndoesSpec) own_knob started (by kernel_rfl) Tryz.func5
    (witness_row_at (enc := enc) (C := Tryz.checked) false (bothWorld os) #[.slice none 0 0, .agg #[.slice none 0 0, .slice none 0 0, .int .i64 0], .slice none 0 0] rfl (by kernel_rfl) (by kernel_rfl) (by kernel_rfl)
      (OpenSpec.preRow_of_cond 8 hx (by kernel_rfl) (fun k hk => by cases hk) (by kernel_rfl) (laid_met os))) ?_
  intro W base args ds gs before hval hW _ _ hsz hL _ _
  exact contract walk H enc W base args ds gs before hval hW hsz hL
theorem said_of (walk : ∀ (zs0 : List CoinD) (ao0 : Option Addr) (c0 : Nat) (t1 : TxD) (ai1 : Option Addr) (ci1 : Nat) (ao1 : Option Addr) (co1 : Nat) (zs2 : List CoinD) (ao2 : Option Addr) (c2 : Nat) (w : World) (_ : rdSl coinR 36 w (.slice ao0 zs0.length c0) zs0) (_ : rdSl inR 34 w (.slice ai1 t1.ins.length ci1) t1.ins) (_ : rdSl outR 2 w (.slice ao1 t1.outs.length co1) t1.outs) (_ : rdSl coinR 36 w (.slice ao2 zs2.length c2) zs2) (_ : ∀ c ∈ zs2, FitC c) (_ : tabAt w) (_ : errAt w),
      Calls Tryz.prog 5 #[.slice ao0 zs0.length c0, .agg #[.slice ai1 t1.ins.length ci1, .slice ao1 t1.outs.length co1, .int .i64 t1.time], .slice ao2 zs2.length c2] w fun e w' => e = .returned (.bool true) ∧ Below w.heap.size w w') : Rows.CoinUndoesSaid :=
  OpenClaim.holds_of_cond 5 Tryz.f5 rfl rfl rfl rfl rfl rfl rfl ⟨rfl, rfl, rfl, rfl, rfl⟩ rfl rfl rfl rfl rfl (by kernel_rfl) Tryz.func5 (by kernel_rfl)
    (of_decide_eq_true (by kernel_rfl)) (by unfold Func.isWrapper; first | (rw [if_pos (by decide +kernel)]; kernel_rfl) | (rw [if_neg (by decide +kernel)]; exact ⟨rfl, rfl⟩))
    (fun os started H enc _ F => by rw [OpenClaim.pre_eq_preRow]; exact lifted walk os started H enc F)
theorem plain (f : FuncId) (fn : Func) (hf : Tryz.pinned.checked.prog.funcNamed "moneyer/moneyerlaw2.CoinUndoes" = some f) (hfn : Tryz.pinned.checked.prog.funcs[f]? = some fn) :
    true = Tryz.pinned.checked.prog.looks [] ∧ ∀ (j : Nat) t, fn.params[j]? = some t → Tryz.pinned.checked.prog.wantsStandIn t = false := by
  obtain rfl : f = 5 := Option.some.inj ((show Tryz.prog.funcNamed "moneyer/moneyerlaw2.CoinUndoes" = some 5 by kernel_rfl).symm.trans hf) |>.symm
  obtain rfl : fn = Tryz.f5 := (Option.some.inj (Tryz.func5.symm.trans hfn)).symm
  refine ⟨by kernel_rfl, fun j t ht => ?_⟩
  rw [Tryz.params5] at ht
  have hm := Array.mem_of_getElem? ht
  simp only [List.mem_toArray, List.mem_cons, List.not_mem_nil, or_false] at hm
  rcases hm with rfl | rfl | rfl
  · exact (show Tryz.prog.wantsStandIn 55 = false by kernel_rfl)
  · exact (show Tryz.prog.wantsStandIn 59 = false by kernel_rfl)
  · exact (show Tryz.prog.wantsStandIn 55 = false by kernel_rfl)
theorem card_of (walk : ∀ (zs0 : List CoinD) (ao0 : Option Addr) (c0 : Nat) (t1 : TxD) (ai1 : Option Addr) (ci1 : Nat) (ao1 : Option Addr) (co1 : Nat) (zs2 : List CoinD) (ao2 : Option Addr) (c2 : Nat) (w : World) (_ : rdSl coinR 36 w (.slice ao0 zs0.length c0) zs0) (_ : rdSl inR 34 w (.slice ai1 t1.ins.length ci1) t1.ins) (_ : rdSl outR 2 w (.slice ao1 t1.outs.length co1) t1.outs) (_ : rdSl coinR 36 w (.slice ao2 zs2.length c2) zs2) (_ : ∀ c ∈ zs2, FitC c) (_ : tabAt w) (_ : errAt w),
      Calls Tryz.prog 5 #[.slice ao0 zs0.length c0, .agg #[.slice ai1 t1.ins.length ci1, .slice ao1 t1.outs.length co1, .int .i64 t1.time], .slice ao2 zs2.length c2] w fun e w' => e = .returned (.bool true) ∧ Below w.heap.size w w') : Rows.CoinUndoesCardSaid :=
  Claim7.holds_tied_plain_at .later [] _ _ _ _ (said_of walk) (fun _ h => by cases h) (by kernel_rfl) (fun _ h => by cases h) coinUndoes_row_tie rfl ⟨rfl, rfl⟩ (by kernel_rfl) rfl plain (by kernel_rfl)
end Go.Proofs.YtljcdkfafknnpaaGreatDoor.coinUndoes
