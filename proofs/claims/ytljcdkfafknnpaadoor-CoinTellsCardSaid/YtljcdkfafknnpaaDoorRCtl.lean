/- The row of CoinTells. Conditions: none beyond each theorem's own. -/
import Derived.Test.YtljcdkfafknnpaaDoorFrm0
import Derived.Test.YtljcdkfafknnpaaDoorOpc


namespace Go.Proofs.YtljcdkfafknnpaaDoor.coinTells
set_option linter.unusedVariables false
set_option linter.unusedSimpArgs false
open Go.ChangeShapes Go.WideShapes Go.ChangeAt Go.RowKit
open Go.Proofs.YtljcdkfafknnpaaDoor

theorem okWide_arr {P : Program} {w : World} {r : Reach} {base : Nat} {n : Nat} {t e : TypeId} {v : Value} (ht : P.underlying t = some (.array n e)) (h : Value.okWide P w r base t v) : ∃ cs, v = .agg cs ∧ cs.size = P.cellsOf t := by
  simp only [Value.okWide, ht] at h
  obtain ⟨cs, h1, h2, -⟩ := h
  exact ⟨cs, h1, h2⟩
def witP : Value := .agg ((Array.replicate 32 (Value.int .u8 0)).push (Value.int .i64 0))
theorem okWide_st {P : Program} {w : World} {r : Reach} {base : Nat} {t : TypeId} {fs : Array Field} {v : Value} (ht : P.underlying t = some (.struct fs)) (h : Value.okWide P w r base t v) : ∃ cs, v = .agg cs ∧ cs.size = P.cellsOf t := by
  simp only [Value.okWide, ht] at h
  obtain ⟨cs, h1, h2, -⟩ := h
  exact ⟨cs, h1, h2⟩
theorem trodAll_cons_mk2 {H : Type} {enc : TypeId × Value → H} {P : Program} {w : World} {sp : Nat → Bool} {t : TypeId} {ts : List TypeId} {v : Value} {vs : List Value} {d : DataW H} {ds : List (DataW H)} {p q : List MemPlace}
    (h : DataW.Trod enc P w 0 sp true t v d p) (r : DataW.TrodAll enc P w 0 sp true ts vs ds q) : DataW.TrodAll enc P w 0 sp true (t :: ts) (v :: vs) (d :: ds) (p ++ q) := ⟨p, q, h, r, rfl⟩
set_option maxRecDepth 100000 in
theorem contract (walk : ∀ (d0 : PlaceD) (d1 : PlaceD) (zs2 : List CoinD) (ao2 : Option Addr) (c2 : Nat) (w : World) (_ : d0.tx.length = 32) (_ : d1.tx.length = 32) (_ : rdSl coinR 36 w (.slice ao2 zs2.length c2) zs2) (_ : errAt w),
      Calls Tryd.prog 4 #[.agg (plV d0), .agg (plV d1), .slice ao2 zs2.length c2] w fun e w' => e = .returned (.bool true) ∧ Below w.heap.size w w')
    (H : Type) (enc : TypeId × Value → H) (W : World) (base : Nat) (args : Array Value) (ds gs : List (DataW H)) (before : List MemPlace)
    (hval : ∀ (j : Nat) t v, Tryd.f4.params[j]? = some t → args[j]? = some v → Value.okWide Tryd.prog W .any base t v)
    (hW : DataW.Whole enc Tryd.prog Tryd.f4.params.toList Rows.coinTellsSpec.vars false W args.toList ds gs before) (hL : laidMetH Tryd.prog Rows.coinTellsRow.laid W) :
    Calls Tryd.prog 4 args W fun e W' => ∃ v, e = .returned v ∧ Rows.coinTellsSpec.post enc Tryd.prog Tryd.f4 false true false false W args v W' := by
  have hW' := hW
  obtain ⟨p, q, hA0, hV, rfl, hfz, hnd⟩ := hW
  have hA : DataW.TrodAll enc Tryd.prog W 0 (fun _ => true) true Tryd.f4.params.toList args.toList ds p := hA0
  rw [Tryd.params4] at hA hval
  obtain ⟨x0, vs0, d0, ds0, p0, q0, hargs, rfl, rfl, h0, r0⟩ := trodAll_cons hA
  obtain ⟨x1, vs1, d1, ds1, p1, q1, rfl, rfl, rfl, h1, r1⟩ := trodAll_cons r0
  obtain ⟨x2, vs2, d2, ds2, p2, q2, rfl, rfl, rfl, h2, r2⟩ := trodAll_cons r1
  obtain ⟨rfl, rfl, rfl⟩ := trodAll_nil r2
  obtain rfl : args = #[x0, x1, x2] := by cases args; simp_all
  obtain ⟨rfl, rfl⟩ := trodVars_none hV
  obtain ⟨cs0, rfl, hz0⟩ := okWide_st Tryd.underlying35 (hval 0 35 x0 rfl rfl)
  have g0 := h0
  obtain ⟨fu0, hf0⟩ := g0
  obtain ⟨D0, hD0, e0⟩ := open_place hf0
  obtain rfl : cs0 = plV D0 := by apply Array.ext'; simpa [plV, dgV, Value.cells] using e0
  obtain ⟨cs1, rfl, hz1⟩ := okWide_st Tryd.underlying35 (hval 1 35 x1 rfl rfl)
  have g1 := h1
  obtain ⟨fu1, hf1⟩ := g1
  obtain ⟨D1, hD1, e1⟩ := open_place hf1
  obtain rfl : cs1 = plV D1 := by apply Array.ext'; simpa [plV, dgV, Value.cells] using e1
  obtain ⟨sa2, sl2, sc2, rfl⟩ := okWide_slice Tryd.underlying44 (hval 2 44 x2 rfl rfl)
  have g2 := h2
  obtain ⟨fu2, hf2⟩ := g2
  obtain ⟨zs2, hr2⟩ := open_coins hf2
  obtain ⟨ao2, c2, hx2, -, -⟩ := sl_bounds hr2
  cases hx2
  clear hA0
  simp only [List.append_nil] at hW'
  refine (walk D0 D1 zs2 _ _ W hD0 hD1 hr2 (err_of_handles (show laidMet Tryd.prog [] W ∧ handlesMet Tryd.prog [("errors.errorType", Rows.laid_errors_errorType)] W from hL).2)).mono fun e W' ⟨he, hg⟩ => ?_
  subst he
  have hlt := fun x hx => hW'.lt x hx
  refine ⟨_, rfl, post_of_below (pa := (p0 ++ (p1 ++ (p2 ++ [])))) (pv := []) hW' (fun _ _ _ => trodAll_cons_mk (shut_bool Tryd.underlying4 _) trodAll_mk0)
    (fun sp hsp => (trodAll_cons_mk2 (WideElems.Trod_stays (sp' := sp) (by kernel_rfl) (by kernel_rfl) (of_decide_eq_true (by kernel_rfl)) h0 (fun x hx => hg.same (hlt x (by first | (cases hx; done) | simp [hx]))) (fun x hx => hsp x (by first | (cases hx; done) | simp [hx]))) (trodAll_cons_mk2 (WideElems.Trod_stays (sp' := sp) (by kernel_rfl) (by kernel_rfl) (of_decide_eq_true (by kernel_rfl)) h1 (fun x hx => hg.same (hlt x (by first | (cases hx; done) | simp [hx]))) (fun x hx => hsp x (by first | (cases hx; done) | simp [hx]))) (trodAll_cons_mk2 (WideElems.Trod_stays (sp' := sp) (by kernel_rfl) (by kernel_rfl) (of_decide_eq_true (by kernel_rfl)) h2 (fun x hx => hg.same (hlt x (by first | (cases hx; done) | simp [hx]))) (fun x hx => hsp x (by first | (cases hx; done) | simp [hx]))) trodAll_mk0))))
    (fun _ _ => rfl) (by simp) hg (ok_one (by kernel_rfl) rfl (okWide_bool_mk Tryd.underlying4 _))⟩

set_option maxRecDepth 100000 in
theorem laid_met (os : Os) : laidMetH Tryd.prog Rows.coinTellsRow.laid ((errWorld os).forCall (fun _ _ => 0) ⟨#[], #[witP, witP, .slice none 0 0], []⟩).memory :=
  laidMetH_of_parts (laidMet_nil _ _) (by kernel_rfl)
set_option maxRecDepth 100000 in
theorem reads (os : Os) {H : Type} (enc : TypeId × Value → H) : ∃ places, DataW.whole enc Tryd.prog ((errWorld os).forCall (fun _ _ => 0) ⟨#[], #[witP, witP, .slice none 0 0], []⟩).memory Tryd.f4.params.toList Rows.coinTellsSpec.vars false (#[witP, witP, .slice none 0 0] : Array Value).toList 8 = some ([.agg [.agg [.lit (.int .u8 0), .lit (.int .u8 0), .lit (.int .u8 0), .lit (.int .u8 0), .lit (.int .u8 0), .lit (.int .u8 0), .lit (.int .u8 0), .lit (.int .u8 0), .lit (.int .u8 0), .lit (.int .u8 0), .lit (.int .u8 0), .lit (.int .u8 0), .lit (.int .u8 0), .lit (.int .u8 0), .lit (.int .u8 0), .lit (.int .u8 0), .lit (.int .u8 0), .lit (.int .u8 0), .lit (.int .u8 0), .lit (.int .u8 0), .lit (.int .u8 0), .lit (.int .u8 0), .lit (.int .u8 0), .lit (.int .u8 0), .lit (.int .u8 0), .lit (.int .u8 0), .lit (.int .u8 0), .lit (.int .u8 0), .lit (.int .u8 0), .lit (.int .u8 0), .lit (.int .u8 0), .lit (.int .u8 0)], .lit (.int .i64 0)], .agg [.agg [.lit (.int .u8 0), .lit (.int .u8 0), .lit (.int .u8 0), .lit (.int .u8 0), .lit (.int .u8 0), .lit (.int .u8 0), .lit (.int .u8 0), .lit (.int .u8 0), .lit (.int .u8 0), .lit (.int .u8 0), .lit (.int .u8 0), .lit (.int .u8 0), .lit (.int .u8 0), .lit (.int .u8 0), .lit (.int .u8 0), .lit (.int .u8 0), .lit (.int .u8 0), .lit (.int .u8 0), .lit (.int .u8 0), .lit (.int .u8 0), .lit (.int .u8 0), .lit (.int .u8 0), .lit (.int .u8 0), .lit (.int .u8 0), .lit (.int .u8 0), .lit (.int .u8 0), .lit (.int .u8 0), .lit (.int .u8 0), .lit (.int .u8 0), .lit (.int .u8 0), .lit (.int .u8 0), .lit (.int .u8 0)], .lit (.int .i64 0)], .nil], [], places) :=
  ⟨[], by kernel_rfl⟩

set_option maxRecDepth 100000 in
theorem lifted (walk : ∀ (d0 : PlaceD) (d1 : PlaceD) (zs2 : List CoinD) (ao2 : Option Addr) (c2 : Nat) (w : World) (_ : d0.tx.length = 32) (_ : d1.tx.length = 32) (_ : rdSl coinR 36 w (.slice ao2 zs2.length c2) zs2) (_ : errAt w),
      Calls Tryd.prog 4 #[.agg (plV d0), .agg (plV d1), .slice ao2 zs2.length c2] w fun e w' => e = .returned (.bool true) ∧ Below w.heap.size w w') (os : Os) (started : os.Started) (H : Type) (enc : TypeId × Value → H) (F : Stop.Interp) :
    ReturnsInHanded {} Tryd.checked os 4 .any ((OpenSpec.ofChange Rows.coinTellsSpec).preRow enc Tryd.prog Tryd.f4 Rows.coinTellsRow.domain false Rows.coinTellsRow.laid) (((OpenSpec.ofChange Rows.coinTellsSpec).at F).post enc Tryd.prog Tryd.f4 false true false false) := by
  obtain ⟨places, hx⟩ := reads os enc
  refine returnsInHanded_of_row (C := Tryd.checked) (s := OpenSpec.ofChange Rows.coinTellsSpec) own_knob started (by kernel_rfl) Tryd.func4
    (witness_row_at (enc := enc) (C := Tryd.checked) false (errWorld os) #[witP, witP, .slice none 0 0] rfl (by kernel_rfl) (by kernel_rfl) (by kernel_rfl)
      (OpenSpec.preRow_of_cond 8 hx (by kernel_rfl) (fun k hk => by cases hk) (by kernel_rfl) (laid_met os))) ?_
  intro W base args ds gs before hval hW _ _ _ hL _ _
  exact contract walk H enc W base args ds gs before hval hW hL
theorem said_of (walk : ∀ (d0 : PlaceD) (d1 : PlaceD) (zs2 : List CoinD) (ao2 : Option Addr) (c2 : Nat) (w : World) (_ : d0.tx.length = 32) (_ : d1.tx.length = 32) (_ : rdSl coinR 36 w (.slice ao2 zs2.length c2) zs2) (_ : errAt w),
      Calls Tryd.prog 4 #[.agg (plV d0), .agg (plV d1), .slice ao2 zs2.length c2] w fun e w' => e = .returned (.bool true) ∧ Below w.heap.size w w') : Rows.CoinTellsSaid :=
  OpenClaim.holds_of_cond 4 Tryd.f4 rfl rfl rfl rfl rfl rfl rfl ⟨rfl, rfl, rfl, rfl, rfl⟩ rfl rfl rfl rfl rfl (by kernel_rfl) Tryd.func4 (by kernel_rfl)
    (of_decide_eq_true (by kernel_rfl)) (by unfold Func.isWrapper; first | (rw [if_pos (by decide +kernel)]; kernel_rfl) | (rw [if_neg (by decide +kernel)]; exact ⟨rfl, rfl⟩))
    (fun os started H enc _ F => by rw [OpenClaim.pre_eq_preRow]; exact lifted walk os started H enc F)
theorem plain (f : FuncId) (fn : Func) (hf : Tryd.pinned.checked.prog.funcNamed "moneyer/moneyerlaw2.CoinTells" = some f) (hfn : Tryd.pinned.checked.prog.funcs[f]? = some fn) :
    true = Tryd.pinned.checked.prog.looks [] ∧ ∀ (j : Nat) t, fn.params[j]? = some t → Tryd.pinned.checked.prog.wantsStandIn t = false := by
  obtain rfl : f = 4 := Option.some.inj ((show Tryd.prog.funcNamed "moneyer/moneyerlaw2.CoinTells" = some 4 by kernel_rfl).symm.trans hf) |>.symm
  obtain rfl : fn = Tryd.f4 := (Option.some.inj (Tryd.func4.symm.trans hfn)).symm
  refine ⟨by kernel_rfl, fun j t ht => ?_⟩
  rw [Tryd.params4] at ht
  have hm := Array.mem_of_getElem? ht
  simp only [List.mem_toArray, List.mem_cons, List.not_mem_nil, or_false] at hm
  rcases hm with rfl | rfl | rfl
  · exact (show Tryd.prog.wantsStandIn 35 = false by kernel_rfl)
  · exact (show Tryd.prog.wantsStandIn 35 = false by kernel_rfl)
  · exact (show Tryd.prog.wantsStandIn 44 = false by kernel_rfl)
theorem card_of (walk : ∀ (d0 : PlaceD) (d1 : PlaceD) (zs2 : List CoinD) (ao2 : Option Addr) (c2 : Nat) (w : World) (_ : d0.tx.length = 32) (_ : d1.tx.length = 32) (_ : rdSl coinR 36 w (.slice ao2 zs2.length c2) zs2) (_ : errAt w),
      Calls Tryd.prog 4 #[.agg (plV d0), .agg (plV d1), .slice ao2 zs2.length c2] w fun e w' => e = .returned (.bool true) ∧ Below w.heap.size w w') : Rows.CoinTellsCardSaid :=
  Claim7.holds_tied_plain_at .later [] _ _ _ _ (said_of walk) (fun _ h => by cases h) (by kernel_rfl) (fun _ h => by cases h) coinTells_row_tie rfl ⟨rfl, rfl⟩ (by kernel_rfl) rfl plain (by kernel_rfl)
end Go.Proofs.YtljcdkfafknnpaaDoor.coinTells
