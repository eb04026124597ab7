/- Merged: RBt. Conditions: none beyond each theorem's own. -/
import Derived.Test.YtljcdkfafknnpaaGreatDoorFrmb
import Derived.Test.YtljcdkfafknnpaaGreatDoorMa
import Derived.Test.YtljcdkfafknnpaaGreatDoorOpd
import Derived.SizedLaws
namespace Go.Proofs.YtljcdkfafknnpaaGreatDoor.blockTells
set_option linter.unusedVariables false
set_option linter.unusedSimpArgs false
open Go.ChangeShapes Go.WideShapes Go.ChangeAt Go.RowKit
open Go.Proofs.YtljcdkfafknnpaaGreatDoor

theorem okWide_arr {P : Program} {w : World} {r : Reach} {base : Nat} {n : Nat} {t e : TypeId} {v : Value} (ht : P.underlying t = some (.array n e)) (h : Value.okWide P w r base t v) : ∃ cs, v = .agg cs ∧ cs.size = P.cellsOf t := by
  simp only [Value.okWide, ht] at h
  obtain ⟨cs, h1, h2, -⟩ := h
  exact ⟨cs, h1, h2⟩
def witP : Value := .agg ((Array.replicate 32 (Value.int .u8 0)).push (Value.int .i64 0))
def witH : Value := .agg (Array.replicate 64 (Value.int .u8 0) ++ Array.replicate 4 (Value.int .i64 0))
def witB : Value := .agg ((Array.replicate 64 (Value.int .u8 0) ++ Array.replicate 4 (Value.int .i64 0)).push (.slice none 0 0))
theorem okWide_st {P : Program} {w : World} {r : Reach} {base : Nat} {t : TypeId} {fs : Array Field} {v : Value} (ht : P.underlying t = some (.struct fs)) (h : Value.okWide P w r base t v) : ∃ cs, v = .agg cs ∧ cs.size = P.cellsOf t := by
  simp only [Value.okWide, ht] at h
  obtain ⟨cs, h1, h2, -⟩ := h
  exact ⟨cs, h1, h2⟩
theorem trodAll_cons_mk2 {H : Type} {enc : TypeId × Value → H} {P : Program} {w : World} {sp : Nat → Bool} {t : TypeId} {ts : List TypeId} {v : Value} {vs : List Value} {d : DataW H} {ds : List (DataW H)} {p q : List MemPlace}
    (h : DataW.Trod enc P w 0 sp true t v d p) (r : DataW.TrodAll enc P w 0 sp true ts vs ds q) : DataW.TrodAll enc P w 0 sp true (t :: ts) (v :: vs) (d :: ds) (p ++ q) := ⟨p, q, h, r, rfl⟩
set_option maxRecDepth 100000 in
theorem contract (walk : ∀ (hd0 : HeadD) (b1 : List UInt8) (v1 : Value) (n1 : Nat) (bh2 : HeadD) (bt2 : List TxD) (ta2 : Option Addr) (tc2 : Nat) (w : World) (_ : HdOk hd0) (_ : rd w v1 n1 (b1.map vB)) (_ : b1.length = n1) (_ : n1 ≤ 140737488351232) (_ : HdOk bh2) (_ : rdSl txR 3 w (.slice ta2 bt2.length tc2) bt2) (_ : tabAt w) (_ : errAt w),
      Calls Tryz.prog 3 #[.agg (hdV hd0), v1, .agg (blV bh2 (.slice ta2 bt2.length tc2))] w fun e w' => e = .returned (.bool true) ∧ Below w.heap.size w w')
    (H : Type) (enc : TypeId × Value → H) (W : World) (base : Nat) (args : Array Value) (ds gs : List (DataW H)) (before : List MemPlace)
    (hval : ∀ (j : Nat) t v, Tryz.f3.params[j]? = some t → args[j]? = some v → Value.okWide Tryz.prog W .any base t v)
    (hW : DataW.Whole enc Tryz.prog Tryz.f3.params.toList Rows.blockTellsSpec.vars false W args.toList ds gs before) (hsz : (DataW.weightsEach Tryz.prog (Tryz.f3.params.toList ++ (OpenSpec.ofChange Rows.blockTellsSpec).bare.plain.varTypes Tryz.prog) (ds ++ gs)).all (· ≤ reachBytes) = true) (hL : laidMetH Tryz.prog Rows.blockTellsRow.laid W) :
    Calls Tryz.prog 3 args W fun e W' => ∃ v, e = .returned v ∧ Rows.blockTellsSpec.post enc Tryz.prog Tryz.f3 false true false false W args v W' := by
  have hW' := hW
  obtain ⟨p, q, hA0, hV, rfl, hfz, hnd⟩ := hW
  have hA : DataW.TrodAll enc Tryz.prog W 0 (fun _ => true) true Tryz.f3.params.toList args.toList ds p := hA0
  rw [Tryz.params3] at hA hval hsz
  obtain ⟨x0, vs0, d0, ds0, p0, q0, hargs, rfl, rfl, h0, r0⟩ := trodAll_cons hA
  obtain ⟨x1, vs1, d1, ds1, p1, q1, rfl, rfl, rfl, h1, r1⟩ := trodAll_cons r0
  obtain ⟨x2, vs2, d2, ds2, p2, q2, rfl, rfl, rfl, h2, r2⟩ := trodAll_cons r1
  obtain ⟨rfl, rfl, rfl⟩ := trodAll_nil r2
  obtain rfl : args = #[x0, x1, x2] := by cases args; simp_all
  obtain ⟨rfl, rfl⟩ := trodVars_none hV
  obtain ⟨cs0, rfl, hz0⟩ := okWide_st und_head (hval 0 25 x0 rfl rfl)
  have g0 := h0
  obtain ⟨fu0, hf0⟩ := g0
  obtain ⟨hd0, hk0, e0⟩ := open_head hf0
  obtain rfl : cs0 = hdV hd0 := Array.ext' e0
  obtain ⟨sa1, sl1, sc1, rfl⟩ := okWide_slice Tryz.underlying26 (hval 1 26 x1 rfl rfl)
  have g1 := h1
  obtain ⟨fu1, hf1⟩ := g1
  obtain ⟨n1, b1, hl1, hrd1, hq1⟩ := open_byts hf1
  have hbd1 : n1 ≤ 140737488351232 := by
    rcases hq1 with h | ⟨es, ss, hx, hll⟩
    · omega
    · have hd : d1 = .slice es ss := hx
      have hs := sized_slice hsz (j := 1) (t := 26) (elems := es) (spare := ss) rfl (by rw [hd]; rfl) Tryz.underlying26
      rw [show Tryz.prog.bytesOf 5 = 1 from by kernel_rfl, show reachBytes = 140737488351232 from by decide] at hs
      omega
  obtain ⟨cs2, rfl, hz2⟩ := okWide_st und_block (hval 2 29 x2 rfl rfl)
  have g2 := h2
  obtain ⟨fu2, hf2⟩ := g2
  obtain ⟨bh2, bs2, bt2, hk2, hr2, e2⟩ := open_block hf2
  obtain ⟨ta2, tc2, rfl, -, -⟩ := sl_bounds hr2
  obtain rfl : cs2 = blV bh2 (.slice ta2 bt2.length tc2) := Array.ext' e2
  clear hA0
  simp only [List.append_nil] at hW'
  refine (walk hd0 b1 _ n1 bh2 bt2 _ _ W hk0 hrd1 hl1 hbd1 hk2 hr2 (both_of_parts (show laidMet Tryz.prog [("moneyer/sha.rounds", Lib.tabData .u32 kInts)] W ∧ handlesMet Tryz.prog [("errors.errorType", Rows.laid_errors_errorType)] W from hL)).1 (both_of_parts (show laidMet Tryz.prog [("moneyer/sha.rounds", Lib.tabData .u32 kInts)] W ∧ handlesMet Tryz.prog [("errors.errorType", Rows.laid_errors_errorType)] W from hL)).2).mono fun e W' ⟨he, hg⟩ => ?_
  subst he
  have hlt := fun x hx => hW'.lt x hx
  refine ⟨_, rfl, post_of_below (pa := (p0 ++ (p1 ++ (p2 ++ [])))) (pv := []) hW' (fun _ _ _ => trodAll_cons_mk (shut_bool Tryz.underlying4 _) trodAll_mk0)
    (fun sp hsp => (trodAll_cons_mk2 (WideElems.Trod_stays (sp' := sp) (by kernel_rfl) (by kernel_rfl) (of_decide_eq_true (by kernel_rfl)) h0 (fun x hx => hg.same (hlt x (by first | (cases hx; done) | simp [hx]))) (fun x hx => hsp x (by first | (cases hx; done) | simp [hx]))) (trodAll_cons_mk2 (WideElems.Trod_stays (sp' := sp) (by kernel_rfl) (by kernel_rfl) (of_decide_eq_true (by kernel_rfl)) h1 (fun x hx => hg.same (hlt x (by first | (cases hx; done) | simp [hx]))) (fun x hx => hsp x (by first | (cases hx; done) | simp [hx]))) (trodAll_cons_mk2 (WideElems.Trod_stays (sp' := sp) (by kernel_rfl) (by kernel_rfl) (of_decide_eq_true (by kernel_rfl)) h2 (fun x hx => hg.same (hlt x (by first | (cases hx; done) | simp [hx]))) (fun x hx => hsp x (by first | (cases hx; done) | simp [hx]))) trodAll_mk0))))
    (fun _ _ => rfl) (by simp) hg (ok_one (by kernel_rfl) rfl (okWide_bool_mk Tryz.underlying4 _))⟩

set_option maxRecDepth 100000 in
theorem laid_met (os : Os) : laidMetH Tryz.prog Rows.blockTellsRow.laid ((bothWorld os).forCall (fun _ _ => 0) ⟨#[], #[witH, .slice none 0 0, witB], []⟩).memory :=
  laidMetH_of_parts (laidMet_of_run' 8 (by kernel_rfl) (by kernel_rfl)) (by kernel_rfl)
set_option maxRecDepth 100000 in
theorem reads (os : Os) {H : Type} (enc : TypeId × Value → H) : ∃ places, DataW.whole enc Tryz.prog ((bothWorld os).forCall (fun _ _ => 0) ⟨#[], #[witH, .slice none 0 0, witB], []⟩).memory Tryz.f3.params.toList Rows.blockTellsSpec.vars false (#[witH, .slice none 0 0, witB] : Array Value).toList 8 = some ([.agg [.agg [.lit (.int .u8 0), .lit (.int .u8 0), .lit (.int .u8 0), .lit (.int .u8 0), .lit (.int .u8 0), .lit (.int .u8 0), .lit (.int .u8 0), .lit (.int .u8 0), .lit (.int .u8 0), .lit (.int .u8 0), .lit (.int .u8 0), .lit (.int .u8 0), .lit (.int .u8 0), .lit (.int .u8 0), .lit (.int .u8 0), .lit (.int .u8 0), .lit (.int .u8 0), .lit (.int .u8 0), .lit (.int .u8 0), .lit (.int .u8 0), .lit (.int .u8 0), .lit (.int .u8 0), .lit (.int .u8 0), .lit (.int .u8 0), .lit (.int .u8 0), .lit (.int .u8 0), .lit (.int .u8 0), .lit (.int .u8 0), .lit (.int .u8 0), .lit (.int .u8 0), .lit (.int .u8 0), .lit (.int .u8 0)], .agg [.lit (.int .u8 0), .lit (.int .u8 0), .lit (.int .u8 0), .lit (.int .u8 0), .lit (.int .u8 0), .lit (.int .u8 0), .lit (.int .u8 0), .lit (.int .u8 0), .lit (.int .u8 0), .lit (.int .u8 0), .lit (.int .u8 0), .lit (.int .u8 0), .lit (.int .u8 0), .lit (.int .u8 0), .lit (.int .u8 0), .lit (.int .u8 0), .lit (.int .u8 0), .lit (.int .u8 0), .lit (.int .u8 0), .lit (.int .u8 0), .lit (.int .u8 0), .lit (.int .u8 0), .lit (.int .u8 0), .lit (.int .u8 0), .lit (.int .u8 0), .lit (.int .u8 0), .lit (.int .u8 0), .lit (.int .u8 0), .lit (.int .u8 0), .lit (.int .u8 0), .lit (.int .u8 0), .lit (.int .u8 0)], .lit (.int .i64 0), .lit (.int .i64 0), .lit (.int .i64 0), .lit (.int .i64 0)], .nil, .agg [.agg [.agg [.lit (.int .u8 0), .lit (.int .u8 0), .lit (.int .u8 0), .lit (.int .u8 0), .lit (.int .u8 0), .lit (.int .u8 0), .lit (.int .u8 0), .lit (.int .u8 0), .lit (.int .u8 0), .lit (.int .u8 0), .lit (.int .u8 0), .lit (.int .u8 0), .lit (.int .u8 0), .lit (.int .u8 0), .lit (.int .u8 0), .lit (.int .u8 0), .lit (.int .u8 0), .lit (.int .u8 0), .lit (.int .u8 0), .lit (.int .u8 0), .lit (.int .u8 0), .lit (.int .u8 0), .lit (.int .u8 0), .lit (.int .u8 0), .lit (.int .u8 0), .lit (.int .u8 0), .lit (.int .u8 0), .lit (.int .u8 0), .lit (.int .u8 0), .lit (.int .u8 0), .lit (.int .u8 0), .lit (.int .u8 0)], .agg [.lit (.int .u8 0), .lit (.int .u8 0), .lit (.int .u8 0), .lit (.int .u8 0), .lit (.int .u8 0), .lit (.int .u8 0), .lit (.int .u8 0), .lit (.int .u8 0), .lit (.int .u8 0), .lit (.int .u8 0), .lit (.int .u8 0), .lit (.int .u8 0), .lit (.int .u8 0), .lit (.int .u8 0), .lit (.int .u8 0), .lit (.int .u8 0), .lit (.int .u8 0), .lit (.int .u8 0), .lit (.int .u8 0), .lit (.int .u8 0), .lit (.int .u8 0), .lit (.int .u8 0), .lit (.int .u8 0), .lit (.int .u8 0), .lit (.int .u8 0), .lit (.int .u8 0), .lit (.int .u8 0), .lit (.int .u8 0), .lit (.int .u8 0), .lit (.int .u8 0), .lit (.int .u8 0), .lit (.int .u8 0)], .lit (.int .i64 0), .lit (.int .i64 0), .lit (.int .i64 0), .lit (.int .i64 0)], .nil]], [], places) :=
  ⟨[], by kernel_rfl⟩

set_option maxRecDepth 100000 in
theorem lifted (walk : ∀ (hd0 : HeadD) (b1 : List UInt8) (v1 : Value) (n1 : Nat) (bh2 : HeadD) (bt2 : List TxD) (ta2 : Option Addr) (tc2 : Nat) (w : World) (_ : HdOk hd0) (_ : rd w v1 n1 (b1.map vB)) (_ : b1.length = n1) (_ : n1 ≤ 140737488351232) (_ : HdOk bh2) (_ : rdSl txR 3 w (.slice ta2 bt2.length tc2) bt2) (_ : tabAt w) (_ : errAt w),
      Calls Tryz.prog 3 #[.agg (hdV hd0), v1, .agg (blV bh2 (.slice ta2 bt2.length tc2))] w fun e w' => e = .returned (.bool true) ∧ Below w.heap.size w w') (os : Os) (started : os.Started) (H : Type) (enc : TypeId × Value → H) (F : Stop.Interp) :
    ReturnsInHanded {} Tryz.checked os 3 .any ((OpenSpec.ofChange Rows.blockTellsSpec).preRow enc Tryz.prog Tryz.f3 Rows.blockTellsRow.domain false Rows.blockTellsRow.laid) (((OpenSpec.ofChange Rows.blockTellsSpec).at F).post enc Tryz.prog Tryz.f3 false true false false) := by
  obtain ⟨places, hx⟩ := reads os enc
  refine returnsInHanded_of_row (C := Tryz.checked) (s := OpenSpec.ofChange Rows.blockTellsSpec) own_knob started (by kernel_rfl) Tryz.func3
    (witness_row_at (enc := enc) (C := Tryz.checked) false (bothWorld os) #[witH, .slice none 0 0, witB] rfl (by kernel_rfl) (by kernel_rfl) (by kernel_rfl)
      (OpenSpec.preRow_of_cond 8 hx (by kernel_rfl) (fun k hk => by cases hk) (by kernel_rfl) (laid_met os))) ?_
  intro W base args ds gs before hval hW _ _ hsz hL _ _
  exact contract walk H enc W base args ds gs before hval hW hsz hL
theorem said_of (walk : ∀ (hd0 : HeadD) (b1 : List UInt8) (v1 : Value) (n1 : Nat) (bh2 : HeadD) (bt2 : List TxD) (ta2 : Option Addr) (tc2 : Nat) (w : World) (_ : HdOk hd0) (_ : rd w v1 n1 (b1.map vB)) (_ : b1.length = n1) (_ : n1 ≤ 140737488351232) (_ : HdOk bh2) (_ : rdSl txR 3 w (.slice ta2 bt2.length tc2) bt2) (_ : tabAt w) (_ : errAt w),
      Calls Tryz.prog 3 #[.agg (hdV hd0), v1, .agg (blV bh2 (.slice ta2 bt2.length tc2))] w fun e w' => e = .returned (.bool true) ∧ Below w.heap.size w w') : Rows.BlockTellsSaid :=
  OpenClaim.holds_of_cond 3 Tryz.f3 rfl rfl rfl rfl rfl rfl rfl ⟨rfl, rfl, rfl, rfl, rfl⟩ rfl rfl rfl rfl rfl (by kernel_rfl) Tryz.func3 (by kernel_rfl)
    (of_decide_eq_true (by kernel_rfl)) (by unfold Func.isWrapper; first | (rw [if_pos (by decide +kernel)]; kernel_rfl) | (rw [if_neg (by decide +kernel)]; exact ⟨rfl, rfl⟩))
    (fun os started H enc _ F => by rw [OpenClaim.pre_eq_preRow]; exact lifted walk os started H enc F)
theorem plain (f : FuncId) (fn : Func) (hf : Tryz.pinned.checked.prog.funcNamed "moneyer/moneyerlaw3.BlockTells" = some f) (hfn : Tryz.pinned.checked.prog.funcs[f]? = some fn) :
    true = Tryz.pinned.checked.prog.looks [] ∧ ∀ (j : Nat) t, fn.params[j]? = some t → Tryz.pinned.checked.prog.wantsStandIn t = false := by
  obtain rfl : f = 3 := Option.some.inj ((show Tryz.prog.funcNamed "moneyer/moneyerlaw3.BlockTells" = some 3 by kernel_rfl).symm.trans hf) |>.symm
  obtain rfl : fn = Tryz.f3 := (Option.some.inj (Tryz.func3.symm.trans hfn)).symm
  refine ⟨by kernel_rfl, fun j t ht => ?_⟩
  rw [Tryz.params3] at ht
  have hm := Array.mem_of_getElem? ht
  simp only [List.mem_toArray, List.mem_cons, List.not_mem_nil, or_false] at hm
  rcases hm with rfl | rfl | rfl
  · exact (show Tryz.prog.wantsStandIn 25 = false by kernel_rfl)
  · exact (show Tryz.prog.wantsStandIn 26 = false by kernel_rfl)
  · exact (show Tryz.prog.wantsStandIn 29 = false by kernel_rfl)
theorem card_of (walk : ∀ (hd0 : HeadD) (b1 : List UInt8) (v1 : Value) (n1 : Nat) (bh2 : HeadD) (bt2 : List TxD) (ta2 : Option Addr) (tc2 : Nat) (w : World) (_ : HdOk hd0) (_ : rd w v1 n1 (b1.map vB)) (_ : b1.length = n1) (_ : n1 ≤ 140737488351232) (_ : HdOk bh2) (_ : rdSl txR 3 w (.slice ta2 bt2.length tc2) bt2) (_ : tabAt w) (_ : errAt w),
      Calls Tryz.prog 3 #[.agg (hdV hd0), v1, .agg (blV bh2 (.slice ta2 bt2.length tc2))] w fun e w' => e = .returned (.bool true) ∧ Below w.heap.size w w') : Rows.BlockTellsCardSaid :=
  Claim7.holds_tied_plain_at .later [] _ _ _ _ (said_of walk) (fun _ h => by cases h) (by kernel_rfl) (fun _ h => by cases h) blockTells_row_tie rfl ⟨rfl, rfl⟩ (by kernel_rfl) rfl plain (by kernel_rfl)
end Go.Proofs.YtljcdkfafknnpaaGreatDoor.blockTells
