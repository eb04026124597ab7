/- WorkLevels: for every input the law returns true. Conditions: none beyond the given row. -/
import Derived.Test.YtamjldakllafcaaRows
import Derived.WalkKit
import Derived.ProofKit
import Derived.OpenShut
import Derived.Lib.Hide
namespace Go.Proofs.Ytamjldakllafcaa.workLevels
open Go.ChangeShapes Go.WideShapes Go.ChangeAt Go.RowKit
set_option linter.unusedVariables false      -- a walk need not use every 'w<i>' (that an integer argument fits its kind)

theorem own : ownKnob Try.prog.godebug = none := by kernel_rfl


/-- How many bits are wanted next. -/
def nextV (n took want : Int) : Int := if 2 * took ≤ want then (if n < 40 then n + 1 else 40) else if 2 * want ≤ took then (if 0 < n then n - 1 else 0) else n
theorem nextV_bd (n took want : Int) (h0 : 0 ≤ n) (h1 : n ≤ 40) : 0 ≤ nextV n took want ∧ nextV n took want ≤ 40 ∧ nextV n took want - n ≤ 1 ∧ n - nextV n took want ≤ 1 := by
  unfold nextV; split
  · split <;> omega
  · split
    · split <;> omega
    · omega
theorem nextV_same (n want : Int) (v0 : 0 < want) : nextV n want want = n := by
  unfold nextV; rw [if_neg (by omega), if_neg (by omega)]
theorem nextV_mono (n took longer want : Int) (h0 : 0 ≤ n) (h1 : n ≤ 40) (h : took ≤ longer) : nextV n longer want ≤ nextV n took want := by
  unfold nextV; repeat' split
  all_goals omega
theorem ret2 {k : IntKind} {a b : Int} {v : Value} (h : a = b) : Ending.returned (.tuple #[.int k a, v]) = .returned (.tuple #[.int k b, v]) := by rw [h]
def withinB (n : Int) : Bool := decide (0 ≤ n) && decide (n ≤ 40)
def heightB (n : Int) : Bool := decide (0 ≤ n) && decide (n ≤ 1073741824)
theorem within_any (n : Int) (w : World) : Calls Try.prog 5 #[.int .i64 n] w fun e w' => e = .returned (.bool (withinB n)) ∧ w = w' := by
  unfold withinB
  by_cases h0 : 0 ≤ n <;> by_cases h1 : n ≤ 40
  all_goals
    go_enter Try.func5, Try.ntmps5
    go_wp2
    go_ret
    exact ⟨by simp [h0, h1], rfl⟩
theorem height_any (n : Int) (w : World) : Calls Try.prog 6 #[.int .i64 n] w fun e w' => e = .returned (.bool (heightB n)) ∧ w = w' := by
  unfold heightB
  by_cases h0 : 0 ≤ n <;> by_cases h1 : n ≤ 1073741824
  all_goals
    go_enter Try.func6, Try.ntmps6
    go_wp2
    go_ret
    exact ⟨by simp [h0, h1], rfl⟩
set_option maxHeartbeats 400000 in
theorem next_ok (n took want : Int) (w : World) (h0 : 0 ≤ n) (h1 : n ≤ 40) (t0 : 0 ≤ took) (t1 : took ≤ 1073741824) (v0 : 0 < want) (v1 : want ≤ 1073741824) :
    Calls Try.prog 4 #[.int .i64 n, .int .i64 took, .int .i64 want] w fun e w' => e = .returned (.tuple #[.int .i64 (nextV n took want), .nilIface]) ∧ w = w' := by
  have hv0 : (want == 0) = false := by rw [beq_eq_false_iff_ne]; omega
  have hn : withinB n = true := by simp [withinB, h0, h1]
  have ht : heightB took = true := by simp [heightB, t0, t1]
  have hv : heightB want = true := by simp [heightB, v1]; omega
  go_enter Try.func4, Try.ntmps4
  go_wp2_with (first
    | (go_at_call 5; refine (within_any _ _).mono ?_; rintro e w' ⟨rfl, rfl⟩)
    | (go_at_call 6; refine (height_any _ _).mono ?_; rintro e w' ⟨rfl, rfl⟩))
  all_goals go_ret2
  all_goals exact ⟨ret2 (by unfold nextV; repeat' split; all_goals omega), rfl⟩
def badB (n took want : Int) : Bool := !(withinB n) || !(heightB took) || !(heightB want) || want == 0
theorem bad_of (n took want : Int) (h : badB n took want = false) : 0 ≤ n ∧ n ≤ 40 ∧ 0 ≤ took ∧ took ≤ 1073741824 ∧ 0 < want ∧ want ≤ 1073741824 := by
  simp [badB, withinB, heightB] at h; omega
theorem next_good (n took want : Int) (w : World) (h : badB n took want = false) :
    Calls Try.prog 4 #[.int .i64 n, .int .i64 took, .int .i64 want] w fun e w' => e = .returned (.tuple #[.int .i64 (nextV n took want), .nilIface]) ∧ w = w' := by
  obtain ⟨a, b, c, d, e, f⟩ := bad_of n took want h
  exact next_ok n took want w a b c d e f
set_option maxHeartbeats 400000 in
theorem next_bad (n took want : Int) (w : World) (h : badB n took want = true) :
    Calls Try.prog 4 #[.int .i64 n, .int .i64 took, .int .i64 want] w fun e w' => e = .returned (.tuple #[.int .i64 0, .iface 28 (.int .i64 2)]) ∧ w = w' := by
  have H := Lib.hid h; clear h
  cases hn : withinB n <;> cases ht : heightB took <;> cases hv : heightB want <;> cases hz : (want == 0)
  all_goals first
    | (exfalso; have := H.out; simp [badB, hn, ht, hv, hz] at this; done)
    | (go_enter Try.func4, Try.ntmps4
       go_wp2_with (first
        | (go_at_call 5; refine (within_any _ _).mono ?_; rintro e w' ⟨rfl, rfl⟩)
        | (go_at_call 6; refine (height_any _ _).mono ?_; rintro e w' ⟨rfl, rfl⟩))
       go_ret2
       exact ⟨rfl, rfl⟩)

/-- The answer behind the three calls. -/
def ansB (n a b c took longer : Int) : Bool := c == n && decide (a - n ≤ 1) && decide (n - a ≤ 1) && decide (0 ≤ a) && decide (a ≤ 40) && (decide (longer < took) || decide (b ≤ a))
theorem ansB_true (n took longer want : Int) (h1 : badB n took want = false) (h2 : badB n longer want = false) :
    ((nextV n want want == n) = true) ∧ nextV n took want - n ≤ 1 ∧ n - nextV n took want ≤ 1 ∧ 0 ≤ nextV n took want ∧ nextV n took want ≤ 40 ∧ (¬ longer < took → nextV n longer want ≤ nextV n took want) := by
  obtain ⟨a, b, c, d, e, f⟩ := bad_of n took want h1
  obtain ⟨p, q, r, s⟩ := nextV_bd n took want a b
  exact ⟨by rw [nextV_same n want e]; simp, r, s, p, q, fun h => nextV_mono n took longer want a b (by omega)⟩
theorem bad3 (n took want : Int) (h1 : badB n took want = false) : badB n want want = false := by
  obtain ⟨a, b, c, d, e, f⟩ := bad_of n took want h1
  simp [badB, withinB, heightB]; omega
theorem first_call : nextV 5 1 10 = 6 := by decide
theorem walk (a0 : Int) (a1 : Int) (a2 : Int) (a3 : Int) (w0 : (Lit.int .i64 a0).wf = true) (w1 : (Lit.int .i64 a1).wf = true) (w2 : (Lit.int .i64 a2).wf = true) (w3 : (Lit.int .i64 a3).wf = true) (w : World) :
    Calls Try.prog 3 #[.int .i64 a0, .int .i64 a1, .int .i64 a2, .int .i64 a3] w fun e w' => e = .returned (.bool true) ∧ Grown w w' := by
  clear w0 w1 w2 w3
  cases h1 : badB a0 a1 a3
  · cases h2 : badB a0 a2 a3
    · obtain ⟨q1, q2, q3, q4, q5, q6⟩ := ansB_true a0 a1 a2 a3 h1 h2
      have h3 := bad3 _ _ _ h1
      have H1 := Lib.hid h1; clear h1
      have H2 := Lib.hid h2; clear h2
      have H3 := Lib.hid h3; clear h3
      by_cases hl : a2 < a1
      · clear q6
        go_enter Try.func3, Try.ntmps3
        go_wp2_with fail
        refine (next_good 5 1 10 _ (by decide)).mono ?_
        rintro e w' ⟨rfl, rfl⟩
        rw [first_call]
        go_wp2_with fail
        refine (next_good _ _ _ _ H1.out).mono ?_
        rintro e w' ⟨rfl, rfl⟩
        go_wp2_with fail
        refine (next_good _ _ _ _ H2.out).mono ?_
        rintro e w' ⟨rfl, rfl⟩
        go_wp2_with fail
        refine (next_good _ _ _ _ H3.out).mono ?_
        rintro e w' ⟨rfl, rfl⟩
        go_wp2
        go_ret
        exact ⟨rfl, Grown.refl _⟩
      · have q7 := q6 hl
        clear q6
        go_enter Try.func3, Try.ntmps3
        go_wp2_with fail
        refine (next_good 5 1 10 _ (by decide)).mono ?_
        rintro e w' ⟨rfl, rfl⟩
        rw [first_call]
        go_wp2_with fail
        refine (next_good _ _ _ _ H1.out).mono ?_
        rintro e w' ⟨rfl, rfl⟩
        go_wp2_with fail
        refine (next_good _ _ _ _ H2.out).mono ?_
        rintro e w' ⟨rfl, rfl⟩
        go_wp2_with fail
        refine (next_good _ _ _ _ H3.out).mono ?_
        rintro e w' ⟨rfl, rfl⟩
        go_wp2
        go_ret
        exact ⟨by simp, Grown.refl _⟩
    · have h3 := bad3 _ _ _ h1
      have H1 := Lib.hid h1; clear h1
      have H2 := Lib.hid h2; clear h2
      have H3 := Lib.hid h3; clear h3
      go_enter Try.func3, Try.ntmps3
      go_wp2_with fail
      refine (next_good 5 1 10 _ (by decide)).mono ?_
      rintro e w' ⟨rfl, rfl⟩
      rw [first_call]
      go_wp2_with fail
      refine (next_good _ _ _ _ H1.out).mono ?_
      rintro e w' ⟨rfl, rfl⟩
      go_wp2_with fail
      refine (next_bad _ _ _ _ H2.out).mono ?_
      rintro e w' ⟨rfl, rfl⟩
      go_wp2_with fail
      refine (next_good _ _ _ _ H3.out).mono ?_
      rintro e w' ⟨rfl, rfl⟩
      go_wp2
      go_ret
      exact ⟨rfl, Grown.refl _⟩
  · cases h2 : badB a0 a2 a3 <;> cases h3 : badB a0 a3 a3
    all_goals
      have H1 := Lib.hid h1; clear h1
      have H2 := Lib.hid h2; clear h2
      have H3 := Lib.hid h3; clear h3
      go_enter Try.func3, Try.ntmps3
      go_wp2_with fail
      refine (next_good 5 1 10 _ (by decide)).mono ?_
      rintro e w' ⟨rfl, rfl⟩
      rw [first_call]
      go_wp2_with fail
      refine (next_bad _ _ _ _ H1.out).mono ?_
      rintro e w' ⟨rfl, rfl⟩
      go_wp2_with fail
      first
        | (have := H2.out; refine (next_good _ _ _ _ this).mono ?_; clear this)
        | (have := H2.out; refine (next_bad _ _ _ _ this).mono ?_; clear this)
      rintro e w' ⟨rfl, rfl⟩
      go_wp2_with fail
      first
        | (have := H3.out; refine (next_good _ _ _ _ this).mono ?_; clear this)
        | (have := H3.out; refine (next_bad _ _ _ _ this).mono ?_; clear this)
      rintro e w' ⟨rfl, rfl⟩
      go_wp2
      go_ret
      exact ⟨rfl, Grown.refl _⟩

/-! ### THE ROW's STEP: WRITTEN OUT: LEAVE IT -/
set_option maxRecDepth 100000 in
theorem lifted (os : Os) (started : os.Started) (H : Type) (enc : TypeId × Value → H) :
    ReturnsInHanded {} Try.checked os 3 .any (Rows.workLevelsSpec.pre6 enc Try.prog Try.f3 Rows.workLevelsRow.domain false) (Rows.workLevelsSpec.post enc Try.prog Try.f3 false true false false) := by
  refine returnsInHanded_of_change (C := Try.checked) own started (by kernel_rfl) Try.func3
    (ChangeSpec.witness6 (enc := enc) (C := Try.checked) false ⟨#[], #[.int .i64 0, .int .i64 0, .int .i64 0, .int .i64 0], []⟩ 8 (by kernel_rfl) (by kernel_rfl) (by kernel_rfl) (by kernel_rfl)) ?_
  intro W base args ds gs before hval0 hW hcnd _
  have hval : ∀ (j : Nat) t v, Try.f3.params[j]? = some t → args[j]? = some v → Value.okWide Try.prog W .any base t v := hval0
  have hW' := hW
  obtain ⟨p, q, hA0, hV, rfl, hfz, hnd⟩ := hW
  have hA : DataW.TrodAll enc Try.prog W 0 (fun _ => true) true Try.f3.params.toList args.toList ds p := hA0
  rw [Try.params3] at hA hval
  obtain ⟨v0, vs0, d0, ds0, p0, q0, hargs, rfl, rfl, h0, r0⟩ := trodAll_cons hA
  obtain ⟨v1, vs1, d1, ds1, p1, q1, rfl, rfl, rfl, h1, r1⟩ := trodAll_cons r0
  obtain ⟨v2, vs2, d2, ds2, p2, q2, rfl, rfl, rfl, h2, r2⟩ := trodAll_cons r1
  obtain ⟨v3, vs3, d3, ds3, p3, q3, rfl, rfl, rfl, h3, r3⟩ := trodAll_cons r2
  obtain ⟨rfl, rfl, rfl⟩ := trodAll_nil r3
  obtain rfl : args = #[v0, v1, v2, v3] := by cases args; simp_all
  obtain ⟨rfl, rfl⟩ := trodVars_none hV
  obtain ⟨a0, rfl, rfl, rfl, w0⟩ := open_int Try.underlying3 (hval 0 3 v0 rfl rfl) h0
  obtain ⟨a1, rfl, rfl, rfl, w1⟩ := open_int Try.underlying3 (hval 1 3 v1 rfl rfl) h1
  obtain ⟨a2, rfl, rfl, rfl, w2⟩ := open_int Try.underlying3 (hval 2 3 v2 rfl rfl) h2
  obtain ⟨a3, rfl, rfl, rfl, w3⟩ := open_int Try.underlying3 (hval 3 3 v3 rfl rfl) h3
  clear hA0 hval0
  simp only [List.append_nil] at hW'
  refine (walk a0 a1 a2 a3 w0 w1 w2 w3 W).mono fun e W' ⟨he, hg⟩ => ?_
  subst he
  exact ⟨_, rfl, post_of_same (pa := []) (pv := []) hW' (fun _ _ _ => (trodAll_cons_mk (shut_bool Try.underlying4 _) trodAll_mk0)) (fun sp _ => (trodAll_cons_mk (shut_int Try.underlying3 w0) (trodAll_cons_mk (shut_int Try.underlying3 w1) (trodAll_cons_mk (shut_int Try.underlying3 w2) (trodAll_cons_mk (shut_int Try.underlying3 w3) trodAll_mk0))))) (fun _ _ => rfl) rfl
    (hg.frame _) hg.2.1 (ok_one (by kernel_rfl) rfl (okWide_bool_mk Try.underlying4 _))⟩

theorem over : Rows.workLevelsRow.holds Try.pinned (OpenSpec.ofChange Rows.workLevelsSpec) :=
  OpenClaim.holds_of_wide 3 Try.f3 rfl rfl rfl rfl rfl rfl rfl ⟨rfl, rfl, rfl, rfl, rfl⟩ rfl rfl rfl rfl rfl (by kernel_rfl) Try.func3 (by kernel_rfl)
    (of_decide_eq_true (by kernel_rfl)) (by unfold Func.isWrapper; first | (rw [if_pos (by decide +kernel)]; kernel_rfl) | (rw [if_neg (by decide +kernel)]; exact ⟨rfl, rfl⟩))
    (fun os started H enc _ => lifted os started H enc)

/-- ████ THE STATEMENT ████ -/
theorem proved : Rows.WorkLevelsSaid :=
  over
#print axioms proved
end Go.Proofs.Ytamjldakllafcaa.workLevels
