/- The walks of work.Work, Next and the reference's NextOf. Conditions: none beyond each theorem's own. -/
import Derived.Test.YtamjldakllafcaaDoorZof
namespace Go.Proofs.YtamjldakllafcaaDoor
set_option linter.unusedVariables false
set_option linter.unusedSimpArgs false
open Go.RowKit

/-- How many bits are wanted next. -/
def nextV (n took want : Int) : Int := if 2 * took ≤ want then (if n < 40 then n + 1 else 40) else if 2 * want ≤ took then (if 0 < n then n - 1 else 0) else n
theorem ret2i {k : IntKind} {a b : Int} {v : Value} (h : a = b) : Ending.returned (.tuple #[.int k a, v]) = .returned (.tuple #[.int k b, v]) := by rw [h]
def withinB (n : Int) : Bool := decide (0 ≤ n) && decide (n ≤ 40)
def heightB (n : Int) : Bool := decide (0 ≤ n) && decide (n ≤ 1073741824)
theorem within_all (n : Int) (w : World) : Calls Tryd.prog 41 #[.int .i64 n] w fun e w' => e = .returned (.bool (withinB n)) ∧ w' = w := by
  unfold withinB
  by_cases h0 : 0 ≤ n <;> by_cases h1 : n ≤ 40
  all_goals
    go_enter Tryd.func41, Tryd.ntmps41
    go_wp2
    go_ret
    exact ⟨by simp [h0, h1], rfl⟩
theorem height_all (n : Int) (w : World) : Calls Tryd.prog 40 #[.int .i64 n] w fun e w' => e = .returned (.bool (heightB n)) ∧ w' = w := by
  unfold heightB
  by_cases h0 : 0 ≤ n <;> by_cases h1 : n ≤ 1073741824
  all_goals
    go_enter Tryd.func40, Tryd.ntmps40
    go_wp2
    go_ret
    exact ⟨by simp [h0, h1], rfl⟩
theorem bits2_all (n : Int) (w : World) : Calls Tryd.prog 58 #[.int .i64 n] w fun e w' => e = .returned (.bool (withinB n)) ∧ w' = w := bits2_any n w
theorem height2_all (n : Int) (w : World) : Calls Tryd.prog 59 #[.int .i64 n] w fun e w' => e = .returned (.bool (heightB n)) ∧ w' = w := height2_any n w
def badB (n took want : Int) : Bool := !(withinB n) || !(heightB took) || !(heightB want) || want == 0
theorem bad_of (n took want : Int) (h : badB n took want = false) : 0 ≤ n ∧ n ≤ 40 ∧ 0 ≤ took ∧ took ≤ 1073741824 ∧ 0 < want ∧ want ≤ 1073741824 := by
  simp [badB, withinB, heightB] at h; omega
set_option maxHeartbeats 1000000 in
theorem next_good (n took want : Int) (w : World) (h : badB n took want = false) :
    Calls Tryd.prog 29 #[.int .i64 n, .int .i64 took, .int .i64 want] w fun e w' => e = .returned (.tuple #[.int .i64 (nextV n took want), .nilIface]) ∧ w' = w := by
  obtain ⟨h0, h1, t0, t1, v0, v1⟩ := bad_of n took want h
  clear h
  have hv0 : (want == 0) = false := by rw [beq_eq_false_iff_ne]; omega
  have hn : withinB n = true := by simp [withinB, h0, h1]
  have ht : heightB took = true := by simp [heightB, t0, t1]
  have hv : heightB want = true := by simp [heightB, v1]; omega
  go_enter Tryd.func29, Tryd.ntmps29
  go_wp2_with (first
    | (go_at_call 41; refine (within_all _ _).mono ?_; rintro e w' ⟨rfl, rfl⟩)
    | (go_at_call 40; refine (height_all _ _).mono ?_; rintro e w' ⟨rfl, rfl⟩))
  all_goals go_ret2
  all_goals exact ⟨ret2i (by unfold nextV; repeat' split; all_goals omega), rfl⟩
set_option maxHeartbeats 1000000 in
theorem next_bad (n took want : Int) (w : World) (h : badB n took want = true) :
    Calls Tryd.prog 29 #[.int .i64 n, .int .i64 took, .int .i64 want] w fun e w' => e = .returned (.tuple #[.int .i64 0, .iface 47 (.int .i64 2)]) ∧ w' = w := by
  have H := Lib.hid h; clear h
  cases hn : withinB n <;> cases ht : heightB took <;> cases hv : heightB want <;> cases hz : (want == 0)
  all_goals first
    | (exfalso; have := H.out; simp [badB, hn, ht, hv, hz] at this; done)
    | (go_enter Tryd.func29, Tryd.ntmps29
       go_wp2_with (first
        | (go_at_call 41; refine (within_all _ _).mono ?_; rintro e w' ⟨rfl, rfl⟩)
        | (go_at_call 40; refine (height_all _ _).mono ?_; rintro e w' ⟨rfl, rfl⟩))
       go_ret2
       exact ⟨rfl, rfl⟩)
set_option maxHeartbeats 1000000 in
theorem nextOf_good (n took want : Int) (w : World) (h : badB n took want = false) :
    Calls Tryd.prog 28 #[.int .i64 n, .int .i64 took, .int .i64 want] w fun e w' => e = .returned (.tuple #[.int .i64 (nextV n took want), .int .i64 0]) ∧ w' = w := by
  obtain ⟨h0, h1, t0, t1, v0, v1⟩ := bad_of n took want h
  clear h
  have hv0 : (want == 0) = false := by rw [beq_eq_false_iff_ne]; omega
  have hn : withinB n = true := by simp [withinB, h0, h1]
  have ht : heightB took = true := by simp [heightB, t0, t1]
  have hv : heightB want = true := by simp [heightB, v1]; omega
  by_cases c1 : 2 * took ≤ want <;> by_cases c2 : n < 40 <;> by_cases c3 : 2 * want ≤ took <;> by_cases c4 : 0 < n
  all_goals first
    | (exfalso; omega)
    | (go_enter Tryd.func28, Tryd.ntmps28
       go_wp2_with (first
        | (go_at_call 58; refine (bits2_all _ _).mono ?_; rintro e w' ⟨rfl, rfl⟩)
        | (go_at_call 59; refine (height2_all _ _).mono ?_; rintro e w' ⟨rfl, rfl⟩))
       go_ret2
       exact ⟨ret2i (by unfold nextV; repeat' split; all_goals omega), rfl⟩)
set_option maxHeartbeats 1000000 in
theorem nextOf_bad (n took want : Int) (w : World) (h : badB n took want = true) :
    Calls Tryd.prog 28 #[.int .i64 n, .int .i64 took, .int .i64 want] w fun e w' => e = .returned (.tuple #[.int .i64 0, .int .i64 2]) ∧ w' = w := by
  have H := Lib.hid h; clear h
  cases hn : withinB n <;> cases ht : heightB took <;> cases hv : heightB want <;> cases hz : (want == 0)
  all_goals first
    | (exfalso; have := H.out; simp [badB, hn, ht, hv, hz] at this; done)
    | (go_enter Tryd.func28, Tryd.ntmps28
       go_wp2_with (first
        | (go_at_call 58; refine (bits2_all _ _).mono ?_; rintro e w' ⟨rfl, rfl⟩)
        | (go_at_call 59; refine (height2_all _ _).mono ?_; rintro e w' ⟨rfl, rfl⟩))
       go_ret2
       exact ⟨rfl, rfl⟩)
theorem pow_small : ∀ n : Fin 41, wrap64 ((2 : Int) ^ n.val) = ((2 ^ n.val : Nat) : Int) := by decide +kernel
theorem work_ok (n : Nat) (hn : n ≤ 40) (w : World) :
    Calls Tryd.prog 26 #[.int .i64 n] w fun e w' => e = .returned (.tuple #[.int .i64 ((2 ^ n : Nat) : Int), .nilIface]) ∧ w' = w := by
  have hw : withinB n = true := by simp [withinB]; omega
  have HQ := Lib.hid (pow_small ⟨n, by omega⟩)
  go_enter Tryd.func26, Tryd.ntmps26
  go_wp2_with (go_at_call 41; refine (within_all _ _).mono ?_; rintro e w' ⟨rfl, rfl⟩)
  go_ret2
  exact ⟨ret2i (k := .i64) HQ.out, rfl⟩
theorem work_no (n : Int) (h : withinB n = false) (w : World) :
    Calls Tryd.prog 26 #[.int .i64 n] w fun e w' => e = .returned (.tuple #[.int .i64 0, .iface 47 (.int .i64 2)]) ∧ w' = w := by
  go_enter Tryd.func26, Tryd.ntmps26
  go_wp2_with (go_at_call 41; refine (within_all _ _).mono ?_; rintro e w' ⟨rfl, rfl⟩)
  go_ret2
  exact ⟨rfl, rfl⟩
end Go.Proofs.YtamjldakllafcaaDoor
