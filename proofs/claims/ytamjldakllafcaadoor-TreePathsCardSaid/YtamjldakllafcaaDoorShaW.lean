/- The walks of math/bits.RotateLeft32 and of the functions of package sha. Conditions: none beyond each theorem's own. -/
import Derived.Test.YtamjldakllafcaaDoorOwn
import Derived.Test.YtamjldakllafcaaDoorSha
import Derived.Test.YtamjldakllafcaaDoorRows
import Derived.Outline
namespace Go.Proofs.YtamjldakllafcaaDoor
set_option linter.unusedVariables false
set_option linter.unusedSimpArgs false
open Go.RowKit

theorem ret1 {k : IntKind} {a b : Int} (h : a = b) : Ending.returned (.int k a) = .returned (.int k b) := by rw [h]
/-- math/bits.RotateLeft32 by -k. -/
theorem rotl_any (x : UInt32) (k : Nat) (s : Int) (hk : 0 < k) (hk' : k < 32) (hs : s = -(k : Int)) (w : World) :
    Calls Tryd.prog 70 #[.int .u32 (wv x), .int .i64 s] w fun e w' => e = .returned (.int .u32 (wv (rotr k x))) ∧ w = w' := by
  have hb : bits .and .u64 (IntKind.u64.wrap s) 31 = ((32 - k : Nat) : Int) := by
    subst hs
    rw [IntKind.wrap_u64]
    have : (-(k : Int)) % 18446744073709551616 = ((18446744073709551616 - k : Nat) : Int) := by omega
    rw [this, show (31 : Int) = ((31 : Nat) : Int) from rfl, u64_and_nat _ _ (by omega) (by omega), nat_mask5]
    omega
  clear hs
  obtain ⟨m, hm⟩ : ∃ m, 32 - k = m := ⟨_, rfl⟩
  have hmk : k = 32 - m := by omega
  have hm1 : 0 < m := by omega
  have hm2 : m < 32 := by omega
  have e1 : wv x * 2 ^ m % 4294967296 = wv (x <<< UInt32.ofNat m) := by
    have e := wv_shl x m hm2
    rw [IntKind.wrap_u32'] at e
    simpa using e
  have e2 : wv x / 2 ^ (32 - m) = wv (x >>> UInt32.ofNat (32 - m)) := by
    have e := wv_shr x (32 - m) (by omega)
    simpa using e
  rw [hm] at hb
  have hfin : rotr k x = (x <<< UInt32.ofNat m) ||| (x >>> UInt32.ofNat (32 - m)) := by unfold rotr; rw [← hmk, hm]
  have H1 := Lib.hid e1; clear e1
  have H2 := Lib.hid e2; clear e2
  have Hf := Lib.hid hfin; clear hfin hmk hk hk'
  have Hm := Lib.hid hm; clear hm
  go_enter Tryd.func70, Tryd.ntmps70
  go_wp2
  go_ret
  exact ⟨ret1 (by rw [Hf.out, H1.out, H2.out, wv_or]), rfl⟩

theorem turned_1 (x : UInt32) (w : World) :
    Calls Tryd.prog 71 #[.int .u32 (wv x), .int .i64 6, .int .i64 11, .int .i64 25] w fun e w' => e = .returned (.int .u32 (wv (bs1 x))) ∧ w = w' := by
  have hx := wv_xor
  go_enter Tryd.func71, Tryd.ntmps71
  go_wp2_with fail
  refine (rotl_any x 6 _ (by decide) (by decide) (by decide) _).mono ?_
  rintro e w' ⟨rfl, rfl⟩
  go_wp2_with fail
  refine (rotl_any x 11 _ (by decide) (by decide) (by decide) _).mono ?_
  rintro e w' ⟨rfl, rfl⟩
  go_wp2_with fail
  refine (rotl_any x 25 _ (by decide) (by decide) (by decide) _).mono ?_
  rintro e w' ⟨rfl, rfl⟩
  go_wp2
  go_ret
  exact ⟨rfl, rfl⟩
theorem turned_0 (x : UInt32) (w : World) :
    Calls Tryd.prog 71 #[.int .u32 (wv x), .int .i64 2, .int .i64 13, .int .i64 22] w fun e w' => e = .returned (.int .u32 (wv (bs0 x))) ∧ w = w' := by
  have hx := wv_xor
  go_enter Tryd.func71, Tryd.ntmps71
  go_wp2_with fail
  refine (rotl_any x 2 _ (by decide) (by decide) (by decide) _).mono ?_
  rintro e w' ⟨rfl, rfl⟩
  go_wp2_with fail
  refine (rotl_any x 13 _ (by decide) (by decide) (by decide) _).mono ?_
  rintro e w' ⟨rfl, rfl⟩
  go_wp2_with fail
  refine (rotl_any x 22 _ (by decide) (by decide) (by decide) _).mono ?_
  rintro e w' ⟨rfl, rfl⟩
  go_wp2
  go_ret
  exact ⟨rfl, rfl⟩

/-- A state's cells. -/
def stV (s : St) : Array Value := #[.int .u32 (wv s.a), .int .u32 (wv s.b), .int .u32 (wv s.c), .int .u32 (wv s.d), .int .u32 (wv s.e), .int .u32 (wv s.f), .int .u32 (wv s.g), .int .u32 (wv s.h)]
@[go_sem] theorem stV_size (s : St) : (stV s).size = 8 := nr rfl
@[go_sem] theorem stV_plain (s : St) : plainCells (stV s) = true := nr rfl
theorem begin_any (w : World) : Calls Tryd.prog 62 #[] w fun e w' => e = .returned (.agg (stV St0)) ∧ Below w.heap.size w w' := by
  go_enter Tryd.func62, Tryd.ntmps62
  go_wp2
  refine bodyPost_ret (v := .agg (stV St0)) ?_ rfl ⟨rfl, (Below.refl _ _).alloc (Nat.le_refl _) _⟩
  have h : stV St0 = #[.int .u32 1779033703, .int .u32 3144134277, .int .u32 1013904242, .int .u32 2773480762, .int .u32 1359893119, .int .u32 2600822924, .int .u32 528734635, .int .u32 1541459225] := by
    simp only [stV, St0, show wv 1779033703 = 1779033703 from by decide, show wv 3144134277 = 3144134277 from by decide, show wv 1013904242 = 1013904242 from by decide, show wv 2773480762 = 2773480762 from by decide,
      show wv 1359893119 = 1359893119 from by decide, show wv 2600822924 = 2600822924 from by decide, show wv 528734635 = 528734635 from by decide, show wv 1541459225 = 1541459225 from by decide]
  rw [h]
  simp [results, Tryd.results62, go_sem]
end Go.Proofs.YtamjldakllafcaaDoor
