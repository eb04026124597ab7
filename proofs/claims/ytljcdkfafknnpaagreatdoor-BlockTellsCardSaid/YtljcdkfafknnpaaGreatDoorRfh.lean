/- Merged: Rfh. Conditions: none beyond each theorem's own. -/
import Derived.Test.YtljcdkfafknnpaaGreatDoorRfn
import Derived.Deep.RegionLaw
namespace Go.Proofs.YtljcdkfafknnpaaGreatDoor
set_option linter.unusedVariables false
set_option linter.unusedSimpArgs false
open Go.RowKit
attribute [local go_sem ↓] run_load_agg run_store_agg run_build_two run_load_any

theorem half_unique2 : ∀ n : Fin 257, ∀ j : Fin 9, 2 ≤ n.val → 2 ^ j.val < n.val → n.val ≤ 2 * 2 ^ j.val → halfM n.val = 2 ^ j.val := by decide +kernel
set_option maxHeartbeats 1000000 in
theorem rhalf_any (n : Nat) (h2 : 2 ≤ n) (hn : n ≤ 256) (w : World) :
    Calls Tryz.prog 44 #[.int .i64 n] w fun e w' => e = .returned (.int .i64 (halfM n)) ∧ w' = w := by
  go_enter Tryz.func44, Tryz.ntmps44
  go_wp2
  go_loopw [3] (fun c wr => wr = w ∧ ∃ j : Nat, j ≤ 8 ∧ c = .int .i64 ((2 ^ j : Nat) : Int) ∧ 2 ^ j < n) (fun c _ => 256 - (intOf c).toNat)
  case atStart => exact ⟨rfl, 0, by omega, rfl, by omega⟩
  case round =>
    obtain ⟨rfl, j, hj, rfl, hjn⟩ := hrel
    obtain ⟨k, hk⟩ : ∃ k, 2 ^ j = k := ⟨_, rfl⟩
    rw [hk] at hjn ⊢
    have hk0 : 0 < k := by rw [← hk]; exact Nat.two_pow_pos j
    have HK := Lib.hid hk; clear hk
    by_cases hmore : 2 * k < n
    · have hj8 : j < 8 := by
        have e := HK.out
        refine Nat.lt_of_not_le fun h8 => ?_
        have : 2 ^ 8 ≤ 2 ^ j := Nat.pow_le_pow_right (by omega) h8
        omega
      go_wp2
      go_roundw
      case rel => exact ⟨trivial, j + 1, by omega, by rw [Nat.pow_succ, HK.out]; go_num, by rw [Nat.pow_succ, HK.out]; omega⟩
      case measure => simp [intOf]; omega
    · have hu := half_unique2 ⟨n, by omega⟩ ⟨j, by omega⟩ h2 (by simp only; rw [HK.out]; exact hjn) (by simp only; rw [HK.out]; omega)
      simp only at hu
      rw [HK.out] at hu
      have HU := Lib.hid hu; clear hu
      go_wp2
      go_ret
      exact ⟨by rw [HU.out]; rfl, rfl⟩
end Go.Proofs.YtljcdkfafknnpaaGreatDoor
