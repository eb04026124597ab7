/- Merged: Zof. Conditions: none beyond each theorem's own. -/
import Derived.Test.YtljcdkfafknnpaaGreatDoorZer
namespace Go.Proofs.YtljcdkfafknnpaaGreatDoor
set_option linter.unusedVariables false
set_option linter.unusedSimpArgs false
open Go.RowKit
attribute [local go_sem ↓] run_load_agg run_store_agg run_build_two run_load_any

/-- The bit at this place from the left. -/
def bitM (d : List UInt8) (i : Nat) : Nat := (d.getD (i / 8) 0).toNat / 2 ^ (7 - i % 8) % 2
theorem byte_zero : ∀ x : Fin 256, (∀ k : Fin 8, x.val / 2 ^ (7 - k.val) % 2 = 0) → x.val = 0 := by decide +kernel
theorem byte_first : ∀ x : Fin 256, ∀ k : Fin 8, (∀ j : Fin 8, j.val < k.val → x.val / 2 ^ (7 - j.val) % 2 = 0) → x.val / 2 ^ (7 - k.val) % 2 = 1 → 8 - Lib.bitLen x.val = k.val := by decide +kernel
theorem zerosM_at (d : List UInt8) (i : Nat) (hi : i < 8 * d.length) (h0 : ∀ j, j < i → bitM d j = 0) (h1 : bitM d i = 1) : zerosM d = i := by
  have hb : ∀ x : UInt8, x.toNat < 256 := fun x => x.toNat_lt
  have hf : firstNZ d = i / 8 := by
    refine firstNZ_eq d (i / 8) (by omega) (fun j hj => ?_) (fun h => ?_)
    · have := byte_zero ⟨_, hb (d.getD j 0)⟩ (fun k => by
        have := h0 (8 * j + k.val) (by omega)
        unfold bitM at this
        rw [show (8 * j + k.val) / 8 = j from by omega, show (8 * j + k.val) % 8 = k.val from by omega] at this
        exact this)
      exact UInt8.toNat_inj.1 this
    · unfold bitM at h1
      rw [h] at h1
      simp at h1
  have := byte_first ⟨_, hb (d.getD (i / 8) 0)⟩ ⟨i % 8, by omega⟩ (fun j hj => by
      have hj' : j.val < i % 8 := hj
      have := h0 (8 * (i / 8) + j.val) (by omega)
      unfold bitM at this
      rw [show (8 * (i / 8) + j.val) / 8 = i / 8 from by omega, show (8 * (i / 8) + j.val) % 8 = j.val from by omega] at this
      exact this) h1
  have h2 : 8 - Lib.bitLen (d.getD (i / 8) 0).toNat = i % 8 := this
  unfold zerosM
  rw [hf, if_pos (by omega), h2]
  omega
theorem zerosM_none (d : List UInt8) (h0 : ∀ j, j < 8 * d.length → bitM d j = 0) : zerosM d = 256 := by
  have hb : ∀ x : UInt8, x.toNat < 256 := fun x => x.toNat_lt
  have hf : firstNZ d = d.length := firstNZ_all d (fun j hj => by
    have := byte_zero ⟨_, hb (d.getD j 0)⟩ (fun k => by
        have := h0 (8 * j + k.val) (by omega)
        unfold bitM at this
        rw [show (8 * j + k.val) / 8 = j from by omega, show (8 * j + k.val) % 8 = k.val from by omega] at this
        exact this)
    exact UInt8.toNat_inj.1 this)
  unfold zerosM
  rw [hf, if_neg (by omega)]
theorem height2_any (n : Int) (w : World) : Calls Tryz.prog 28 #[.int .i64 n] w fun e w' => e = .returned (.bool (decide (0 ≤ n) && decide (n ≤ 1073741824))) ∧ w' = w := by
  by_cases h0 : 0 ≤ n <;> by_cases h1 : n ≤ 1073741824
  all_goals
    go_enter Tryz.func28, Tryz.ntmps28
    go_wp2
    go_ret
    exact ⟨by simp [h0, h1], rfl⟩
theorem bits2_any (n : Int) (w : World) : Calls Tryz.prog 29 #[.int .i64 n] w fun e w' => e = .returned (.bool (decide (0 ≤ n) && decide (n ≤ 40))) ∧ w' = w := by
  by_cases h0 : 0 ≤ n <;> by_cases h1 : n ≤ 40
  all_goals
    go_enter Tryz.func29, Tryz.ntmps29
    go_wp2
    go_ret
    exact ⟨by simp [h0, h1], rfl⟩
set_option maxHeartbeats 1000000 in
set_option maxRecDepth 100000 in
theorem zerosOf_any (d : List UInt8) (hd : d.length = 32) (w : World) :
    Calls Tryz.prog 37 #[.agg (dgV d)] w fun e w' => e = .returned (.int .i64 (zerosM d)) ∧ Below w.heap.size w w' := by
  have hsd : (dgV d).size = 32 := by rw [dgV_size, hd]
  have hpd : plainCells (dgV d) = true := dgV_plain _
  have HN0 := Lib.hid (heap_alloc_new w (.cells (dgV d) 23))
  have hb0 : Hid (Below w.heap.size w (w.alloc (.cells (dgV d) 23))) := (Below.refl _ _).alloc (Nat.le_refl _) _
  go_enter Tryz.func37, Tryz.ntmps37
  go_wp2_with fail
  change Code.wp _ _ _ _ (w.alloc (.cells (dgV d) 23))
  generalize w.alloc (.cells (dgV d) 23) = wa at HN0 hb0 ⊢
  go_loop [3] (fun i => ∃ k : Nat, k ≤ 256 ∧ i = .int .i64 k ∧ Hid (∀ j, j < k → bitM d j = 0)) (fun i => 256 - (intOf i).toNat)
  case atStart => exact ⟨0, by omega, rfl, Lib.hid (fun j hj => by omega)⟩
  case round =>
    obtain ⟨k, hk, rfl, H0⟩ := hrel
    by_cases hlt : k < 256
    · obtain ⟨a, c, hkac, hc8⟩ : ∃ a c, k = 8 * a + c ∧ c < 8 := ⟨k / 8, k % 8, by omega, by omega⟩
      have hc : wa.cell? ⟨w.heap.size, a, none⟩ = some (.int .u8 (bv (d.getD a 0))) := by
        rw [cell_of_row _ _ _ _ _ _ HN0.out, dgV_get _ _ (by omega)]
      have hbit : bitM d k = (d.getD a 0).toNat / 2 ^ (7 - c) % 2 := by
        unfold bitM; rw [show k / 8 = a from by omega, show k % 8 = c from by omega]
      have hxl : (d.getD a 0).toNat < 256 := (d.getD a 0).toNat_lt
      have hxb : bv (d.getD a 0) = (((d.getD a 0).toNat : Nat) : Int) := rfl
      rw [hxb] at hc
      obtain ⟨x, hx⟩ : ∃ x, (d.getD a 0).toNat = x := ⟨_, rfl⟩
      rw [hx] at hc hbit hxl
      have HX := Lib.hid hx; have HBIT := Lib.hid hbit
      have qa : (k : Int) / 8 = (a : Int) := by omega
      have qb : (k : Int).tdiv 8 = (a : Int) := by rw [Int.tdiv_eq_ediv_of_nonneg (by omega)]; exact qa
      have qc : (k : Int) % 8 = (c : Int) := by omega
      have qd : (k : Int).tmod 8 = (c : Int) := by rw [Int.tmod_eq_emod_of_nonneg (by omega)]; exact qc
      have ha32 : a < 32 := by omega
      clear hbit hx hxb
      have HK := Lib.hid hkac; clear hkac
      go_wp2_with fail
      go_loop [4, 5] (fun y i => ∃ j : Nat, j + c ≤ 7 ∧ i = .int .i64 ((7 : Int) - j) ∧ y = .int .i64 ((x / 2 ^ j : Nat) : Int)) (fun _ i => (intOf i).toNat)
      case atStart => exact ⟨0, by omega, by simp, by simp⟩
      case round =>
        obtain ⟨j, hj, rfl, rfl⟩ := hrel
        have hyb : x / 2 ^ j ≤ x := Nat.div_le_self _ _
        obtain ⟨y, hy⟩ : ∃ y, x / 2 ^ j = y := ⟨_, rfl⟩
        rw [hy] at hyb ⊢
        have HY := Lib.hid hy; clear hy
        by_cases hjc : j + c < 7
        · go_wp2
          go_round
          case rel => exact ⟨j + 1, by omega, by go_num, by rw [Nat.pow_succ, ← Nat.div_div_eq_div_mul, HY.out]; go_num⟩
          case measure => simp [intOf]; omega
        · have hb1 : bitM d k = y % 2 := by rw [HBIT.out, ← HY.out, show 7 - c = j from by omega]
          have HB1 := Lib.hid hb1; clear hb1
          by_cases h1 : y % 2 = 1
          · have hz := zerosM_at d k (by omega) H0.out (by rw [HB1.out]; exact h1)
            have HZ := Lib.hid hz; clear hz
            have h2 : ((y : Int) % 2 == 1) = true := by rw [beq_iff_eq]; omega
            have h3 : ((y : Int).tmod 2 == 1) = true := by rw [Int.tmod_eq_emod_of_nonneg (by omega)]; exact h2
            clear h1
            go_wp2
            go_ret
            exact ⟨by rw [HZ.out]; rfl, hb0.out⟩
          · have h2 : ((y : Int) % 2 == 1) = false := beq_false_of_ne (by omega)
            have h3 : ((y : Int).tmod 2 == 1) = false := by rw [Int.tmod_eq_emod_of_nonneg (by omega)]; exact h2
            have H1 := Lib.hid h1; clear h1
            go_wp2
            go_round
            case rel =>
              refine ⟨k + 1, by omega, by go_num, Lib.hid (fun i hi => ?_)⟩
              by_cases e : i = k
              · rw [e, HB1.out]; have := H1.out; omega
              · exact H0.out i (by omega)
            case measure => simp [intOf]; omega
    · have hz := zerosM_none d (fun j hj => H0.out j (by omega))
      have HZ := Lib.hid hz; clear hz
      go_wp2
      go_ret
      exact ⟨by rw [HZ.out]; rfl, hb0.out⟩
end Go.Proofs.YtljcdkfafknnpaaGreatDoor
