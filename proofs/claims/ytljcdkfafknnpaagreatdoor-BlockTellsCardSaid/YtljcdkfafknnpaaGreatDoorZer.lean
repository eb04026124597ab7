/- Merged: Zer. Conditions: none beyond each theorem's own. -/
import Derived.Test.YtljcdkfafknnpaaGreatDoorNew
import Derived.Test.YtljcdkfafknnpaaGreatDoorBits
namespace Go.Proofs.YtljcdkfafknnpaaGreatDoor
set_option linter.unusedVariables false
set_option linter.unusedSimpArgs false
open Go.RowKit
attribute [local go_sem ↓] run_load_agg run_store_agg run_build_two

/-- The place of the first byte that is not 0. -/
def firstNZ : List UInt8 → Nat
  | [] => 0
  | x :: xs => if x = 0 then firstNZ xs + 1 else 0
def zerosM (d : List UInt8) : Nat := if firstNZ d < d.length then 8 * firstNZ d + (8 - Lib.bitLen (d.getD (firstNZ d) 0).toNat) else 256
theorem firstNZ_spec (d : List UInt8) : firstNZ d ≤ d.length ∧ (∀ j, j < firstNZ d → d.getD j 0 = 0) ∧ (firstNZ d < d.length → d.getD (firstNZ d) 0 ≠ 0) := by
  induction d with
  | nil => simp [firstNZ]
  | cons x xs ih =>
    obtain ⟨h1, h2, h3⟩ := ih
    unfold firstNZ
    split
    · rename_i hx
      refine ⟨by simp; omega, fun j hj => ?_, fun hlt => ?_⟩
      · cases j with
        | zero => simpa using hx
        | succ j => simpa using h2 j (by omega)
      · simpa using h3 (by simpa using hlt)
    · rename_i hx
      refine ⟨by simp, fun j hj => by omega, fun _ => by simpa using hx⟩
theorem firstNZ_eq (d : List UInt8) (j : Nat) (hj : j < d.length) (h0 : ∀ i, i < j → d.getD i 0 = 0) (hx : d.getD j 0 ≠ 0) : firstNZ d = j := by
  obtain ⟨h1, h2, h3⟩ := firstNZ_spec d
  by_cases a : firstNZ d < j
  · exact absurd (h0 _ a) (h3 (by omega))
  · by_cases b : j < firstNZ d
    · exact absurd (h2 j b) hx
    · omega
theorem firstNZ_all (d : List UInt8) (h0 : ∀ i, i < d.length → d.getD i 0 = 0) : firstNZ d = d.length := by
  obtain ⟨h1, -, h3⟩ := firstNZ_spec d
  by_cases a : firstNZ d < d.length
  · exact absurd (h0 _ a) (h3 a)
  · omega
set_option maxRecDepth 100000 in
theorem lz8_any (x : Int) (w : World) (h0 : 0 ≤ x) (h1 : x ≤ 255) :
    Calls Tryz.prog 114 #[.int .u8 x] w fun e w' => e = .returned (.int .i64 (8 - (Lib.bitLen x.toNat : Int))) ∧ w' = w := by
  have h8 := Lib.bitLen_le8' x h0 h1
  go_enter Tryz.func114, Tryz.ntmps114
  go_wp2_with fail
  refine (len8_any x _ h0 h1).mono ?_
  rintro e w' ⟨rfl, rfl⟩
  go_wp2
  go_ret
  exact ⟨rfl, rfl⟩
theorem nz_any (x : UInt8) (w : World) :
    Calls Tryz.prog 113 #[.int .u8 (bv x)] w fun e w' => e = .returned (.bool (decide (0 < bv x))) ∧ w' = w := by
  go_enter Tryz.func113, Tryz.ntmps113
  go_wp2
  go_ret
  exact ⟨rfl, rfl⟩
theorem nz_iff (x : UInt8) : (0 < bv x) ↔ x ≠ 0 := by
  constructor
  · intro h e; subst e; simp [bv] at h
  · intro h
    have := bv_nonneg x
    have h2 : bv x ≠ 0 := fun e => h (bv_inj (by rw [e]; rfl))
    omega
/-- What IndexFunc answers. -/
def idxM (d : List UInt8) (n : Nat) : Int := if firstNZ d < n then (firstNZ d : Int) else -1
theorem idxM_lt (d : List UInt8) (n j : Nat) (h : firstNZ d = j) (hj : j < n) : idxM d n = j := by unfold idxM; rw [h, if_pos hj]
theorem idxM_ge (d : List UInt8) (n j : Nat) (h : firstNZ d = j) (hj : ¬ j < n) : idxM d n = -1 := by unfold idxM; rw [h, if_neg hj]
set_option maxHeartbeats 1000000 in
set_option maxRecDepth 100000 in
theorem indexf_any (d : List UInt8) (ao : Option Addr) (n cap : Nat) (w : World) (hb : rd w (.slice ao n cap) n (d.map vB)) (hl : d.length = n) (hn : n ≤ 1000) :
    Calls Tryz.prog 112 #[.slice ao n cap, .func (Fn.func 113) #[] #[]] w fun e w' => e = .returned (.int .i64 (idxM d n)) ∧ Below w.heap.size w w' := by
  have hb' := hb
  obtain ⟨_, _, e1, k1, k2, k3⟩ := hb'
  cases e1
  unfold maxLen at k2
  have HB := Lib.hid hb; clear hb
  go_enter Tryz.func112, Tryz.ntmps112
  go_wp2_with fail
  go_loopw [8] (fun c wr => ∃ j : Nat, j ≤ n ∧ c = .int .i64 j ∧ wr = w ∧ ∀ i, i < j → d.getD i 0 = 0) (fun c _ => n - (intOf c).toNat)
  case atStart => exact ⟨0, by omega, rfl, rfl, fun i hi => by omega⟩
  case round =>
    obtain ⟨j, hj, rfl, rfl, h0⟩ := hrel
    by_cases hlt : j < n
    · rcases k3 with k3 | ⟨g, off, rfl, k3⟩
      · have := congrArg List.length k3; rw [List.length_map, List.length_nil] at this; omega
      have hc : wr.cell? ⟨g, off + j, none⟩ = some (.int .u8 (bv (d.getD j 0))) := by
        apply k3; simp [List.getD_eq_getElem?_getD, List.getElem?_eq_getElem (show j < d.length by omega), vB]
      have hfx := fun hx => firstNZ_eq d j (by omega) h0 hx
      have H0 := Lib.hid h0
      obtain ⟨x, hx⟩ : ∃ x, d.getD j 0 = x := ⟨_, rfl⟩
      rw [hx] at hc hfx
      have HX := Lib.hid hx; have HFX := Lib.hid hfx
      clear hx hfx h0 k3
      go_wp2_with fail
      refine (nz_any x _).mono ?_
      rintro e w1 ⟨rfl, rfl⟩
      by_cases hz : x = 0
      · have hd : decide (0 < bv x) = false := decide_eq_false (fun h => (nz_iff x).1 h hz)
        rw [hd]
        have HZ := Lib.hid hz; clear hz hd
        go_wp2
        go_roundw
        case rel =>
          refine ⟨j + 1, by omega, by go_num, trivial, fun i hi => ?_⟩
          by_cases e : i = j
          · rw [e, HX.out, HZ.out]
          · exact H0.out i (by omega)
        case measure => simp [intOf]; omega
      · have hd : decide (0 < bv x) = true := decide_eq_true ((nz_iff x).2 hz)
        rw [hd]
        have hf := HFX.out hz
        have HF := Lib.hid hf; clear hz hd hf
        go_wp2
        go_ret
        exact ⟨by rw [idxM_lt d n j HF.out hlt]; rfl, Below.refl _ _⟩
    · have hf : firstNZ d = n := by rw [← hl]; exact firstNZ_all d (fun i hi => h0 i (by omega))
      have HF := Lib.hid hf; clear hf h0
      clear k3
      go_wp2
      go_ret
      exact ⟨by rw [idxM_ge d n n HF.out (by omega)]; rfl, Below.refl _ _⟩
set_option maxHeartbeats 1000000 in
set_option maxRecDepth 100000 in
theorem zeros_any (d : List UInt8) (hd : d.length = 32) (w : World) :
    Calls Tryz.prog 76 #[.agg (dgV d)] w fun e w' => e = .returned (.int .i64 (zerosM d)) ∧ Below w.heap.size w w' := by
  have hsd : (dgV d).size = 32 := by rw [dgV_size, hd]
  have hpd : plainCells (dgV d) = true := dgV_plain _
  have hn0 := heap_alloc_new w (.cells (dgV d) 23)
  have hrd := rd_block hn0 32 hsd (by decide)
  have hrd2 : Hid (rd (w.alloc (.cells (dgV d) 23)) (.slice (some ⟨w.heap.size, 0, none⟩) 32 32) 32 (d.map vB)) := by
    obtain ⟨a, c, e, -, -, h3⟩ := hrd
    cases e
    exact ⟨_, _, rfl, Nat.le_refl _, by decide, by simpa [dgV] using h3⟩
  have hb0 : Hid (Below w.heap.size w (w.alloc (.cells (dgV d) 23))) := (Below.refl _ _).alloc (Nat.le_refl _) _
  have HN0 := Lib.hid hn0
  have hz0 : w.heap.size < (w.alloc (.cells (dgV d) 23)).heap.size := by simp
  clear hrd hn0
  go_enter Tryz.func76, Tryz.ntmps76
  go_wp2_with fail
  generalize w.alloc (.cells (dgV d) 23) = wa at hrd2 hb0 HN0 hz0 ⊢
  refine (indexf_any d _ 32 32 wa hrd2.out hd (by omega)).mono ?_
  rintro e w1 ⟨rfl, hb1⟩
  have B1 := Lib.hid (hb0.out.trans (hb1.mono hb0.out.size))
  have hcs : w1.heap[w.heap.size]? = some (.cells (dgV d) 23 (0, 0)) := (hb1.block _ hz0).trans HN0.out
  obtain ⟨hf1, -, -⟩ := firstNZ_spec d
  obtain ⟨f, hf⟩ : ∃ f, firstNZ d = f := ⟨_, rfl⟩
  have hzm : zerosM d = if f < 32 then 8 * f + (8 - Lib.bitLen (d.getD f 0).toNat) else 256 := by unfold zerosM; rw [hf, hd]
  rw [hf] at hf1
  rw [hd] at hf1
  have HZM := Lib.hid hzm; clear hzm hb1
  by_cases h32 : f < 32
  · rw [idxM_lt d 32 f hf h32]
    clear hf
    have hc : w1.cell? ⟨w.heap.size, f, none⟩ = some (.int .u8 (bv (d.getD f 0))) := by
      rw [cell_of_row _ _ _ _ _ _ hcs, dgV_get _ _ (by omega)]
    obtain ⟨x, hx⟩ : ∃ x, d.getD f 0 = x := ⟨_, rfl⟩
    rw [hx] at hc
    have hx0 := bv_nonneg x; have hx1 := bv_lt x
    have HX := Lib.hid hx; clear hx hcs
    have h8 := Lib.bitLen_le8' (bv x) hx0 (by omega)
    have hxn : (bv x).toNat = x.toNat := by unfold bv; omega
    have HL := Lib.hid (lz8_any (bv x))
    obtain ⟨L, hL⟩ : ∃ L, Lib.bitLen (bv x).toNat = L := ⟨_, rfl⟩
    rw [hL] at h8
    have HLL := Lib.hid hL
    have HXN := Lib.hid hxn
    clear hL hxn
    go_wp2_with fail
    refine (HL.out _ hx0 (by omega)).mono ?_
    rintro e w2 ⟨rfl, rfl⟩
    rw [HLL.out]
    go_wp2
    go_ret
    exact ⟨by rw [HZM.out, if_pos h32, HX.out, ← HXN.out, HLL.out]; show Ending.returned (.int .i64 _) = _; congr 2; omega, B1.out⟩
  · rw [idxM_ge d 32 f hf h32]
    clear hcs hf
    go_wp2
    go_ret
    exact ⟨by rw [HZM.out, if_neg h32]; rfl, B1.out⟩
theorem good_any (d : List UInt8) (hd : d.length = 32) (n : Int) (w : World) :
    Calls Tryz.prog 36 #[.agg (dgV d), .int .i64 n] w fun e w' => e = .returned (.bool (decide (n ≤ (zerosM d : Int)))) ∧ Below w.heap.size w w' := by
  have hsd : (dgV d).size = 32 := by rw [dgV_size, hd]
  have hpd : plainCells (dgV d) = true := dgV_plain _
  have ca := Lib.hid (heap_alloc_new w (.cells (dgV d) 23))
  have cr : rowAt (w.alloc (.cells (dgV d) 23)) w.heap.size 0 32 = some (dgV d) := rowAt_whole ca.out 32 hsd.symm
  go_enter Tryz.func36, Tryz.ntmps36
  go_wp2_with fail
  refine (zeros_any d hd _).mono ?_
  rintro e w1 ⟨rfl, hb1⟩
  have B1 : Hid (Below w.heap.size w w1) := ((Below.refl _ _).alloc (Nat.le_refl _) _).trans (hb1.mono (by simp))
  clear hb1 ca cr
  go_wp2
  go_ret
  exact ⟨rfl, B1.out⟩
end Go.Proofs.YtljcdkfafknnpaaGreatDoor
