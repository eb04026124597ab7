/- Merged: Wid. Conditions: none beyond each theorem's own. -/
import Derived.Test.YtljcdkfafknnpaaGreatDoorSza
import Derived.Test.YtljcdkfafknnpaaGreatDoorMf
namespace Go.Proofs.YtljcdkfafknnpaaGreatDoor
set_option linter.unusedVariables false
set_option linter.unusedSimpArgs false
open Go.RowKit
set_option maxRecDepth 100000 in
theorem wide63_any (n : Nat) (hn : n < 9223372036854775808) (w : World) :
    Calls Tryz.prog 71 #[.int .i64 n] w fun e w' => e = .returned (.int .i64 (szW n)) ∧ w' = w := by
  by_cases h1 : n < 253
  · have hs : szW n = 0 := by unfold szW; rw [if_pos h1]
    have HS := Lib.hid hs; clear hs
    go_enter Tryz.func71, Tryz.ntmps71
    go_wp2
    go_ret
    exact ⟨by rw [HS.out]; rfl, rfl⟩
  by_cases h2 : n < 65536
  · have hs : szW n = 2 := by unfold szW; rw [if_neg h1, if_pos h2]
    have HS := Lib.hid hs; clear hs
    have q1 : ¬ ((n : Int) < 253) := by omega
    have q2 : (n : Int) < 65536 := by omega
    clear h1 h2 hn
    go_enter Tryz.func71, Tryz.ntmps71
    go_wp2
    go_ret
    exact ⟨by rw [HS.out]; rfl, rfl⟩
  by_cases h3 : n < 4294967296
  · have hs : szW n = 4 := by unfold szW; rw [if_neg h1, if_neg h2, if_pos h3]
    have HS := Lib.hid hs; clear hs
    have q1 : ¬ ((n : Int) < 253) := by omega
    have q2 : ¬ ((n : Int) < 65536) := by omega
    have q3 : (n : Int) < 4294967296 := by omega
    clear h1 h2 h3 hn
    go_enter Tryz.func71, Tryz.ntmps71
    go_wp2
    go_ret
    exact ⟨by rw [HS.out]; rfl, rfl⟩
  · have hs : szW n = 8 := by unfold szW; rw [if_neg h1, if_neg h2, if_neg h3]
    have HS := Lib.hid hs; clear hs
    have q1 : ¬ ((n : Int) < 253) := by omega
    have q2 : ¬ ((n : Int) < 65536) := by omega
    have q3 : ¬ ((n : Int) < 4294967296) := by omega
    clear h1 h2 h3 hn
    go_enter Tryz.func71, Tryz.ntmps71
    go_wp2
    go_ret
    exact ⟨by rw [HS.out]; rfl, rfl⟩
set_option maxHeartbeats 4000000 in
set_option maxRecDepth 100000 in
theorem rsize63_any (n : Nat) (hn : n < 9223372036854775808) (w : World) :
    Calls Tryz.prog 30 #[.int .i64 n] w fun e w' => ∃ v, e = .returned v ∧ own w' w.heap.size 5 1 v (szM n).length ((szM n).map vB) ∧ Below w.heap.size w w' := by
  by_cases h1 : n < 253
  · have hm : szM n = [UInt8.ofNat n] := by unfold szM; rw [if_pos h1]
    have hb := put_byte n
    have HB := Lib.hid hb; have HM := Lib.hid hm; clear hm hb
    have HO := Lib.hid (own_lit (w := w) (base := w.heap.size) (e := 5) (sz := 1) #[.int .u8 (n : Int)] 1 (Nat.le_refl _) (by decide) rfl)
    have hv : Value.int .u8 (n : Int) = vB (UInt8.ofNat n) := by unfold vB; rw [← HB.out]; congr 1; omega
    have HV := Lib.hid hv; clear hv
    go_enter Tryz.func30, Tryz.ntmps30
    go_wp2
    go_ret
    refine ⟨_, rfl, ?_, (Below.refl _ _).alloc (Nat.le_refl _) _⟩
    have e := HO.out
    rw [HM.out, List.map_singleton, ← HV.out]
    exact e
  obtain ⟨s, hd, hm, hs8⟩ := szM_big h1
  have HM := Lib.hid hm
  have HP := Lib.hid (fun W => put_any n s W (by omega) (by omega) (by omega))
  clear hm
  rcases hs8 with ⟨rfl, rfl, h2⟩ | ⟨rfl, rfl, h2, h3⟩ | ⟨rfl, rfl, h2⟩
  · go_enter Tryz.func30, Tryz.ntmps30
    go_wp2_with fail
    refine (HP.out w).mono ?_
    rintro e w1 ⟨v, rfl, ho, hb⟩
    have B1 := Lib.hid hb
    have HL : Hid (own (w1.alloc (.cells #[vB 253] 5)) w.heap.size 5 1 (.slice (some ⟨w1.heap.size, 0, none⟩) 1 1) [(253 : UInt8)].length ([(253 : UInt8)].map vB)) := Lib.hid (own_base (own_lit (w := w1) (base := w1.heap.size) (e := 5) (sz := 1) #[vB 253] 1 (Nat.le_refl _) (by decide) rfl) hb.size)
    have HV := Lib.hid (rd_below (own_rd ho) ((Below.refl w1.heap.size w1).alloc (Nat.le_refl _) (.cells #[vB 253] 5)))
    have B2 := Lib.hid (B1.out.alloc B1.out.size (.cells #[vB 253] 5))
    clear ho hb HP
    go_wp2_with (at_builtin; refine wpList_bytes rfl (.tmp 23) (.tmp 24) rfl w.heap.size [(253 : UInt8)] (putM n 2) HL.out (by rw [putM_length]; exact HV.out) (by simp [putM_length]) B2.out.size ?_)
    intro v3 w3 ho3 hg3
    have B3 := Lib.hid (B2.out.grown hg3 B2.out.size (fun q hq => (own_lt HL.out hq).1))
    have HO3 : Hid (own w3 w.heap.size 5 1 v3 (szM n).length ((szM n).map vB)) := Lib.hid (by rw [HM.out]; exact ho3)
    clear ho3 hg3
    go_wp2
    go_ret
    exact ⟨_, rfl, HO3.out, B3.out⟩
  · go_enter Tryz.func30, Tryz.ntmps30
    go_wp2_with fail
    refine (HP.out w).mono ?_
    rintro e w1 ⟨v, rfl, ho, hb⟩
    have B1 := Lib.hid hb
    have HL : Hid (own (w1.alloc (.cells #[vB 254] 5)) w.heap.size 5 1 (.slice (some ⟨w1.heap.size, 0, none⟩) 1 1) [(254 : UInt8)].length ([(254 : UInt8)].map vB)) := Lib.hid (own_base (own_lit (w := w1) (base := w1.heap.size) (e := 5) (sz := 1) #[vB 254] 1 (Nat.le_refl _) (by decide) rfl) hb.size)
    have HV := Lib.hid (rd_below (own_rd ho) ((Below.refl w1.heap.size w1).alloc (Nat.le_refl _) (.cells #[vB 254] 5)))
    have B2 := Lib.hid (B1.out.alloc B1.out.size (.cells #[vB 254] 5))
    clear ho hb HP
    go_wp2_with (at_builtin; refine wpList_bytes rfl (.tmp 23) (.tmp 24) rfl w.heap.size [(254 : UInt8)] (putM n 4) HL.out (by rw [putM_length]; exact HV.out) (by simp [putM_length]) B2.out.size ?_)
    intro v3 w3 ho3 hg3
    have B3 := Lib.hid (B2.out.grown hg3 B2.out.size (fun q hq => (own_lt HL.out hq).1))
    have HO3 : Hid (own w3 w.heap.size 5 1 v3 (szM n).length ((szM n).map vB)) := Lib.hid (by rw [HM.out]; exact ho3)
    clear ho3 hg3
    go_wp2
    go_ret
    exact ⟨_, rfl, HO3.out, B3.out⟩
  · go_enter Tryz.func30, Tryz.ntmps30
    go_wp2_with fail
    refine (HP.out w).mono ?_
    rintro e w1 ⟨v, rfl, ho, hb⟩
    have B1 := Lib.hid hb
    have HL : Hid (own (w1.alloc (.cells #[vB 255] 5)) w.heap.size 5 1 (.slice (some ⟨w1.heap.size, 0, none⟩) 1 1) [(255 : UInt8)].length ([(255 : UInt8)].map vB)) := Lib.hid (own_base (own_lit (w := w1) (base := w1.heap.size) (e := 5) (sz := 1) #[vB 255] 1 (Nat.le_refl _) (by decide) rfl) hb.size)
    have HV := Lib.hid (rd_below (own_rd ho) ((Below.refl w1.heap.size w1).alloc (Nat.le_refl _) (.cells #[vB 255] 5)))
    have B2 := Lib.hid (B1.out.alloc B1.out.size (.cells #[vB 255] 5))
    clear ho hb HP
    go_wp2_with (at_builtin; refine wpList_bytes rfl (.tmp 23) (.tmp 24) rfl w.heap.size [(255 : UInt8)] (putM n 8) HL.out (by rw [putM_length]; exact HV.out) (by simp [putM_length]) B2.out.size ?_)
    intro v3 w3 ho3 hg3
    have B3 := Lib.hid (B2.out.grown hg3 B2.out.size (fun q hq => (own_lt HL.out hq).1))
    have HO3 : Hid (own w3 w.heap.size 5 1 v3 (szM n).length ((szM n).map vB)) := Lib.hid (by rw [HM.out]; exact ho3)
    clear ho3 hg3
    go_wp2
    go_ret
    exact ⟨_, rfl, HO3.out, B3.out⟩
theorem num8_lt (b : List UInt8) (hl : b.length = 8) (h7 : ¬ 128 ≤ (b.getD 0 0).toNat) (k : Nat) (hk : k < 8) : numM (b.take k) < 36028797018963968 := by
  match b, hl with
  | x :: d, hd =>
    have hl : d.length = 7 := by simpa using hd
    have h2 : x.toNat < 128 := by simpa using h7
    match k with
    | 0 => simp [numM]
    | k + 1 =>
      rw [List.take_succ_cons, numM_cons]
      have h1 := numM_pow (d.take k)
      have hll : (d.take k).length = k := by rw [List.length_take]; omega
      rw [hll] at h1 ⊢
      have h3 : 256 ^ k ≤ 256 ^ 6 := Nat.pow_le_pow_right (by omega) (by omega)
      have h4 : (256 : Nat) ^ 6 = 281474976710656 := by rfl
      rw [h4] at h3
      obtain ⟨P, hP⟩ : ∃ P : Nat, 256 ^ k = P := ⟨_, rfl⟩
      rw [hP] at h1 h3 ⊢
      have h5 : x.toNat * P ≤ 127 * P := Nat.mul_le_mul_right _ (by omega)
      omega
set_option maxHeartbeats 1000000 in
set_option maxRecDepth 100000 in
theorem num8_any (b : List UInt8) (v : Value) (n : Nat) (w : World) (hb : rd w v n (b.map vB)) (hl : b.length = n) (h1 : n = 8) (h7 : ¬ 128 ≤ (b.getD 0 0).toNat) :
    Calls Tryz.prog 77 #[v] w fun e w' => e = .returned (.tuple #[.int .i64 (numM b), .bool true]) ∧ Below w.heap.size w w' := by
  have hb' := hb
  obtain ⟨ao, cap, rfl, k1, k2, k3⟩ := hb'
  unfold maxLen at k2
  rcases k3 with k3 | ⟨g, off, rfl, k3⟩
  · have := congrArg List.length k3; rw [List.length_map, List.length_nil] at this; omega
  have hcell : ∀ j, j < n → w.cell? ⟨g, off + j, none⟩ = some (.int .u8 (bv (b.getD j 0))) := fun j hj => by
    apply k3; simp [List.getD_eq_getElem?_getD, List.getElem?_eq_getElem (show j < b.length by omega), vB]
  have hc0 : w.cell? ⟨g, off, none⟩ = some (.int .u8 (bv (b.getD 0 0))) := hcell 0 (by omega)
  obtain ⟨x0, hx0⟩ : ∃ x, b.getD 0 0 = x := ⟨_, rfl⟩
  rw [hx0] at hc0 h7
  have q7 : ¬ 128 ≤ bv x0 := by unfold bv; omega
  have HC := Lib.hid hcell; have HB := Lib.hid hb
  have H7 : Hid (¬ 128 ≤ (b.getD 0 0).toNat) := Lib.hid (by rw [hx0]; exact h7)
  clear hcell hb k3 h7
  have q0 : ((n : Int) == 0) = false := beq_false_of_ne (by omega)
  have q8 : ((n : Int) == 8) = true := by rw [beq_iff_eq]; omega
  have p1 : 8 ≤ n := by omega
  have p2 : n ≤ 8 := by omega
  clear h1
  go_enter Tryz.func77, Tryz.ntmps77
  go_wp2_with fail
  clear q0 q8 q7 hc0
  go_loopw [4, 5] (fun s i wr => ∃ k : Nat, k ≤ n ∧ i = .int .i64 k ∧ s = .int .i64 (numM (b.take k)) ∧ Below w.heap.size w wr) (fun _ i _ => n - (intOf i).toNat)
  case atStart => exact ⟨0, by omega, rfl, by simp [numM], Below.refl _ _⟩
  case round =>
    obtain ⟨k, hk, rfl, rfl, hB⟩ := hrel
    by_cases hlt : k < n
    · have hc : wr.cell? ⟨g, off + k, none⟩ = some (.int .u8 (bv (b.getD k 0))) := (hB.cell (World.block_lt_of_cell? w _ (HC.out k hlt))).trans (HC.out k hlt)
      have hs : b.take (k + 1) = b.take k ++ [b.getD k 0] := by
        rw [List.take_add_one, List.getD_eq_getElem?_getD, List.getElem?_eq_getElem (by omega)]; rfl
      have hlt2 := num8_lt b (by omega) H7.out k (by omega)
      have hst := numM_snoc (b.take k) (b.getD k 0)
      rw [← hs] at hst
      obtain ⟨N, hN⟩ : ∃ N, numM (b.take k) = N := ⟨_, rfl⟩
      obtain ⟨x, hx⟩ : ∃ x, b.getD k 0 = x := ⟨_, rfl⟩
      rw [hN] at hlt2 hst ⊢
      rw [hx] at hc hst
      
      have hb1 := bv_nonneg x; have hb2 := bv_lt x
      have HS := Lib.hid hst; have B0 := Lib.hid hB
      have hN2 : (N : Int) * 256 + 255 ≤ 9223372036854775807 := by omega
      clear hst hs hN hx hB
      go_wp2
      go_roundw
      case rel => exact ⟨k + 1, by omega, by go_num, by rw [HS.out, show ((N * 256 + x.toNat : Nat) : Int) = (N : Int) * 256 + bv x from by unfold bv; omega], B0.out⟩
      case measure => simp [intOf]; omega
    · obtain rfl : k = n := by omega
      rw [List.take_of_length_le (by omega)]
      have B0 := Lib.hid hB; clear hB
      go_wp2
      go_ret2
      exact ⟨rfl, B0.out⟩
set_option maxHeartbeats 1000000 in
set_option maxRecDepth 100000 in
theorem num8_bad (b : List UInt8) (v : Value) (n : Nat) (w : World) (hb : rd w v n (b.map vB)) (hl : b.length = n) (h1 : n = 8) (h7 : 128 ≤ (b.getD 0 0).toNat) :
    Calls Tryz.prog 77 #[v] w fun e w' => e = .returned (.tuple #[.int .i64 0, .bool false]) ∧ Below w.heap.size w w' := by
  have hb' := hb
  obtain ⟨ao, cap, rfl, k1, k2, k3⟩ := hb'
  unfold maxLen at k2
  rcases k3 with k3 | ⟨g, off, rfl, k3⟩
  · have := congrArg List.length k3; rw [List.length_map, List.length_nil] at this; omega
  have hcell : ∀ j, j < n → w.cell? ⟨g, off + j, none⟩ = some (.int .u8 (bv (b.getD j 0))) := fun j hj => by
    apply k3; simp [List.getD_eq_getElem?_getD, List.getElem?_eq_getElem (show j < b.length by omega), vB]
  have hc0 : w.cell? ⟨g, off, none⟩ = some (.int .u8 (bv (b.getD 0 0))) := hcell 0 (by omega)
  obtain ⟨x0, hx0⟩ : ∃ x, b.getD 0 0 = x := ⟨_, rfl⟩
  rw [hx0] at hc0 h7
  have q7 : 128 ≤ bv x0 := by unfold bv; omega
  clear hcell k3 h7 hb
  have q0 : ((n : Int) == 0) = false := beq_false_of_ne (by omega)
  have q8 : ((n : Int) == 8) = true := by rw [beq_iff_eq]; omega
  go_enter Tryz.func77, Tryz.ntmps77
  go_wp2
  go_ret2
  exact ⟨rfl, Below.refl _ _⟩
end Go.Proofs.YtljcdkfafknnpaaGreatDoor
