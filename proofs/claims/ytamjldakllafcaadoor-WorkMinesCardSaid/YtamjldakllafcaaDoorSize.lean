/- The walks of size.Of and of the reference's SizeBytes, below 2^32. Conditions: none beyond each theorem's own. -/
import Derived.Test.YtamjldakllafcaaDoorRefS
namespace Go.Proofs.YtamjldakllafcaaDoor
set_option linter.unusedVariables false
set_option linter.unusedSimpArgs false
open Go.RowKit

def sizeW (n : Nat) : Nat := if n < 253 then 0 else if n < 65536 then 2 else 4
def sizeM (n : Nat) : List UInt8 := if n < 253 then [UInt8.ofNat n] else if n < 65536 then 253 :: putM n 2 else 254 :: putM n 4
def putK (n s k : Nat) : List UInt8 := (List.range k).map fun j => UInt8.ofNat (n / 256 ^ (s - 1 - j))
theorem putK_succ (n s k : Nat) : putK n s (k + 1) = putK n s k ++ [UInt8.ofNat (n / 256 ^ (s - 1 - k))] := by simp [putK, List.range_succ]
theorem putK_all (n s : Nat) : putK n s s = putM n s := rfl
set_option maxRecDepth 100000 in
theorem wide_any (n : Nat) (hn : n < 4294967296) (w : World) :
    Calls Tryd.prog 64 #[.int .i64 n] w fun e w' => e = .returned (.int .i64 (sizeW n)) ∧ w' = w := by
  by_cases h1 : n < 253
  · have hs : sizeW n = 0 := by unfold sizeW; rw [if_pos h1]
    have HS := Lib.hid hs; clear hs
    go_enter Tryd.func64, Tryd.ntmps64
    go_wp2
    go_ret
    exact ⟨by rw [HS.out]; rfl, rfl⟩
  by_cases h2 : n < 65536
  · have hs : sizeW n = 2 := by unfold sizeW; rw [if_neg h1, if_pos h2]
    have HS := Lib.hid hs; clear hs
    have q1 : ¬ ((n : Int) < 253) := by omega
    have q2 : (n : Int) < 65536 := by omega
    clear h1 h2 hn
    go_enter Tryd.func64, Tryd.ntmps64
    go_wp2
    go_ret
    exact ⟨by rw [HS.out]; rfl, rfl⟩
  · have hs : sizeW n = 4 := by unfold sizeW; rw [if_neg h1, if_neg h2]
    have HS := Lib.hid hs; clear hs
    have q1 : ¬ ((n : Int) < 253) := by omega
    have q2 : ¬ ((n : Int) < 65536) := by omega
    have q3 : (n : Int) < 4294967296 := by omega
    clear h1 h2 hn
    go_enter Tryd.func64, Tryd.ntmps64
    go_wp2
    go_ret
    exact ⟨by rw [HS.out]; rfl, rfl⟩
set_option maxHeartbeats 2000000 in
set_option maxRecDepth 100000 in
theorem sizeOf_any (n : Nat) (hn : n < 4294967296) (w : World) :
    Calls Tryd.prog 44 #[.int .i64 n] w fun e w' => ∃ v k, e = .returned v ∧ own w' w.heap.size 5 1 v k ((sizeM n).map vB) ∧ k = (sizeM n).length ∧ k ≤ 5 ∧ Below w.heap.size w w' := by
  obtain ⟨i0, hi0, hz0, hz1, hz2⟩ := info_parts info_u8
  have HW := Lib.hid (wide_any n hn w)
  by_cases h1 : n < 253
  · have hs : sizeW n = 0 := by unfold sizeW; rw [if_pos h1]
    have hm : sizeM n = [UInt8.ofNat n] := by unfold sizeM; rw [if_pos h1]
    have hb := put_byte n
    rw [hs] at HW
    have HB := Lib.hid hb; have HM := Lib.hid hm; clear hs hm hb
    go_enter Tryd.func44, Tryd.ntmps44
    go_wp2_with fail
    refine (HW.out).mono ?_
    rintro e w1 ⟨rfl, rfl⟩
    have HO := Lib.hid (own_lit (w := w1) (base := w1.heap.size) (e := 5) (sz := 1) #[.int .u8 (n : Int)] 1 (Nat.le_refl _) (by decide) rfl)
    have hv : Value.int .u8 (n : Int) = vB (UInt8.ofNat n) := by unfold vB; rw [← HB.out]; congr 1; omega
    have HV := Lib.hid hv; clear hv
    go_wp2
    go_ret
    refine ⟨_, 1, rfl, ?_, by rw [HM.out]; rfl, by omega, (Below.refl _ _).alloc (Nat.le_refl _) _⟩
    have e := HO.out
    rw [HM.out, List.map_singleton, ← HV.out]
    exact e
  by_cases h2 : n < 65536
  · have hs : sizeW n = 2 := by unfold sizeW; rw [if_neg h1, if_pos h2]
    have hm : sizeM n = 253 :: putM n 2 := by unfold sizeM; rw [if_neg h1, if_pos h2]
    rw [hs] at HW
    have HM := Lib.hid hm; clear hs hm
    have HO := Lib.hid (own_lit (w := w) (base := w.heap.size) (e := 5) (sz := 1) #[vB 253] 1 (Nat.le_refl _) (by decide) rfl)
    have HB0 : Hid (Below w.heap.size w (w.alloc (.cells #[vB 253] 5))) := (Below.refl _ _).alloc (Nat.le_refl _) _
    go_enter Tryd.func44, Tryd.ntmps44
    go_wp2_with fail
    refine (HW.out).mono ?_
    rintro e w1 ⟨rfl, rfl⟩
    go_wp2_with fail
    have HO0 : Hid (own (w1.alloc (.cells #[vB 253] 5)) w1.heap.size 5 1 (.slice (some ⟨w1.heap.size, 0, none⟩) 1 1) (1 + 0) ((253 :: putK n 2 0).map vB)) := HO.out
    change Code.wp _ _ _ _ (w1.alloc (.cells #[vB 253] 5))
    generalize w1.alloc (.cells #[vB 253] 5) = w2 at HO0 HB0 ⊢
    clear HO
    go_loopg [4, 5] 2 (fun tt s4 s5 wr => ∃ k : Nat, k + tt = 2 ∧ s5 = .int .i64 (2 - 1 - (k : Int)) ∧ own wr w1.heap.size 5 1 s4 (1 + k) ((253 :: putK n 2 k).map vB) ∧ Below w1.heap.size w1 wr)
    case atStart => exact ⟨0, by omega, rfl, HO0.out, HB0.out⟩
    case round =>
      obtain ⟨k, hk, rfl, ho, hB⟩ := hrel
      have ho' := ho
      obtain ⟨-, so, scap, rfl, p1, p2, -⟩ := ho'
      unfold maxLen at p2
      have HO1 := Lib.hid ho; have B1 := Lib.hid hB; clear ho hB
      by_cases hlt : k < 2
      · obtain rfl | rfl : k = 0 ∨ k = 1 := by omega
        · have hbv : Hid ((n : Int) / 256 = bv (UInt8.ofNat (n / 256 ^ (2 - 1 - 0)))) := by
            show _ = _
            rw [← put_byte (n / 256 ^ (2 - 1 - 0))]
            simp; omega
          rw [show (2 : Int) - 1 - ((0 : Nat) : Int) = 1 from by decide]
          go_wp2_with (at_builtin; refine wpList_append_rd rfl (.tmp 35) (.tmp 41) 32 rfl 5 i0 (.int .u8 0) 1 1 Tryd.underlying32 hi0 hz0 hz1 hz2 rfl (by decide) w1.heap.size (1 + 0) _ (own_alloc HO1.out _) 1 _ ?g1 (rd_new1 _ _ _ _ rfl) ?g5 ?g2 ?g3 ?g4 ?_)
          case g1 => rfl
          case g5 => intro u hu; simp at hu; subst hu; rfl
          case g2 => unfold maxLen; omega
          case g3 => omega
          case g4 => have := B1.out.size; simp; omega
          intro v3 w3 ho3 _ hg3
          rw [hbv.out] at ho3
          have B3 := Lib.hid ((B1.out.alloc B1.out.size _).grown hg3 (by have := B1.out.size; simp; omega) (fun q hq => (own_lt HO1.out hq).1))
          have HO3 := Lib.hid ho3; clear ho3 hg3
          go_wp2
          go_roundg (gk - 1)
          case measure => omega
          case rel =>
            refine ⟨0 + 1, by omega, by rfl, ?_, B3.out⟩
            have e := HO3.out
            have e2 : (253 :: putK n 2 (0 + 1)).map vB = (253 :: putK n 2 0).map vB ++ [vB (UInt8.ofNat (n / 256 ^ (2 - 1 - 0)))] := by rw [putK_succ]; simp
            rw [e2]
            exact e
        · have hbv : Hid ((n : Int) % 256 = bv (UInt8.ofNat (n / 256 ^ (2 - 1 - 1)))) := by
            show _ = _
            rw [← put_byte (n / 256 ^ (2 - 1 - 1))]
            simp
          rw [show (2 : Int) - 1 - ((1 : Nat) : Int) = 0 from by decide]
          go_wp2_with (at_builtin; refine wpList_append_rd rfl (.tmp 35) (.tmp 41) 32 rfl 5 i0 (.int .u8 0) 1 1 Tryd.underlying32 hi0 hz0 hz1 hz2 rfl (by decide) w1.heap.size (1 + 1) _ (own_alloc HO1.out _) 1 _ ?g1 (rd_new1 _ _ _ _ rfl) ?g5 ?g2 ?g3 ?g4 ?_)
          case g1 => rfl
          case g5 => intro u hu; simp at hu; subst hu; rfl
          case g2 => unfold maxLen; omega
          case g3 => omega
          case g4 => have := B1.out.size; simp; omega
          intro v3 w3 ho3 _ hg3
          rw [hbv.out] at ho3
          have B3 := Lib.hid ((B1.out.alloc B1.out.size _).grown hg3 (by have := B1.out.size; simp; omega) (fun q hq => (own_lt HO1.out hq).1))
          have HO3 := Lib.hid ho3; clear ho3 hg3
          go_wp2
          go_roundg (gk - 1)
          case measure => omega
          case rel =>
            refine ⟨1 + 1, by omega, by rfl, ?_, B3.out⟩
            have e := HO3.out
            have e2 : (253 :: putK n 2 (1 + 1)).map vB = (253 :: putK n 2 1).map vB ++ [vB (UInt8.ofNat (n / 256 ^ (2 - 1 - 1)))] := by rw [putK_succ]; simp
            rw [e2]
            exact e
      · obtain rfl : k = 2 := by omega
        rw [show (2 : Int) - 1 - ((2 : Nat) : Int) = -1 from by decide]
        have HF := HO1.out
        rw [putK_all, ← HM.out] at HF
        have HF2 := Lib.hid HF; clear HF
        go_wp2
        go_ret
        exact ⟨_, _, rfl, HF2.out, by rw [HM.out]; simp [putM_length], by omega, B1.out⟩
  · have hs : sizeW n = 4 := by unfold sizeW; rw [if_neg h1, if_neg h2]
    have hm : sizeM n = 254 :: putM n 4 := by unfold sizeM; rw [if_neg h1, if_neg h2]
    rw [hs] at HW
    have HM := Lib.hid hm; clear hs hm
    have HO := Lib.hid (own_lit (w := w) (base := w.heap.size) (e := 5) (sz := 1) #[vB 254] 1 (Nat.le_refl _) (by decide) rfl)
    have HB0 : Hid (Below w.heap.size w (w.alloc (.cells #[vB 254] 5))) := (Below.refl _ _).alloc (Nat.le_refl _) _
    go_enter Tryd.func44, Tryd.ntmps44
    go_wp2_with fail
    refine (HW.out).mono ?_
    rintro e w1 ⟨rfl, rfl⟩
    go_wp2_with fail
    have HO0 : Hid (own (w1.alloc (.cells #[vB 254] 5)) w1.heap.size 5 1 (.slice (some ⟨w1.heap.size, 0, none⟩) 1 1) (1 + 0) ((254 :: putK n 4 0).map vB)) := HO.out
    change Code.wp _ _ _ _ (w1.alloc (.cells #[vB 254] 5))
    generalize w1.alloc (.cells #[vB 254] 5) = w2 at HO0 HB0 ⊢
    clear HO
    go_loopg [4, 5] 4 (fun tt s4 s5 wr => ∃ k : Nat, k + tt = 4 ∧ s5 = .int .i64 (4 - 1 - (k : Int)) ∧ own wr w1.heap.size 5 1 s4 (1 + k) ((254 :: putK n 4 k).map vB) ∧ Below w1.heap.size w1 wr)
    case atStart => exact ⟨0, by omega, rfl, HO0.out, HB0.out⟩
    case round =>
      obtain ⟨k, hk, rfl, ho, hB⟩ := hrel
      have ho' := ho
      obtain ⟨-, so, scap, rfl, p1, p2, -⟩ := ho'
      unfold maxLen at p2
      have HO1 := Lib.hid ho; have B1 := Lib.hid hB; clear ho hB
      by_cases hlt : k < 4
      · obtain rfl | rfl | rfl | rfl : k = 0 ∨ k = 1 ∨ k = 2 ∨ k = 3 := by omega
        · have hbv : Hid ((n : Int) / 16777216 = bv (UInt8.ofNat (n / 256 ^ (4 - 1 - 0)))) := by
            show _ = _
            rw [← put_byte (n / 256 ^ (4 - 1 - 0))]
            simp; omega
          rw [show (4 : Int) - 1 - ((0 : Nat) : Int) = 3 from by decide]
          go_wp2_with (at_builtin; refine wpList_append_rd rfl (.tmp 35) (.tmp 41) 32 rfl 5 i0 (.int .u8 0) 1 1 Tryd.underlying32 hi0 hz0 hz1 hz2 rfl (by decide) w1.heap.size (1 + 0) _ (own_alloc HO1.out _) 1 _ ?g1 (rd_new1 _ _ _ _ rfl) ?g5 ?g2 ?g3 ?g4 ?_)
          case g1 => rfl
          case g5 => intro u hu; simp at hu; subst hu; rfl
          case g2 => unfold maxLen; omega
          case g3 => omega
          case g4 => have := B1.out.size; simp; omega
          intro v3 w3 ho3 _ hg3
          rw [hbv.out] at ho3
          have B3 := Lib.hid ((B1.out.alloc B1.out.size _).grown hg3 (by have := B1.out.size; simp; omega) (fun q hq => (own_lt HO1.out hq).1))
          have HO3 := Lib.hid ho3; clear ho3 hg3
          go_wp2
          go_roundg (gk - 1)
          case measure => omega
          case rel =>
            refine ⟨0 + 1, by omega, by rfl, ?_, B3.out⟩
            have e := HO3.out
            have e2 : (254 :: putK n 4 (0 + 1)).map vB = (254 :: putK n 4 0).map vB ++ [vB (UInt8.ofNat (n / 256 ^ (4 - 1 - 0)))] := by rw [putK_succ]; simp
            rw [e2]
            exact e
        · have hbv : Hid ((n : Int) / 65536 % 256 = bv (UInt8.ofNat (n / 256 ^ (4 - 1 - 1)))) := by
            show _ = _
            rw [← put_byte (n / 256 ^ (4 - 1 - 1))]
            simp
          rw [show (4 : Int) - 1 - ((1 : Nat) : Int) = 2 from by decide]
          go_wp2_with (at_builtin; refine wpList_append_rd rfl (.tmp 35) (.tmp 41) 32 rfl 5 i0 (.int .u8 0) 1 1 Tryd.underlying32 hi0 hz0 hz1 hz2 rfl (by decide) w1.heap.size (1 + 1) _ (own_alloc HO1.out _) 1 _ ?g1 (rd_new1 _ _ _ _ rfl) ?g5 ?g2 ?g3 ?g4 ?_)
          case g1 => rfl
          case g5 => intro u hu; simp at hu; subst hu; rfl
          case g2 => unfold maxLen; omega
          case g3 => omega
          case g4 => have := B1.out.size; simp; omega
          intro v3 w3 ho3 _ hg3
          rw [hbv.out] at ho3
          have B3 := Lib.hid ((B1.out.alloc B1.out.size _).grown hg3 (by have := B1.out.size; simp; omega) (fun q hq => (own_lt HO1.out hq).1))
          have HO3 := Lib.hid ho3; clear ho3 hg3
          go_wp2
          go_roundg (gk - 1)
          case measure => omega
          case rel =>
            refine ⟨1 + 1, by omega, by rfl, ?_, B3.out⟩
            have e := HO3.out
            have e2 : (254 :: putK n 4 (1 + 1)).map vB = (254 :: putK n 4 1).map vB ++ [vB (UInt8.ofNat (n / 256 ^ (4 - 1 - 1)))] := by rw [putK_succ]; simp
            rw [e2]
            exact e
        · have hbv : Hid ((n : Int) / 256 % 256 = bv (UInt8.ofNat (n / 256 ^ (4 - 1 - 2)))) := by
            show _ = _
            rw [← put_byte (n / 256 ^ (4 - 1 - 2))]
            simp
          rw [show (4 : Int) - 1 - ((2 : Nat) : Int) = 1 from by decide]
          go_wp2_with (at_builtin; refine wpList_append_rd rfl (.tmp 35) (.tmp 41) 32 rfl 5 i0 (.int .u8 0) 1 1 Tryd.underlying32 hi0 hz0 hz1 hz2 rfl (by decide) w1.heap.size (1 + 2) _ (own_alloc HO1.out _) 1 _ ?g1 (rd_new1 _ _ _ _ rfl) ?g5 ?g2 ?g3 ?g4 ?_)
          case g1 => rfl
          case g5 => intro u hu; simp at hu; subst hu; rfl
          case g2 => unfold maxLen; omega
          case g3 => omega
          case g4 => have := B1.out.size; simp; omega
          intro v3 w3 ho3 _ hg3
          rw [hbv.out] at ho3
          have B3 := Lib.hid ((B1.out.alloc B1.out.size _).grown hg3 (by have := B1.out.size; simp; omega) (fun q hq => (own_lt HO1.out hq).1))
          have HO3 := Lib.hid ho3; clear ho3 hg3
          go_wp2
          go_roundg (gk - 1)
          case measure => omega
          case rel =>
            refine ⟨2 + 1, by omega, by rfl, ?_, B3.out⟩
            have e := HO3.out
            have e2 : (254 :: putK n 4 (2 + 1)).map vB = (254 :: putK n 4 2).map vB ++ [vB (UInt8.ofNat (n / 256 ^ (4 - 1 - 2)))] := by rw [putK_succ]; simp
            rw [e2]
            exact e
        · have hbv : Hid ((n : Int) % 256 = bv (UInt8.ofNat (n / 256 ^ (4 - 1 - 3)))) := by
            show _ = _
            rw [← put_byte (n / 256 ^ (4 - 1 - 3))]
            simp
          rw [show (4 : Int) - 1 - ((3 : Nat) : Int) = 0 from by decide]
          go_wp2_with (at_builtin; refine wpList_append_rd rfl (.tmp 35) (.tmp 41) 32 rfl 5 i0 (.int .u8 0) 1 1 Tryd.underlying32 hi0 hz0 hz1 hz2 rfl (by decide) w1.heap.size (1 + 3) _ (own_alloc HO1.out _) 1 _ ?g1 (rd_new1 _ _ _ _ rfl) ?g5 ?g2 ?g3 ?g4 ?_)
          case g1 => rfl
          case g5 => intro u hu; simp at hu; subst hu; rfl
          case g2 => unfold maxLen; omega
          case g3 => omega
          case g4 => have := B1.out.size; simp; omega
          intro v3 w3 ho3 _ hg3
          rw [hbv.out] at ho3
          have B3 := Lib.hid ((B1.out.alloc B1.out.size _).grown hg3 (by have := B1.out.size; simp; omega) (fun q hq => (own_lt HO1.out hq).1))
          have HO3 := Lib.hid ho3; clear ho3 hg3
          go_wp2
          go_roundg (gk - 1)
          case measure => omega
          case rel =>
            refine ⟨3 + 1, by omega, by rfl, ?_, B3.out⟩
            have e := HO3.out
            have e2 : (254 :: putK n 4 (3 + 1)).map vB = (254 :: putK n 4 3).map vB ++ [vB (UInt8.ofNat (n / 256 ^ (4 - 1 - 3)))] := by rw [putK_succ]; simp
            rw [e2]
            exact e
      · obtain rfl : k = 4 := by omega
        rw [show (4 : Int) - 1 - ((4 : Nat) : Int) = -1 from by decide]
        have HF := HO1.out
        rw [putK_all, ← HM.out] at HF
        have HF2 := Lib.hid HF; clear HF
        go_wp2
        go_ret
        exact ⟨_, _, rfl, HF2.out, by rw [HM.out]; simp [putM_length], by omega, B1.out⟩
set_option maxHeartbeats 2000000 in
set_option maxRecDepth 100000 in
theorem rsize_any (n : Nat) (hn : n < 4294967296) (w : World) :
    Calls Tryd.prog 17 #[.int .i64 n] w fun e w' => ∃ v k, e = .returned v ∧ own w' w.heap.size 5 1 v k ((sizeM n).map vB) ∧ k = (sizeM n).length ∧ k ≤ 5 ∧ Below w.heap.size w w' := by
  obtain ⟨i0, hi0, hz0, hz1, hz2⟩ := info_parts info_u8
  by_cases h1 : n < 253
  · have hm : sizeM n = [UInt8.ofNat n] := by unfold sizeM; rw [if_pos h1]
    have hb := put_byte n
    have HO := Lib.hid (own_lit (w := w) (base := w.heap.size) (e := 5) (sz := 1) #[.int .u8 (n : Int)] 1 (Nat.le_refl _) (by decide) rfl)
    have hv : Value.int .u8 (n : Int) = vB (UInt8.ofNat n) := by unfold vB; rw [← hb]; congr 1; omega
    have HV := Lib.hid hv; have HM := Lib.hid hm; clear hm hb hv
    go_enter Tryd.func17, Tryd.ntmps17
    go_wp2
    go_ret
    refine ⟨_, rfl, 1, ?_, by rw [HM.out]; rfl, by omega, (Below.refl _ _).alloc (Nat.le_refl _) _⟩
    have e := HO.out
    rw [HM.out, List.map_singleton, ← HV.out]
    exact e
  by_cases h2 : n < 65536
  · have hm : sizeM n = 253 :: putM n 2 := by unfold sizeM; rw [if_neg h1, if_pos h2]
    have HM := Lib.hid hm; clear hm
    have HP : Hid (∀ w', Calls Tryd.prog 46 #[.int .i64 n, .int .i64 2] w' fun e w'' => ∃ v, e = .returned (.tuple #[v, .bool ((n : Int) / 256 ^ 2 == 0)]) ∧ own w'' w'.heap.size 5 1 v 2 ((putM n 2).map vB) ∧ Below w'.heap.size w' w'') := fun w' => put_any n 2 w' (by omega) (by omega) (by omega)
    have q1 : ¬ ((n : Int) < 253) := by omega
    have q2 : ¬ (65535 < (n : Int)) := by omega
    have q3 : ¬ (4294967295 < (n : Int)) := by omega
    clear h1 h2 hn
    go_enter Tryd.func17, Tryd.ntmps17
    go_wp2_with fail
    refine (HP.out _).mono ?_
    rintro e w1 ⟨v, rfl, ho, hb⟩
    have hor := own_rd ho
    have hor' := hor
    obtain ⟨lo, lcap, rfl, l1, l2, -⟩ := hor'
    unfold maxLen at l2
    have B1 := Lib.hid hb; have HR := Lib.hid hor; clear ho hb hor
    have HO := Lib.hid (own_lit (w := w1) (base := w.heap.size) (e := 5) (sz := 1) #[vB 253] 1 B1.out.size (by decide) rfl)
    have HB2 := Lib.hid (B1.out.alloc B1.out.size (.cells #[vB 253] 5))
    have HR2 := Lib.hid (rd_alloc HR.out (.cells #[vB 253] 5))
    go_wp2_with (at_builtin; refine wpList_append_rd rfl (.tmp 23) (.tmp 24) 32 rfl 5 i0 (.int .u8 0) 1 1 Tryd.underlying32 hi0 hz0 hz1 hz2 rfl (by decide) w.heap.size 1 _ HO.out 2 _ ?g1 HR2.out (vB_plain _) ?g2 ?g3 ?g4 ?_)
    case g1 => simp [putM_length]
    case g2 => unfold maxLen; omega
    case g3 => omega
    case g4 => exact HB2.out.size
    intro v3 w3 ho3 _ hg3
    have B3 := Lib.hid (HB2.out.grown hg3 HB2.out.size (fun q hq => (own_lt HO.out hq).1))
    have ho4 : own w3 w.heap.size 5 1 v3 (1 + 2) ((sizeM n).map vB) := by rw [HM.out]; simpa using ho3
    have HO4 := Lib.hid ho4; clear ho3 ho4 hg3
    go_wp2
    go_ret
    exact ⟨_, _, rfl, HO4.out, by rw [HM.out]; simp [putM_length], by omega, B3.out⟩
  · have hm : sizeM n = 254 :: putM n 4 := by unfold sizeM; rw [if_neg h1, if_neg h2]
    have HM := Lib.hid hm; clear hm
    have HP : Hid (∀ w', Calls Tryd.prog 46 #[.int .i64 n, .int .i64 4] w' fun e w'' => ∃ v, e = .returned (.tuple #[v, .bool ((n : Int) / 256 ^ 4 == 0)]) ∧ own w'' w'.heap.size 5 1 v 4 ((putM n 4).map vB) ∧ Below w'.heap.size w' w'') := fun w' => put_any n 4 w' (by omega) (by omega) (by omega)
    have q1 : ¬ ((n : Int) < 253) := by omega
    have q2 : 65535 < (n : Int) := by omega
    have q3 : ¬ (4294967295 < (n : Int)) := by omega
    clear h1 h2 hn
    go_enter Tryd.func17, Tryd.ntmps17
    go_wp2_with fail
    refine (HP.out _).mono ?_
    rintro e w1 ⟨v, rfl, ho, hb⟩
    have hor := own_rd ho
    have hor' := hor
    obtain ⟨lo, lcap, rfl, l1, l2, -⟩ := hor'
    unfold maxLen at l2
    have B1 := Lib.hid hb; have HR := Lib.hid hor; clear ho hb hor
    have HO := Lib.hid (own_lit (w := w1) (base := w.heap.size) (e := 5) (sz := 1) #[vB 254] 1 B1.out.size (by decide) rfl)
    have HB2 := Lib.hid (B1.out.alloc B1.out.size (.cells #[vB 254] 5))
    have HR2 := Lib.hid (rd_alloc HR.out (.cells #[vB 254] 5))
    go_wp2_with (at_builtin; refine wpList_append_rd rfl (.tmp 23) (.tmp 24) 32 rfl 5 i0 (.int .u8 0) 1 1 Tryd.underlying32 hi0 hz0 hz1 hz2 rfl (by decide) w.heap.size 1 _ HO.out 4 _ ?g1 HR2.out (vB_plain _) ?g2 ?g3 ?g4 ?_)
    case g1 => simp [putM_length]
    case g2 => unfold maxLen; omega
    case g3 => omega
    case g4 => exact HB2.out.size
    intro v3 w3 ho3 _ hg3
    have B3 := Lib.hid (HB2.out.grown hg3 HB2.out.size (fun q hq => (own_lt HO.out hq).1))
    have ho4 : own w3 w.heap.size 5 1 v3 (1 + 4) ((sizeM n).map vB) := by rw [HM.out]; simpa using ho3
    have HO4 := Lib.hid ho4; clear ho3 ho4 hg3
    go_wp2
    go_ret
    exact ⟨_, _, rfl, HO4.out, by rw [HM.out]; simp [putM_length], by omega, B3.out⟩
end Go.Proofs.YtamjldakllafcaaDoor
