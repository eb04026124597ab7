/- The walk of the reference's Mined. Conditions: none beyond each theorem's own. -/
import Derived.Test.YtamjldakllafcaaDoorGoodw
import Derived.Test.YtamjldakllafcaaDoorNext
namespace Go.Proofs.YtamjldakllafcaaDoor
set_option linter.unusedVariables false
set_option linter.unusedSimpArgs false
open Go.RowKit
attribute [local go_sem ↓] run_load_agg run_store_agg run_load_any

set_option maxHeartbeats 2000000 in
set_option maxRecDepth 100000 in
theorem mined_no (v : Value) (fr tries n : Int) (w : World) (h : fr < 0 ∨ 1073741824 < fr ∨ tries < 0 ∨ 1073741824 < tries ∨ n < 0 ∨ 40 < n) :
    Calls Tryd.prog 33 #[v, .int .i64 fr, .int .i64 tries, .int .i64 n] w fun e w' => e = .returned (.tuple #[.int .i64 0, .int .i64 2]) ∧ w' = w := by
  have hb : heightB fr = false ∨ heightB tries = false ∨ withinB n = false := by
    by_cases h1 : heightB fr = true
    · by_cases h2 : heightB tries = true
      · right; right
        simp only [heightB, withinB, Bool.and_eq_true, decide_eq_true_eq, Bool.and_eq_false_iff, decide_eq_false_iff_not] at h1 h2 ⊢
        omega
      · right; left; simpa using h2
    · left; simpa using h1
  clear h
  have H := Lib.hid hb; clear hb
  cases h1 : heightB fr <;> cases h2 : heightB tries <;> cases h3 : withinB n
  all_goals first
    | (exfalso; have := H.out; simp [h1, h2, h3] at this; done)
    | (go_enter Tryd.func33, Tryd.ntmps33
       go_wp2_with (first
        | (go_at_call 58; refine (bits2_all _ _).mono ?_; rintro e w' ⟨rfl, rfl⟩)
        | (go_at_call 59; refine (height2_all _ _).mono ?_; rintro e w' ⟨rfl, rfl⟩))
       go_ret2
       exact ⟨rfl, rfl⟩)
set_option maxHeartbeats 4000000 in
set_option maxRecDepth 100000 in
theorem mined_any (b : List UInt8) (v : Value) (bn fr tries n : Nat) (w : World) (hb : rd w v bn (b.map vB)) (hl : b.length = bn) (hbn : bn ≤ 140737488351232) (hf : fr ≤ 1073741824) (ht : tries ≤ 1073741824) (hn : n ≤ 40) :
    Calls Tryd.prog 33 #[v, .int .i64 fr, .int .i64 tries, .int .i64 n] w fun e w' => Below w.heap.size w w' ∧
      ((∃ x : Nat, e = .returned (.tuple #[.int .i64 x, .int .i64 0]) ∧ fr ≤ x ∧ x < fr + tries ∧ goodM b n x = true ∧ ∀ i, fr ≤ i → i < x → goodM b n i = false) ∨
       (e = .returned (.tuple #[.int .i64 0, .int .i64 5]) ∧ ∀ i, fr ≤ i → i < fr + tries → goodM b n i = false)) := by
  have hb' := hb
  obtain ⟨ao, cap, rfl, k1, k2, -⟩ := hb'
  unfold maxLen at k2
  have HB := Lib.hid hb; have HL := Lib.hid hl
  clear hb hl
  have q1 : heightB fr = true := by simp [heightB]; omega
  have q2 : heightB tries = true := by simp [heightB]; omega
  have q3 : withinB n = true := by simp [withinB]; omega
  obtain ⟨i0, hi0, hz0, hz1, hz2⟩ := info_parts info_u8
  go_enter Tryd.func33, Tryd.ntmps33
  go_wp2_with (first
    | (go_at_call 58; refine (bits2_all _ _).mono ?_; rintro e w' ⟨rfl, hw'⟩; rw [hw']; clear hw' w')
    | (go_at_call 59; refine (height2_all _ _).mono ?_; rintro e w' ⟨rfl, hw'⟩; rw [hw']; clear hw' w'))
  clear q1 q2 q3
  go_loopw [10] (fun c wr => ∃ k : Nat, k ≤ tries ∧ c = .int .i64 ((fr : Int) + k) ∧ Below w.heap.size w wr ∧ ∀ i, fr ≤ i → i < fr + k → goodM b n i = false) (fun c _ => (fr + tries) - (intOf c).toNat)
  case atStart => exact ⟨0, by omega, by simp, Below.refl _ _, fun i h1 h2 => by omega⟩
  case round =>
    obtain ⟨k, hk, rfl, hB, hG⟩ := hrel
    obtain ⟨i, hi⟩ : ∃ i, fr + k = i := ⟨_, rfl⟩
    rw [show (fr : Int) + (k : Int) = (i : Int) from by omega]
    have HG := Lib.hid hG; have B4 := Lib.hid hB
    clear hG hB
    by_cases hlt : k < tries
    · have B5 := Lib.hid (B4.out.alloc B4.out.size (.cells #[] 5))
      have HR := Lib.hid (rd_belowB HB.out B5.out (Nat.le_refl _))
      have hcond : (i : Int) < (fr : Int) + tries := by omega
      have hi32 : i < 4294967296 := by omega
      have HI3 := Lib.hid hi; clear hi
      have HRS := Lib.hid (rsize_any i hi32)
      go_wp2_with (at_builtin; refine wpList_append_rd rfl (.tmp 33) (.tmp 34) 32 rfl 5 i0 (.int .u8 0) 1 1 Tryd.underlying32 hi0 hz0 hz1 hz2 rfl (by decide) w.heap.size 0 [] (own_empty _ _ _ _ _) bn (b.map vB) ?c1 HR.out (vB_plain _) ?c2 ?c3 ?c4 ?_)
      case c1 => have := HL.out; simp [this]
      case c2 => unfold maxLen; omega
      case c3 => omega
      case c4 => exact B5.out.size
      intro v1 w4 ho1 _ hg1
      have B6 := Lib.hid (B5.out.grown hg1 B5.out.size (fun q hq => by cases hq))
      have HO1 := Lib.hid ho1
      clear hg1 ho1
      go_wp2_with fail
      refine (HRS.out w4).mono ?_
      rintro e w5 ⟨sv, sk, rfl, hos, hsk, hsk5, hb5⟩
      have B7 := Lib.hid (B6.out.trans (hb5.mono B6.out.size))
      have HO2 := Lib.hid (own_below hb5 HO1.out (Nat.le_refl _))
      have HOS := Lib.hid (own_rd hos); have HSK := Lib.hid hsk
      clear hos hb5 hsk
      go_wp2_with (at_builtin; refine wpList_append_rd rfl (.tmp 35) (.tmp 37) 32 rfl 5 i0 (.int .u8 0) 1 1 Tryd.underlying32 hi0 hz0 hz1 hz2 rfl (by decide) w.heap.size bn (b.map vB) HO2.out sk _ ?d1 HOS.out (vB_plain _) ?d2 ?d3 ?d4 ?_)
      case d1 => have := HSK.out; simp [this]
      case d2 => unfold maxLen; omega
      case d3 => omega
      case d4 => exact B7.out.size
      intro v2 w6 ho2 _ hg2
      have B8 := Lib.hid (B7.out.grown hg2 B7.out.size (fun q hq => (own_lt HO2.out hq).1))
      have ho3 : own w6 w.heap.size 5 1 v2 (bn + sk) ((b ++ sizeM i).map vB) := by simpa using ho2
      have HO3 := Lib.hid (own_rd ho3)
      clear hg2 ho2 ho3
      go_wp2_with fail
      refine (rsum_any (b ++ sizeM i) _ (bn + sk) w6 HO3.out (by have := HL.out; have := HSK.out; simp; omega) (by omega)).mono ?_
      rintro e w7 ⟨rfl, hb7⟩
      have B9 := Lib.hid (B8.out.trans (hb7.mono B8.out.size)); clear hb7
      have hDl := shaM_length (b ++ sizeM i)
      obtain ⟨D, hD⟩ : ∃ D, shaM (b ++ sizeM i) = D := ⟨_, rfl⟩
      rw [hD] at hDl ⊢
      have HDD := Lib.hid hD; clear hD
      go_wp2_with fail
      refine (zerosOf_any D hDl w7).mono ?_
      rintro e w9 ⟨rfl, hb9⟩
      have B11 := Lib.hid (B9.out.trans (hb9.mono B9.out.size)); clear hb9
      by_cases hgd : goodM b n i = true
      · have hd : (n : Int) ≤ (zerosM D : Int) := by unfold goodM at hgd; rw [HDD.out] at hgd; have := of_decide_eq_true hgd; omega
        have HGD := Lib.hid hgd; clear hgd
        go_wp2
        go_ret2
        exact ⟨B11.out, .inl ⟨i, rfl, by have := HI3.out; omega, by have := HI3.out; omega, HGD.out, fun j h1 h2 => HG.out j h1 (by have := HI3.out; omega)⟩⟩
      · have hgf : goodM b n i = false := by simpa using hgd
        have hd : ¬ (n : Int) ≤ (zerosM D : Int) := by unfold goodM at hgf; rw [HDD.out] at hgf; have := of_decide_eq_false hgf; omega
        have HGF := Lib.hid hgf; clear hgd hgf
        go_wp2
        go_roundw
        case rel =>
          refine ⟨k + 1, by omega, by have := HI3.out; go_num, B11.out, fun j h1 h2 => ?_⟩
          by_cases e : j = i
          · rw [e]; exact HGF.out
          · exact HG.out j h1 (by have := HI3.out; omega)
        case measure => have := HI3.out; simp [intOf]; omega
    · have hcond : ¬ ((i : Int) < (fr : Int) + tries) := by omega
      have hkt : k = tries := by omega
      have HKT := Lib.hid hkt
      clear hi hkt
      go_wp2
      go_ret2
      exact ⟨B4.out, .inr ⟨rfl, fun j h1 h2 => HG.out j h1 (by have := HKT.out; omega)⟩⟩
end Go.Proofs.YtamjldakllafcaaDoor
