/- The walk of the law WorkGood. Conditions: none beyond each theorem's own. -/
import Derived.Test.YtamjldakllafcaaDoorMine
namespace Go.Proofs.YtamjldakllafcaaDoor
set_option linter.unusedVariables false
set_option linter.unusedSimpArgs false
open Go.RowKit
attribute [local go_sem ↓] run_load_agg run_store_agg run_load_any

theorem height_no (n : Int) (h : n < 0 ∨ 1073741824 < n) (w : World) : Calls Tryd.prog 40 #[.int .i64 n] w fun e w' => e = .returned (.bool false) ∧ w' = w := by
  by_cases h0 : n < 0
  · go_enter Tryd.func40, Tryd.ntmps40
    go_wp2
    go_ret
    exact ⟨rfl, rfl⟩
  · have h1 : 1073741824 < n := by omega
    go_enter Tryd.func40, Tryd.ntmps40
    go_wp2
    go_ret
    exact ⟨by show Ending.returned (.bool (decide (n ≤ 1073741824))) = _; rw [decide_eq_false (by omega)], rfl⟩
theorem within_no (n : Int) (h : n < 0 ∨ 40 < n) (w : World) : Calls Tryd.prog 41 #[.int .i64 n] w fun e w' => e = .returned (.bool false) ∧ w' = w := by
  by_cases h0 : n < 0
  · go_enter Tryd.func41, Tryd.ntmps41
    go_wp2
    go_ret
    exact ⟨rfl, rfl⟩
  · have h1 : 40 < n := by omega
    go_enter Tryd.func41, Tryd.ntmps41
    go_wp2
    go_ret
    exact ⟨by show Ending.returned (.bool (decide (n ≤ 40))) = _; rw [decide_eq_false (by omega)], rfl⟩
set_option maxHeartbeats 2000000 in
set_option maxRecDepth 100000 in
theorem mine_no (v : Value) (fr tries n : Int) (w : World) (h : fr < 0 ∨ 1073741824 < fr ∨ tries < 0 ∨ 1073741824 < tries ∨ n < 0 ∨ 40 < n) :
    Calls Tryd.prog 15 #[v, .int .i64 fr, .int .i64 tries, .int .i64 n] w fun e w' => e = .returned (.tuple #[.int .i64 0, .iface 47 (.int .i64 2)]) ∧ Below w.heap.size w w' := by
  by_cases h1 : fr < 0 ∨ 1073741824 < fr
  · have H1 := Lib.hid (height_no fr h1); clear h1 h
    go_enter Tryd.func15, Tryd.ntmps15
    go_wp2_with fail
    refine (H1.out _).mono ?_
    rintro e w' ⟨rfl, hw'⟩
    rw [hw']
    clear hw' w'
    go_wp2
    go_ret2
    exact ⟨rfl, Below.refl _ _⟩
  by_cases h2 : tries < 0 ∨ 1073741824 < tries
  · have H1 := Lib.hid (height_ok fr (by omega) (by omega)); have H2 := Lib.hid (height_no tries h2); clear h2 h1 h
    go_enter Tryd.func15, Tryd.ntmps15
    go_wp2_with fail
    refine (H1.out _).mono ?_
    rintro e w' ⟨rfl, hw'⟩
    rw [hw']
    clear hw' w'
    go_wp2_with fail
    refine (H2.out _).mono ?_
    rintro e w' ⟨rfl, hw'⟩
    rw [hw']
    clear hw' w'
    go_wp2
    go_ret2
    exact ⟨rfl, Below.refl _ _⟩
  · have H1 := Lib.hid (height_ok fr (by omega) (by omega)); have H2 := Lib.hid (height_ok tries (by omega) (by omega)); have H3 := Lib.hid (within_no n (by omega)); clear h2 h1 h
    go_enter Tryd.func15, Tryd.ntmps15
    go_wp2_with fail
    refine (H1.out _).mono ?_
    rintro e w' ⟨rfl, hw'⟩
    rw [hw']
    clear hw' w'
    go_wp2_with fail
    refine (H2.out _).mono ?_
    rintro e w' ⟨rfl, hw'⟩
    rw [hw']
    clear hw' w'
    go_wp2_with fail
    refine (H3.out _).mono ?_
    rintro e w' ⟨rfl, hw'⟩
    rw [hw']
    clear hw' w'
    go_wp2
    go_ret2
    exact ⟨rfl, Below.refl _ _⟩
/-- What Mine answers, whatever numbers come in. -/
def mineOk (b : List UInt8) (fr tries n : Int) (x : Int) : Prop :=
  ∃ (f t m y : Nat), fr = f ∧ tries = t ∧ n = m ∧ x = y ∧ m ≤ 40 ∧ (f ≤ 1073741824 ∧ t ≤ 1073741824) ∧ f ≤ y ∧ y < f + t ∧ goodM b m y = true ∧ ∀ i, f ≤ i → i < y → goodM b m i = false
def mineNo (b : List UInt8) (fr tries n : Int) : Prop :=
  (fr < 0 ∨ 1073741824 < fr ∨ tries < 0 ∨ 1073741824 < tries ∨ n < 0 ∨ 40 < n) ∨ ∃ (f t m : Nat), fr = f ∧ tries = t ∧ n = m ∧ m ≤ 40 ∧ ∀ i, f ≤ i → i < f + t → goodM b m i = false
theorem mine_all (b : List UInt8) (v : Value) (bn : Nat) (fr tries n : Int) (w : World) (hb : rd w v bn (b.map vB)) (hl : b.length = bn) (hbn : bn ≤ 140737488352000) (hT : tabAt w) :
    Calls Tryd.prog 15 #[v, .int .i64 fr, .int .i64 tries, .int .i64 n] w fun e w' => ∃ x err, e = .returned (.tuple #[.int .i64 x, err]) ∧ Below w.heap.size w w' ∧
      ((err = .nilIface ∧ mineOk b fr tries n x) ∨ ((∃ z, err = .iface 47 z) ∧ mineNo b fr tries n)) := by
  by_cases h : fr < 0 ∨ 1073741824 < fr ∨ tries < 0 ∨ 1073741824 < tries ∨ n < 0 ∨ 40 < n
  · refine (mine_no v fr tries n w h).mono ?_
    rintro e w' ⟨rfl, hb'⟩
    exact ⟨_, _, rfl, hb', .inr ⟨⟨_, rfl⟩, .inl h⟩⟩
  · obtain ⟨f, rfl⟩ : ∃ k : Nat, fr = k := ⟨fr.toNat, by omega⟩
    obtain ⟨t, rfl⟩ : ∃ k : Nat, tries = k := ⟨tries.toNat, by omega⟩
    obtain ⟨m, rfl⟩ : ∃ k : Nat, n = k := ⟨n.toNat, by omega⟩
    refine (mine_any b v bn f t m w hb hl hbn (by omega) (by omega) (by omega) hT).mono ?_
    rintro e w' ⟨hb', ⟨x, rfl, h1, h2, h3, h4⟩ | ⟨rfl, h1⟩⟩
    · exact ⟨_, _, rfl, hb', .inl ⟨rfl, f, t, m, x, rfl, rfl, rfl, rfl, by omega, ⟨by omega, by omega⟩, h1, h2, h3, h4⟩⟩
    · exact ⟨_, _, rfl, hb', .inr ⟨⟨_, rfl⟩, .inr ⟨f, t, m, rfl, rfl, rfl, by omega, h1⟩⟩⟩
theorem goodM_mono {b : List UInt8} {m k i : Nat} (h : m ≤ k) (hg : goodM b k i = true) : goodM b m i = true := by
  unfold goodM at *
  have := of_decide_eq_true hg
  exact decide_eq_true (by omega)
/-- More is never found where less is not. -/
theorem mine_more {b : List UInt8} {fr tries n more x : Int} (h1 : mineNo b fr tries n) (h2 : mineOk b fr tries more x) : more < n ∨ n < 0 ∨ 40 < n := by
  obtain ⟨f, t, m, y, rfl, rfl, rfl, rfl, g1, g2, g3, g4, g5, -⟩ := h2
  rcases h1 with h1 | ⟨f', t', m', e1, e2, rfl, g6, g7⟩
  · omega
  · by_cases hm : m < m'
    · left; omega
    · have := goodM_mono (m := m') (by omega) g5
      rw [g7 y (by omega) (by omega)] at this
      cases this
theorem mine_first {b : List UInt8} {fr tries n more x y : Int} (h1 : mineOk b fr tries n x) (h2 : mineOk b fr tries more y) : more < n ∨ x ≤ y := by
  obtain ⟨f, t, m, y1, rfl, rfl, rfl, rfl, g1, g2, g3, g4, g5, g6⟩ := h1
  obtain ⟨f', t', m', y2, e1, e2, rfl, rfl, -, -, k3, k4, k5, -⟩ := h2
  by_cases hm : m' < m
  · left; omega
  · right
    have := goodM_mono (m := m) (by omega) k5
    by_cases hl : y2 < y1
    · rw [g6 y2 (by omega) hl] at this; cases this
    · omega
set_option maxHeartbeats 4000000 in
set_option maxRecDepth 100000 in
theorem workGood_any (b : List UInt8) (v : Value) (bn : Nat) (fr tries n more : Int) (w : World) (hb : rd w v bn (b.map vB)) (hl : b.length = bn) (hbn : bn ≤ 140737488351232) (hT : tabAt w) :
    Calls Tryd.prog 4 #[v, .int .i64 fr, .int .i64 tries, .int .i64 n, .int .i64 more] w fun e w' => e = .returned (.bool true) ∧ Below w.heap.size w w' := by
  have hg0 := rowAt_lt hT
  have hb' := hb
  obtain ⟨ao, cap, rfl, k1, k2, -⟩ := hb'
  unfold maxLen at k2
  have HB := Lib.hid hb; have HT := Lib.hid hT; have HL := Lib.hid hl
  clear hb hT hl
  have H0 := Lib.hid (mine_any [] (.slice none 0 0) 0 7 1 0 w ⟨none, 0, rfl, Nat.le_refl _, Nat.zero_le _, .inl rfl⟩ rfl (by omega) (by omega) (by omega) (by omega) HT.out)
  go_enter Tryd.func4, Tryd.ntmps4
  go_wp2_with fail
  refine Calls.mono H0.out ?_
  rintro e w1 ⟨hb1, hr⟩
  have B1 := Lib.hid hb1
  have he : e = .returned (.tuple #[.int .i64 7, .nilIface]) := by
    rcases hr with ⟨x, rfl, g1, g2, -, -⟩ | ⟨-, g⟩
    · obtain rfl : x = 7 := by omega
      rfl
    · have := g 7 (by omega) (by omega)
      simp [goodM] at this
  clear hr hb1 H0
  subst he
  by_cases h1 : 200 < tries
  · go_wp2
    go_ret
    exact ⟨rfl, B1.out⟩
  by_cases h2 : 1073741824 < fr
  · go_wp2
    go_ret
    exact ⟨rfl, B1.out⟩
  go_wp2_with fail
  refine (mine_all b _ bn fr tries n w1 (rd_belowB HB.out B1.out (Nat.le_refl _)) HL.out (by omega) ((rowAt_below B1.out hg0 0 64).trans HT.out)).mono ?_
  rintro e w2 ⟨x, e1, rfl, hb2, hx⟩
  have B2 := Lib.hid (B1.out.trans (hb2.mono B1.out.size)); have HX := Lib.hid hx
  clear hb2 hx
  go_wp2_with fail
  refine (mine_all b _ bn fr tries more w2 (rd_belowB HB.out B2.out (Nat.le_refl _)) HL.out (by omega) ((rowAt_below B2.out hg0 0 64).trans HT.out)).mono ?_
  rintro e w3 ⟨y, e2, rfl, hb3, hy⟩
  have B3 := Lib.hid (B2.out.trans (hb3.mono B2.out.size)); have HY := Lib.hid hy
  clear hb3 hy
  rcases HX.out with ⟨rfl, hok⟩ | ⟨⟨z, rfl⟩, hno⟩
  · obtain ⟨f, t, m, X, rfl, rfl, rfl, rfl, g1, g2, g3, g4, g5, g6⟩ := hok
    have hok' : mineOk b f t m X := ⟨f, t, m, X, rfl, rfl, rfl, rfl, g1, g2, g3, g4, g5, g6⟩
    have hfin : (∃ z, e2 = .iface 47 z) ∨ (e2 = .nilIface ∧ (more < m ∨ (X : Int) ≤ y)) := by
      rcases HY.out with ⟨rfl, hk⟩ | ⟨hz, -⟩
      · exact .inr ⟨rfl, mine_first hok' hk⟩
      · exact .inl hz
    have HF := Lib.hid hfin; have HG5 := Lib.hid g5; have HG6 := Lib.hid g6
    clear hfin hok' g5 g6 HX HY
    obtain ⟨i0, hi0, hz0, hz1, hz2⟩ := info_parts info_u8
    go_wp2_with fail
    go_loopw [17] (fun c wr => ∃ k : Nat, f ≤ k ∧ k ≤ X + 1 ∧ c = .int .i64 k ∧ Below w.heap.size w wr) (fun c _ => X + 1 - (intOf c).toNat)
    case atStart => exact ⟨f, Nat.le_refl _, by omega, rfl, B3.out⟩
    case round =>
      obtain ⟨k, hk1, hk2, rfl, hB⟩ := hrel
      have B4 := Lib.hid hB; clear hB
      by_cases hlt : k ≤ X
      · have B5 := Lib.hid (B4.out.alloc B4.out.size (.cells #[] 5))
        have HR := Lib.hid (rd_belowB HB.out B5.out (Nat.le_refl _))
        have hk32 : k < 4294967296 := by omega
        have HRS := Lib.hid (rsize_any k hk32)
        go_wp2_with (at_builtin; refine wpList_append_rd rfl (.tmp 74) (.tmp 75) 32 rfl 5 i0 (.int .u8 0) 1 1 Tryd.underlying32 hi0 hz0 hz1 hz2 rfl (by decide) w.heap.size 0 [] (own_empty _ _ _ _ _) bn (b.map vB) ?c1 HR.out (vB_plain _) ?c2 ?c3 ?c4 ?_)
        case c1 => have := HL.out; simp [this]
        case c2 => unfold maxLen; omega
        case c3 => omega
        case c4 => exact B5.out.size
        intro v1 w4 ho1 _ hg1
        have B6 := Lib.hid (B5.out.grown hg1 B5.out.size (fun q hq => by cases hq))
        have HO1 := Lib.hid ho1
        clear hg1 ho1
        go_wp2_with fail
        refine (HRS.out w4).mono ?_
        rintro e w5 ⟨sv, sk, rfl, hos, hsk, hsk5, hb5⟩
        have B7 := Lib.hid (B6.out.trans (hb5.mono B6.out.size))
        have HO2 := Lib.hid (own_below hb5 HO1.out (Nat.le_refl _))
        have HOS := Lib.hid (own_rd hos); have HSK := Lib.hid hsk
        clear hos hb5 hsk
        go_wp2_with (at_builtin; refine wpList_append_rd rfl (.tmp 76) (.tmp 78) 32 rfl 5 i0 (.int .u8 0) 1 1 Tryd.underlying32 hi0 hz0 hz1 hz2 rfl (by decide) w.heap.size bn (b.map vB) HO2.out sk _ ?d1 HOS.out (vB_plain _) ?d2 ?d3 ?d4 ?_)
        case d1 => have := HSK.out; simp [this]
        case d2 => unfold maxLen; omega
        case d3 => omega
        case d4 => exact B7.out.size
        intro v2 w6 ho2 _ hg2
        have B8 := Lib.hid (B7.out.grown hg2 B7.out.size (fun q hq => (own_lt HO2.out hq).1))
        have ho3 : own w6 w.heap.size 5 1 v2 (bn + sk) ((b ++ sizeM k).map vB) := by simpa using ho2
        have HO3 := Lib.hid (own_rd ho3)
        clear hg2 ho2 ho3
        go_wp2_with fail
        refine (rsum_any (b ++ sizeM k) _ (bn + sk) w6 HO3.out (by have := HL.out; have := HSK.out; simp; omega) (by omega)).mono ?_
        rintro e w7 ⟨rfl, hb7⟩
        have B9 := Lib.hid (B8.out.trans (hb7.mono B8.out.size)); clear hb7
        obtain ⟨D, hD⟩ : ∃ D, shaM (b ++ sizeM k) = D := ⟨_, rfl⟩
        have hDl : D.length = 32 := by rw [← hD]; exact shaM_length _
        rw [hD]
        have HDD := Lib.hid hD; clear hD
        obtain ⟨n1, n2, n3, n4, n5⟩ := new_dig w7 D hDl
        have B10 := Lib.hid (B9.out.alloc B9.out.size (.cells (dgV D) 25))
        unfold zD at n1 n2
        go_wp2_with fail
        clear n1 n2
        generalize w7.alloc (.cells (dgV D) 25) = w8 at B10 n5 ⊢
        refine (good_any D hDl m w8).mono ?_
        rintro e w9 ⟨rfl, hb9⟩
        have B11 := Lib.hid (B10.out.trans (hb9.mono B10.out.size)); clear hb9
        by_cases hkx : k = X
        · have hd : decide ((m : Int) ≤ (zerosM D : Int)) = true := by
            have e := HG5.out
            unfold goodM at e
            rw [← hkx, HDD.out] at e
            have := of_decide_eq_true e
            exact decide_eq_true (by omega)
          rw [hd]
          have hq : ((k : Int) == (X : Int)) = true := by rw [beq_iff_eq]; omega
          clear hd
          go_wp2
          go_roundw
          case rel => exact ⟨k + 1, by omega, by omega, by go_num, B11.out⟩
          case measure => simp [intOf]; omega
        · have hd : decide ((m : Int) ≤ (zerosM D : Int)) = false := by
            have e := HG6.out k hk1 (by omega)
            unfold goodM at e
            rw [HDD.out] at e
            have := of_decide_eq_false e
            exact decide_eq_false (by omega)
          rw [hd]
          have hq : ((k : Int) == (X : Int)) = false := beq_false_of_ne (by omega)
          clear hd
          go_wp2
          go_roundw
          case rel => exact ⟨k + 1, by omega, by omega, by go_num, B11.out⟩
          case measure => simp [intOf]; omega
      · have hkX : k = X + 1 := by omega
        have HKX := Lib.hid hkX
        have q1 : ¬ ((k : Int) ≤ (X : Int)) := by omega
        have q2 : (f : Int) ≤ (X : Int) := by omega
        have q3 : (X : Int) < (f : Int) + t := by omega
        clear hkX hlt
        rcases HF.out with ⟨z2, rfl⟩ | ⟨rfl, h3⟩
        · go_wp2
          go_ret
          exact ⟨rfl, B4.out⟩
        · by_cases h4 : more < m
          · go_wp2
            go_ret
            exact ⟨rfl, B4.out⟩
          · have h5 : (X : Int) ≤ y := by omega
            go_wp2
            go_ret
            exact ⟨rfl, B4.out⟩
  · have hfin : (∃ z, e2 = .iface 47 z) ∨ (e2 = .nilIface ∧ (more < n ∨ n < 0 ∨ 40 < n)) := by
      rcases HY.out with ⟨rfl, hk⟩ | ⟨hz, -⟩
      · exact .inr ⟨rfl, mine_more hno hk⟩
      · exact .inl hz
    clear hno HX HY
    rcases hfin with ⟨z2, rfl⟩ | ⟨rfl, h3 | h3 | h3⟩
    · go_wp2
      go_ret
      exact ⟨rfl, B3.out⟩
    · go_wp2
      go_ret
      exact ⟨rfl, B3.out⟩
    · by_cases h4 : more < n
      · go_wp2
        go_ret
        exact ⟨rfl, B3.out⟩
      · go_wp2
        go_ret
        exact ⟨rfl, B3.out⟩
    · by_cases h4 : more < n
      · go_wp2
        go_ret
        exact ⟨rfl, B3.out⟩
      · by_cases h5 : n < 0
        · go_wp2
          go_ret
          exact ⟨rfl, B3.out⟩
        · go_wp2
          go_ret
          exact ⟨rfl, B3.out⟩
end Go.Proofs.YtamjldakllafcaaDoor
