/- The walk of the law TreeSound. Conditions: none beyond each theorem's own. -/
import Derived.Test.YtamjldakllafcaaDoorClash
namespace Go.Proofs.YtamjldakllafcaaDoor
open Go.RowKit
attribute [local go_sem ↓] run_load_agg run_store_agg run_build_two run_load_any

/-- tree.Fold, whatever comes in. -/
theorem fold_all (l : List UInt8) (hl : l.length = 32) (i n : Int) (v : Value) (m : Nat) (ps : List (List UInt8)) (h32 : ∀ d ∈ ps, d.length = 32) (w : World) (hr : rd w v m (ps.flatten.map vB)) (hpl : ps.length = m) (hT : tabAt w) :
    Calls Tryd.prog 22 #[.agg (dgV l), .int .i64 i, .int .i64 n, v] w fun e w' => ∃ D err, e = .returned (.tuple #[.agg (dgV D), err]) ∧ D.length = 32 ∧ Below w.heap.size w w' ∧
      ((∃ x, err = .iface 47 x) ∨ (err = .nilIface ∧ ∃ (n' i' : Nat), n = n' ∧ i = i' ∧ 1 ≤ n' ∧ n' ≤ 256 ∧ i' < n' ∧ m = (sidesM i' n').length ∧ D = foldM l (sidesM i' n').reverse ps)) := by
  by_cases h : n < 1 ∨ 256 < n ∨ i < 0 ∨ n ≤ i
  · refine (fold_range l hl i n v w h).mono ?_
    rintro e w' ⟨rfl, hb⟩
    exact ⟨List.replicate 32 0, _, by rw [zD_eq], by simp, hb, .inl ⟨_, rfl⟩⟩
  · obtain ⟨n', rfl⟩ : ∃ k : Nat, n = k := ⟨n.toNat, by omega⟩
    obtain ⟨i', rfl⟩ : ∃ k : Nat, i = k := ⟨i.toNat, by omega⟩
    by_cases hm : m = (sidesM i' n').length
    · refine (fold_any l hl n' i' v m ps h32 w hr hpl (by omega) (by omega) (by omega) hm hT).mono ?_
      rintro e w' ⟨rfl, hb⟩
      exact ⟨_, _, rfl, foldM_length _ _ _ hl, hb, .inr ⟨rfl, n', i', rfl, rfl, by omega, by omega, by omega, hm, rfl⟩⟩
    · obtain ⟨ao, cap, rfl, k1, k2, -⟩ := hr
      refine (fold_len l hl n' i' ao m cap w k1 (by unfold maxLen at k2; omega) (by omega) (by omega) (by omega) hm).mono ?_
      rintro e w' ⟨rfl, hb⟩
      exact ⟨List.replicate 32 0, _, by rw [zD_eq], by simp, hb, .inl ⟨_, rfl⟩⟩
set_option maxHeartbeats 4000000 in
set_option maxRecDepth 100000 in
theorem sound_any (a b : List UInt8) (ha : a.length = 32) (hb : b.length = 32) (pv qv : Value) (m1 m2 : Nat) (ps qs : List (List UInt8)) (hp : ∀ d ∈ ps, d.length = 32) (hq : ∀ d ∈ qs, d.length = 32) (i n : Int) (w : World)
    (rp : rd w pv m1 (ps.flatten.map vB)) (lp : ps.length = m1) (rq : rd w qv m2 (qs.flatten.map vB)) (lq : qs.length = m2) (hT : tabAt w) :
    Calls Tryd.prog 6 #[.agg (dgV a), pv, .agg (dgV b), qv, .int .i64 i, .int .i64 n] w fun e w' => e = .returned (.bool true) ∧ Below w.heap.size w w' := by
  have hg0 := rowAt_lt hT
  have HT := Lib.hid hT; have RP := Lib.hid rp; have RQ := Lib.hid rq
  clear hT rp rq
  have HC0 := Lib.hid (ClI.start w a b ha hb)
  have hsa : (dgV a).size = 32 := by rw [dgV_size, ha]
  have hsb : (dgV b).size = 32 := by rw [dgV_size, hb]
  have hpa : plainCells (dgV a) = true := dgV_plain _
  have hpb : plainCells (dgV b) = true := dgV_plain _
  go_enter Tryd.func6, Tryd.ntmps6
  go_wp2_with fail
  change Calls _ _ _ ((w.alloc (.cells (dgV a) 25)).alloc (.cells (dgV b) 25)) _
  generalize (w.alloc (.cells (dgV a) 25)).alloc (.cells (dgV b) 25) = wa at HC0 ⊢
  refine (rooted_any wa ((rowAt_below HC0.out.below hg0 0 64).trans HT.out)).mono ?_
  rintro e w1 ⟨rfl, hb1⟩
  have HC1 := Lib.hid (HC0.out.on hb1); clear hb1
  have ca1 : rowAt w1 w.heap.size 0 32 = some (dgV a) := HC1.out.a0
  go_wp2_with fail
  refine (fold_all a ha i n pv m1 ps hp w1 (rd_belowB RP.out HC1.out.below (Nat.le_refl _)) lp ((rowAt_below HC1.out.below hg0 0 64).trans HT.out)).mono ?_
  rintro e w2 ⟨X, e1, rfl, hX, hb2, hc1⟩
  have HC2 := Lib.hid (HC1.out.on hb2); have HE1 := Lib.hid hc1
  clear hb2 hc1 ca1
  obtain ⟨n1, n2, n3, n4, n5⟩ := new_dig w2 X hX
  have HC3 := Lib.hid (HC2.out.on ((Below.refl _ _).alloc (Nat.le_refl _) (.cells (dgV X) 25)))
  have cb3 : rowAt (w2.alloc (.cells (dgV X) 25)) (w.heap.size + 1) 0 32 = some (dgV b) := HC3.out.b0
  have hz3 : (w2.alloc (.cells (dgV X) 25)).heap.size = w2.heap.size + 1 := by simp
  unfold zD at n1 n2
  go_wp2_with fail
  clear n1 n2
  generalize w2.alloc (.cells (dgV X) 25) = w3 at HC3 n5 cb3 hz3 ⊢
  refine (fold_all b hb i n qv m2 qs hq w3 (rd_belowB RQ.out HC3.out.below (Nat.le_refl _)) lq ((rowAt_below HC3.out.below hg0 0 64).trans HT.out)).mono ?_
  rintro e w4 ⟨Y, e2, rfl, hY, hb4, hc2⟩
  have HC4 := Lib.hid (HC3.out.on hb4); have HE2 := Lib.hid hc2
  have n6 : rowAt w4 w2.heap.size 0 32 = some (dgV X) := (rowAt_below hb4 (by omega) 0 32).trans n5
  have hz4 := hb4.size
  clear hb4 hc2 n5 cb3
  obtain ⟨y1, y2, y3, y4, y5⟩ := new_dig w4 Y hY
  have HC5 := Lib.hid (HC4.out.on ((Below.refl _ _).alloc (Nat.le_refl _) (.cells (dgV Y) 25)))
  have n7 : rowAt (w4.alloc (.cells (dgV Y) 25)) w2.heap.size 0 32 = some (dgV X) := by rw [rowAt_alloc_past _ _ _ _ _ (by omega)]; exact n6
  have ca5 : rowAt (w4.alloc (.cells (dgV Y) 25)) w.heap.size 0 32 = some (dgV a) := HC5.out.a0
  have cb5 : rowAt (w4.alloc (.cells (dgV Y) 25)) (w.heap.size + 1) 0 32 = some (dgV b) := HC5.out.b0
  have ez1 : ∀ w, (Op.equalIn 10000 25 (.agg (dgV X)) (.agg (dgV Y))).run Tryd.prog w = .ok (decide (X = Y)) w := run_eql_dig X Y hX hY
  have ez2 : ∀ w, (Op.equalIn 10000 25 (.agg (dgV a)) (.agg (dgV b))).run Tryd.prog w = .ok (decide (a = b)) w := run_eql_dig a b ha hb
  unfold zD at y1 y2
  rcases HE1.out with ⟨x, rfl⟩ | ⟨rfl, n', i', rfl, rfl, g1, g2, g3, g4, g5⟩
  · clear ez1 ez2
    go_wp2
    go_ret
    exact ⟨rfl, HC5.out.below⟩
  · rcases HE2.out with ⟨x, rfl⟩ | ⟨rfl, n'', i'', f1, f2, -, -, -, f6, f7⟩
    · clear ez1 ez2
      go_wp2
      go_ret
      exact ⟨rfl, HC5.out.below⟩
    · obtain rfl : n'' = n' := by omega
      obtain rfl : i'' = i' := by omega
      have hmm : m2 = m1 := by omega
      subst hmm
      by_cases hxy : X = Y
      · rw [decide_eq_true hxy] at ez1
        by_cases hab : a = b
        · rw [decide_eq_true hab] at ez2
          clear hab hxy g5 f7 g4 f6 HE1 HE2
          go_wp2
          go_ret
          exact ⟨rfl, HC5.out.below⟩
        · rw [decide_eq_false hab] at ez2
          have hfe : foldM a (sidesM i'' n'').reverse ps = foldM b (sidesM i'' n'').reverse qs := by rw [← g5, ← f7, hxy]
          have HFE := Lib.hid hfe; have HAB := Lib.hid hab; have G4 := Lib.hid g4
          clear hfe hab hxy g5 f7 g4 f6 HE1 HE2
          go_wp2_with fail
          clear y1 y2
          generalize w4.alloc (.cells (dgV Y) 25) = w5 at HC5 y5 n7 ca5 cb5 ⊢
          refine (clash_any n'' a b ha hb n'' i'' _ _ m2 ps qs hp hq w5 (Nat.le_refl _) (rd_belowB RP.out HC5.out.below (Nat.le_refl _)) (rd_belowB RQ.out HC5.out.below (Nat.le_refl _)) lp lq g1 g2 g3 G4.out HAB.out HFE.out ((rowAt_below HC5.out.below hg0 0 64).trans HT.out)).mono ?_
          rintro e w6 ⟨rfl, hb6⟩
          have B6 := Lib.hid (HC5.out.below.trans (hb6.mono HC5.out.below.size)); clear hb6
          go_wp2
          go_ret
          exact ⟨rfl, B6.out⟩
      · rw [decide_eq_false hxy] at ez1
        clear hxy g5 f7 g4 f6 HE1 HE2 ez2
        go_wp2
        go_ret
        exact ⟨rfl, HC5.out.below⟩
end Go.Proofs.YtamjldakllafcaaDoor
