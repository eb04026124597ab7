/- The walk of the law TreeHalves. Conditions: none beyond each theorem's own. -/
import Derived.Test.YtamjldakllafcaaDoorTroot
import Derived.Deep.QuietTactic
namespace Go.Proofs.YtamjldakllafcaaDoor
open Go.RowKit
attribute [local go_sem ↓] run_load_agg run_store_agg run_build_two run_load_any

theorem half_unique : ∀ n : Fin 257, ∀ j : Fin 9, 2 ≤ n.val → 2 ^ j.val < n.val → n.val ≤ 2 * 2 ^ j.val → halfM n.val = 2 ^ j.val := by decide +kernel
/-- What the walk asks where a digest is laid into a new cell. -/
theorem new_dig (w : World) (D : List UInt8) (hD : D.length = 32) : (rowAt (w.alloc (.cells zD 25)) w.heap.size 0 32).isSome = true ∧ wrAt (w.alloc (.cells zD 25)) w.heap.size = true ∧
    plainCells (dgV D) = true ∧ (dgV D).size = 32 ∧ rowAt (w.alloc (.cells (dgV D) 25)) w.heap.size 0 32 = some (dgV D) := by
  have hsz : (dgV D).size = 32 := by rw [dgV_size, hD]
  exact ⟨by rw [rowAt_whole (heap_alloc_new w _) 32 rfl]; rfl, wrAt_of_heap (heap_alloc_new w _), dgV_plain _, hsz, rowAt_whole (heap_alloc_new w _) 32 hsz.symm⟩
theorem eql_self (X : List UInt8) (hX : X.length = 32) : ∀ w, (Op.equalIn 10000 25 (.agg (dgV X)) (.agg (dgV X))).run Tryd.prog w = .ok true w := fun w => by
  have := run_eql_dig X X hX hX w
  simpa using this
/-- The worlds of a region that reads three digests and calls: they stand. -/
structure Held3 (w0 : World) (A B D : Nat) (X Y Z : List UInt8) (w : World) : Prop where
  below : Below w0.heap.size w0 w
  a : A < w.heap.size ∧ rowAt w A 0 32 = some (dgV X)
  b : B < w.heap.size ∧ rowAt w B 0 32 = some (dgV Y)
  d : D < w.heap.size ∧ rowAt w D 0 32 = some (dgV Z)
theorem Held3.on {w0 : World} {A B D : Nat} {X Y Z : List UInt8} {w w' : World} (h : Held3 w0 A B D X Y Z w) (hb : Below w.heap.size w w') : Held3 w0 A B D X Y Z w' :=
  ⟨h.below.trans (hb.mono h.below.size), ⟨Nat.lt_of_lt_of_le h.a.1 hb.size, (rowAt_below hb h.a.1 0 32).trans h.a.2⟩, ⟨Nat.lt_of_lt_of_le h.b.1 hb.size, (rowAt_below hb h.b.1 0 32).trans h.b.2⟩, ⟨Nat.lt_of_lt_of_le h.d.1 hb.size, (rowAt_below hb h.d.1 0 32).trans h.d.2⟩⟩
/-- .. that reads one. -/
structure Held1 (w0 : World) (A : Nat) (X : List UInt8) (w : World) : Prop where
  below : Below w0.heap.size w0 w
  a : rowAt w A 0 32 = some (dgV X)
structure Held0 (w0 : World) (w : World) : Prop where
  below : Below w0.heap.size w0 w
theorem quiet_load {C : World → Prop} {K : Act → Prop} {a : Act} {dst : Option Tmp} {x : Operand} {type : TypeId} {pos : String} {after : Array Edge} {guard : Option (Nat × Bool)} (g off : Nat) (cs : Array Value)
    (hx : a.eval x = .pointer (some ⟨g, off, none⟩)) (h : ∀ w, C w → rowAt w g off 32 = some cs) (hK : K (a.put dst (.agg cs))) :
    Oper.quiet Tryd.prog ⟨dst, .load 25 x, type, pos, after, guard⟩ a C K := by
  refine ⟨.agg cs, fun w hw => ?_, hK⟩
  have hr : rowOf w (a.eval x) (Tryd.prog.cellsOf 25) = some cs := by rw [hx, rowOf_ptr, cells_digest]; exact h w hw
  unfold Oper.quietAt
  rw [run_load_agg a.eval w dst _ x type pos after guard agg_digest (by rw [hr]; rfl), hr]
  exact ⟨rfl, rfl⟩
set_option maxHeartbeats 1500000 in
set_option maxRecDepth 100000 in
theorem halves_any (ls : List (List UInt8)) (h32 : ∀ d ∈ ls, d.length = 32) (v : Value) (n : Nat) (w : World) (hb : rd w v n (ls.flatten.map vB)) (hl : ls.length = n) (hT : tabAt w) :
    Calls Tryd.prog 3 #[v] w fun e w' => e = .returned (.bool true) ∧ Below w.heap.size w w' := by
  have hg := rowAt_lt hT
  have HT := Lib.hid hT; clear hT
  have hb' := hb
  obtain ⟨ao, cap, rfl, k1, k2, -⟩ := hb'
  unfold maxLen at k2
  have HB := Lib.hid hb; clear hb
  go_enter Tryd.func3, Tryd.ntmps3
  go_wp2_with fail
  refine (rooted_any w HT.out).mono ?_
  rintro e w1 ⟨rfl, hb1⟩
  have B1 := Lib.hid hb1; clear hb1
  by_cases h2 : 2 ≤ n
  · by_cases h3 : n ≤ 256
    · obtain ⟨g, off, rfl, -⟩ := rd_digest h32 hl HB.out (by omega)
      go_wp2_with fail
      go_loopw [6] (fun c wr => wr = w1 ∧ ∃ j : Nat, j ≤ 8 ∧ c = .int .i64 ((2 ^ j : Nat) : Int) ∧ 2 ^ j < n) (fun c _ => 256 - (intOf c).toNat)
      case atStart => exact ⟨rfl, 0, by omega, rfl, by omega⟩
      case round =>
        obtain ⟨rfl, j, hj, rfl, hjn⟩ := hrel
        obtain ⟨k, hk⟩ : ∃ k, 2 ^ j = k := ⟨_, rfl⟩
        rw [hk] at hjn ⊢
        have hk0 : 0 < k := by rw [← hk]; exact Nat.two_pow_pos j
        have HK := Lib.hid hk; clear hk
        by_cases hmore : 2 * k < n
        · have hj8 : j < 8 := by
            have e := HK.out
            refine Nat.lt_of_not_le fun h8 => ?_
            have : 2 ^ 8 ≤ 2 ^ j := Nat.pow_le_pow_right (by omega) h8
            omega
          go_wp2
          go_roundw
          case rel => exact ⟨trivial, j + 1, by omega, by rw [Nat.pow_succ, HK.out]; go_num, by rw [Nat.pow_succ, HK.out]; omega⟩
          case measure => simp [intOf]; omega
        · have hkh : halfM n = k := by
            rw [← HK.out]
            exact half_unique ⟨n, by omega⟩ ⟨j, by omega⟩ h2 (by show 2 ^ j < n; rw [HK.out]; exact hjn) (by show n ≤ 2 * 2 ^ j; rw [HK.out]; omega)
          have HKH := Lib.hid hkh; clear hkh
          have hm := rootM_two ls (by omega) (by omega)
          rw [hl, HKH.out] at hm
          have HM := Lib.hid hm; clear hm
          have hs1 : ∀ w, (Instr.sliceAt 22 (.slice (some ⟨g, off, none⟩) n cap) none (some (.int .i64 k)) none).run Tryd.prog w = .ok (.slice (some ⟨g, off, none⟩) k cap) w := fun w => run_slice_to _ _ 32 Tryd.underlying22 size_dig g off n cap k (by omega) k1 w
          have hs2 : ∀ w, (Instr.sliceAt 22 (.slice (some ⟨g, off, none⟩) n cap) (some (.int .i64 k)) none none).run Tryd.prog w = .ok (.slice (if cap = k then some ⟨g, off, none⟩ else (some ⟨g, off, none⟩ : Option Addr).map (·.add (k * 32))) (n - k) (cap - k)) w := fun w => run_slice_from' _ _ 32 Tryd.underlying22 size_dig _ n cap k (by omega) w
          have r1 := Lib.hid (rd_take HB.out k (32 * k) (by omega))
          have r2 := rd_drop HB.out (sz := 32) (by rw [List.length_map, flat_length ls h32, hl]; omega) k (by omega)
          generalize (if cap = k then some ⟨g, off, none⟩ else (some ⟨g, off, none⟩ : Option Addr).map (·.add (k * 32))) = a2 at hs2 r2
          have R2 := Lib.hid r2; clear r2
          have hl1 : (ls.take k).length = k := by simp; omega
          have hl2 : (ls.drop k).length = n - k := by simp; omega
          have m1 : ∀ d ∈ ls.take k, d.length = 32 := fun d hd => h32 d (List.mem_of_mem_take hd)
          have m2 : ∀ d ∈ ls.drop k, d.length = 32 := fun d hd => h32 d (List.mem_of_mem_drop hd)
          rw [← List.map_take, ← flat_take ls h32] at r1
          rw [Nat.mul_comm, ← List.map_drop, ← flat_drop ls h32] at R2
          go_wp2_with fail
          refine (Root_small ls h32 _ n wr (rd_belowB HB.out B1.out (Nat.le_refl _)) hl h3 ((rowAt_below B1.out hg 0 64).trans HT.out)).mono ?_
          rintro e w2 ⟨rfl, hb2⟩
          have B2 := Lib.hid (B1.out.trans (hb2.mono B1.out.size)); clear hb2
          rw [HM.out]
          have hYl := rootM_length _ m1
          have hZl := rootM_length _ m2
          have hXl := nodeM_length (rootM (ls.take k)) (rootM (ls.drop k))
          obtain ⟨Y, hY⟩ : ∃ Y, rootM (ls.take k) = Y := ⟨_, rfl⟩
          obtain ⟨Z, hZ⟩ : ∃ Z, rootM (ls.drop k) = Z := ⟨_, rfl⟩
          rw [hY, hZ] at hXl ⊢
          rw [hY] at hYl
          rw [hZ] at hZl
          have HY := Lib.hid hY; have HZ := Lib.hid hZ; clear hY hZ
          obtain ⟨X, hX⟩ : ∃ X, nodeM Y Z = X := ⟨_, rfl⟩
          rw [hX] at hXl ⊢
          have HX := Lib.hid hX; clear hX
          obtain ⟨n1, n2, n3, n4, n5⟩ := new_dig w2 X hXl
          have B3 := Lib.hid (B2.out.alloc B2.out.size (.cells (dgV X) 25))
          have z3 : w2.heap.size < (w2.alloc (.cells (dgV X) 25)).heap.size := by simp
          unfold zD at n1 n2
          go_wp2_with fail
          clear n1 n2
          generalize w2.alloc (.cells (dgV X) 25) = w3 at n5 B3 z3 ⊢
          refine (Root_small (ls.take k) m1 _ k w3 (rd_belowB r1.out B3.out (Nat.le_refl _)) hl1 (by omega) ((rowAt_below B3.out hg 0 64).trans HT.out)).mono ?_
          rintro e w4 ⟨rfl, hb4⟩
          have d4 := (rowAt_below hb4 z3 0 32).trans n5
          have B4 := Lib.hid (B3.out.trans (hb4.mono B3.out.size)); have z4 := Nat.lt_of_lt_of_le z3 hb4.size; clear hb4
          rw [HY.out]
          obtain ⟨p1, p2, p3, p4, p5⟩ := new_dig w4 Y hYl
          have B5 := Lib.hid (B4.out.alloc B4.out.size (.cells (dgV Y) 25))
          have z5 : w4.heap.size < (w4.alloc (.cells (dgV Y) 25)).heap.size := by simp
          have d5 : rowAt (w4.alloc (.cells (dgV Y) 25)) w2.heap.size 0 32 = some (dgV X) := (rowAt_below ((Below.refl _ _).alloc (Nat.le_refl _) _) z4 0 32).trans d4
          unfold zD at p1 p2
          go_wp2_with fail
          clear p1 p2 n5 d4
          have z5' : w2.heap.size < (w4.alloc (.cells (dgV Y) 25)).heap.size := by omega
          generalize w4.alloc (.cells (dgV Y) 25) = w5 at p5 B5 z5 z5' d5 ⊢
          refine (Root_small (ls.drop k) m2 _ (n - k) w5 (rd_belowB R2.out B5.out (Nat.le_refl _)) hl2 (by omega) ((rowAt_below B5.out hg 0 64).trans HT.out)).mono ?_
          rintro e w6 ⟨rfl, hb6⟩
          have d6 := (rowAt_below hb6 z5' 0 32).trans d5
          have e6 := (rowAt_below hb6 z5 0 32).trans p5
          have B6 := Lib.hid (B5.out.trans (hb6.mono B5.out.size)); have z6 := Nat.lt_of_lt_of_le z5 hb6.size; have z6' := Nat.lt_of_lt_of_le z5' hb6.size; clear hb6
          rw [HZ.out]
          obtain ⟨q1, q2, q3, q4, q5⟩ := new_dig w6 Z hZl
          have B7 := Lib.hid (B6.out.alloc B6.out.size (.cells (dgV Z) 25))
          have z7 : w6.heap.size < (w6.alloc (.cells (dgV Z) 25)).heap.size := by simp
          have d7 : rowAt (w6.alloc (.cells (dgV Z) 25)) w2.heap.size 0 32 = some (dgV X) := (rowAt_below ((Below.refl _ _).alloc (Nat.le_refl _) _) z6' 0 32).trans d6
          have e7 : rowAt (w6.alloc (.cells (dgV Z) 25)) w4.heap.size 0 32 = some (dgV Y) := (rowAt_below ((Below.refl _ _).alloc (Nat.le_refl _) _) z6 0 32).trans e6
          unfold zD at q1 q2
          go_wp2_with fail
          clear q1 q2 d6 e6
          have z7' : w2.heap.size < (w6.alloc (.cells (dgV Z) 25)).heap.size := by omega
          have z7'' : w4.heap.size < (w6.alloc (.cells (dgV Z) 25)).heap.size := by omega
          generalize w6.alloc (.cells (dgV Z) 25) = w7 at q5 B7 z7 z7' z7'' d7 e7 ⊢
          have H8 : Hid (Held3 w w2.heap.size w4.heap.size w6.heap.size X Y Z w7) := ⟨B7.out, ⟨z7', d7⟩, ⟨z7'', e7⟩, ⟨z7, q5⟩⟩
          clear d7 e7 q5 z7 z7' z7'' B7
          have he1 := eql_self X hXl
          refine wp_region_quiet (C := Held3 w w2.heap.size w4.heap.size w6.heap.size X Y Z) (by kernel_rfl) (by kernel_rfl) (H8.out.on (Below.refl _ _).drew) ?_
          iterate 11 quiet_step ((intro _; with_reducible rfl))
          refine wpQuiet_step (fun K hK => ?_)
          rw [if_pos (by rfl)]
          refine quiet_load _ 0 _ rfl (fun w h => h.a.2) (hK _ ?_)
          clear hK K
          refine wpQuiet_step (fun K hK => ?_)
          rw [if_pos (by rfl)]
          refine quiet_load _ 0 _ rfl (fun w h => h.b.2) (hK _ ?_)
          clear hK K
          refine wpQuiet_step (fun K hK => ?_)
          rw [if_pos (by rfl)]
          refine quiet_load _ 0 _ rfl (fun w h => h.d.2) (hK _ ?_)
          clear hK K
          quiet_step ((intro hC; refine (node_any Y Z hYl hZl _ ((rowAt_below hC.below hg 0 64).trans HT.out)).mono ?_; rintro e w9 ⟨rfl, hb9⟩; rw [HX.out]; exact ⟨rfl, hC.on hb9⟩))
          repeat quiet_step ((intro _; with_reducible rfl))
          refine wpQuiet_nil ?_
          intro w9 hw9
          have B9 := Lib.hid hw9.below
          clear hw9
          go_wp2
          go_ret
          exact ⟨rfl, B9.out⟩
    · go_wp2_with fail
      refine (Root_big _ _ _ _ (by omega) k1 k2).mono ?_
      rintro e w2 ⟨rfl, hb2⟩
      have B2 := Lib.hid (B1.out.trans (hb2.mono B1.out.size)); clear hb2
      rw [zD_eq]
      obtain ⟨n1, n2, n3, n4, n5⟩ := new_dig w2 (List.replicate 32 0) (by simp)
      have B3 := Lib.hid (B2.out.alloc B2.out.size (.cells (dgV (List.replicate 32 0)) 25))
      generalize List.replicate 32 (0 : UInt8) = X at n3 n4 n5 B3 ⊢
      unfold zD at n1 n2
      go_wp2_with fail
      have hq1 : ¬ ((n : Int) = 1) := by omega
      have hq2 : ((n : Int) != 1) = true := by rw [bne_iff_ne]; exact hq1
      have hq3 : ((n : Int) == 1) = false := beq_false_of_ne hq1
      clear n1 n2
      go_region
      all_goals
        go_wp2
        go_ret
        exact ⟨rfl, B3.out.drew⟩
  · go_wp2_with fail
    refine (Root_small ls h32 _ n w1 (rd_belowB HB.out B1.out (Nat.le_refl _)) hl (by omega) ((rowAt_below B1.out hg 0 64).trans HT.out)).mono ?_
    rintro e w2 ⟨rfl, hb2⟩
    have B2 := Lib.hid (B1.out.trans (hb2.mono B1.out.size)); clear hb2
    have hXl := rootM_length ls h32
    obtain ⟨X, hX⟩ : ∃ X, rootM ls = X := ⟨_, rfl⟩
    rw [hX] at hXl ⊢
    have HX := Lib.hid hX; clear hX
    obtain ⟨n1, n2, n3, n4, n5⟩ := new_dig w2 X hXl
    have B3 := Lib.hid (B2.out.alloc B2.out.size (.cells (dgV X) 25))
    have z3 : w2.heap.size < (w2.alloc (.cells (dgV X) 25)).heap.size := by simp
    unfold zD at n1 n2
    go_wp2_with fail
    by_cases h1 : n = 1
    · subst h1
      obtain ⟨g, off, rfl, hrows⟩ := rd_digest h32 hl HB.out (by omega)
      have hrow := hrows 0 (by omega)
      obtain ⟨d, rfl⟩ : ∃ d, ls = [d] := by
        match ls, hl with
        | [d], _ => exact ⟨d, rfl⟩
      rw [List.getD_cons_zero, Nat.mul_zero, Nat.add_zero] at hrow
      have hXd : d = X := by rw [← HX.out, rootM_one]
      subst hXd
      have he1 := eql_self d hXl
      have hgw := rowAt_lt hrow
      refine wp_region_quiet (C := Held1 w w2.heap.size d) (by kernel_rfl) (by kernel_rfl) ⟨B3.out.drew, n5⟩ ?_
      clear n1 n2
      iterate 7 quiet_step ((intro _; with_reducible rfl))
      refine wpQuiet_step (fun K hK => ?_)
      rw [if_pos (by rfl)]
      refine quiet_load _ 0 _ rfl (fun w h => h.a) (hK _ ?_)
      clear hK K
      iterate 2 quiet_step ((intro _; with_reducible rfl))
      refine wpQuiet_step (fun K hK => ?_)
      rw [if_pos (by rfl)]
      refine quiet_load g off _ rfl (fun w h => (rowAt_below h.below hgw off 32).trans hrow) (hK _ ?_)
      clear hK K
      repeat quiet_step ((intro _; with_reducible rfl))
      refine wpQuiet_nil ?_
      intro w9 hw9
      have B9 := Lib.hid hw9.below
      clear hw9
      go_wp2
      go_ret
      exact ⟨rfl, B9.out⟩
    · have hq1 : ¬ ((n : Int) = 1) := by omega
      have hq2 : ((n : Int) != 1) = true := by rw [bne_iff_ne]; exact hq1
      have hq3 : ((n : Int) == 1) = false := beq_false_of_ne hq1
      clear n1 n2
      go_region
      all_goals
        go_wp2
        go_ret
        exact ⟨rfl, B3.out.drew⟩
end Go.Proofs.YtamjldakllafcaaDoor
