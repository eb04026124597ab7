/- The walk of tree.Path. Conditions: none beyond each theorem's own. -/
import Derived.Test.YtamjldakllafcaaDoorWay
import Derived.Test.YtamjldakllafcaaDoorTroot
import Derived.Test.YtamjldakllafcaaDoorRev
namespace Go.Proofs.YtamjldakllafcaaDoor
set_option linter.unusedVariables false
set_option linter.unusedSimpArgs false
open Go.RowKit
theorem fill_one (d Z : Array Value) (n : Nat) (hd : d.size = n) (hZ : Z.size = n) : Instr.fill (fun i => some (i * n, n)) Z [(0, .agg d)] = some d := by
  simp only [Instr.fill, Value.cells, hd, Nat.zero_mul]
  rw [← Array.foldl_toList, Array.toList_zipIdx]
  have f1 := fold_set d.toList 0 0 Z (by simp; omega)
  simp only [Nat.zero_add] at f1 ⊢
  rw [f1, if_neg (by simp; omega)]
  congr 1
  apply Array.ext'
  simp only [List.take_zero, List.nil_append]
  rw [List.drop_eq_nil_of_le (by simp; omega), List.append_nil]
theorem run_buildSlice_one (d : Array Value) (hd : d.size = 32) (w : World) :
    (Instr.buildSlice 22 1 #[(0, .agg d)]).run Tryd.prog w = .ok (.slice (some ⟨w.heap.size, 0, none⟩) 1 1) (w.alloc (.cells d 25)) := by
  obtain ⟨i, hi, hz, hs, -⟩ := info_parts' info_dig
  have hf := fun (f : Nat → Value) => fill_one d ((Array.range 32).map f) 32 hd (by simp)
  simp [Instr.buildSlice, run_underlying Tryd.underlying22, sizeOf, typeInfo, zeroValue, hi, hz, hs, hf, newRow, Value.cells]
theorem run_build_one (ev : Operand → Value) (w : World) (dst : Option Tmp) (x : Operand) (type : TypeId) (pos : String) (after : Array Edge) (guard : Option (Nat × Bool))
    (hx : isAggV (ev x) = true) (hsx : (aggCells (ev x)).size = 32) :
    (execOp ev ⟨dst, .buildSlice 22 1 #[(0, x)], type, pos, after, guard⟩).run Tryd.prog w = .ok (.value (.slice (some ⟨w.heap.size, 0, none⟩) 1 1)) (w.alloc (.cells (aggCells (ev x)) 25)) := by
  unfold isAggV at hx
  split at hx
  · rename_i d hd
    rw [hd] at hsx ⊢
    simp only [aggCells] at hsx ⊢
    have := run_buildSlice_one d hsx w
    simp only [execOp, List.map_toArray, List.map_cons, List.map_nil, hd, Sem.run_bind, this]
    rfl
  · cases hx
attribute [local go_sem ↓] run_load_agg run_store_agg run_build_two run_build_one
/-- One digest in a new cell, read as a row of one. -/
theorem rd_new_dig (w : World) (D : List UInt8) (hD : D.length = 32) (g : Nat) (hg : g = w.heap.size) : rd (w.alloc (.cells (dgV D) 25)) (.slice (some ⟨g, 0, none⟩) 1 1) 1 (D.map vB) := by
  subst hg
  have hn := heap_alloc_new w (.cells (dgV D) 25)
  obtain ⟨a, c, e, -, -, h3⟩ := rd_block hn 32 (by rw [dgV_size, hD]) (by decide)
  cases e
  refine ⟨_, _, rfl, Nat.le_refl _, by decide, ?_⟩
  have e2 : D.map vB = (dgV D).toList := by simp [dgV]
  rw [e2]; exact h3

set_option maxHeartbeats 1000000 in
set_option maxRecDepth 100000 in
theorem path_any (ls : List (List UInt8)) (h32 : ∀ d ∈ ls, d.length = 32) (v : Value) (n i : Nat) (w : World) (hb : rd w v n (ls.flatten.map vB)) (hl : ls.length = n) (hn : n ≤ 256) (hi : i < n) (hT : tabAt w) :
    Calls Tryd.prog 19 #[v, .int .i64 i] w fun e w' => ∃ p k, e = .returned (.tuple #[p, .nilIface]) ∧ own w' w.heap.size 25 32 p k ((downM ls i).reverse.flatten.map vB) ∧ k = (downM ls i).length ∧ Below w.heap.size w w' := by
  have hb' := hb
  obtain ⟨ao, cap, rfl, k1, k2, -⟩ := hb'
  unfold maxLen at k2
  have HB := Lib.hid hb; clear hb
  have HT := Lib.hid hT; clear hT
  have hni : ¬ n ≤ i := by omega
  go_enter Tryd.func19, Tryd.ntmps19
  go_wp2
  go_loopg [0, 1, 6] n (fun t s0 s1 s6 wr => ∃ (ls' : List (List UInt8)) (m cur cnt : Nat) (acc : List (List UInt8)), rd w s0 m (ls'.flatten.map vB) ∧ ls'.length = m ∧ (∀ d ∈ ls', d.length = 32) ∧ m ≤ t ∧ m ≤ 256 ∧ cur < m ∧ s1 = .int .i64 cur ∧
    own wr w.heap.size 25 32 s6 cnt (acc.flatten.map vB) ∧ acc.length = cnt ∧ (∀ d ∈ acc, d.length = 32) ∧ cnt + m ≤ n ∧ downM ls i = acc ++ downM ls' cur ∧ Below w.heap.size w wr)
  case atStart => exact ⟨ls, n, i, 0, [], HB.out, hl, h32, Nat.le_refl _, hn, hi, rfl, own_nil _ _ _ _, rfl, by simp, by omega, by simp, Below.refl _ _⟩
  case round =>
    obtain ⟨ls', m, cur, cnt, acc, hr, hl', h32', hmt, hm, hcur, rfl, ho, hacc, ha32, hcnt, hdn, hB⟩ := hrel
    have hr' := hr
    obtain ⟨ao', cap', rfl, j1, j2, -⟩ := hr'
    unfold maxLen at j2
    have HR := Lib.hid hr; have HO := Lib.hid ho; have HD := Lib.hid hdn; have B0 := Lib.hid hB; clear hr ho hdn hB
    by_cases h2 : 2 ≤ m
    · obtain ⟨hh1, hh2, -⟩ := halfM_bounds m h2 hm
      obtain ⟨g, off, rfl, -⟩ := rd_digest h32' hl' HR.out (by omega)
      have HH := Lib.hid (half_any m h2 hm)
      obtain ⟨k, hk⟩ : ∃ k, halfM m = k := ⟨_, rfl⟩
      rw [hk] at hh1 hh2 HH
      have hs1 : ∀ w, (Instr.sliceAt 22 (.slice (some ⟨g, off, none⟩) m cap') none (some (.int .i64 k)) none).run Tryd.prog w = .ok (.slice (some ⟨g, off, none⟩) k cap') w := fun w => run_slice_to _ _ 32 Tryd.underlying22 size_dig g off m cap' k (by omega) j1 w
      have hs2 : ∀ w, (Instr.sliceAt 22 (.slice (some ⟨g, off, none⟩) m cap') (some (.int .i64 k)) none none).run Tryd.prog w = .ok (.slice (if cap' = k then some ⟨g, off, none⟩ else (some ⟨g, off, none⟩ : Option Addr).map (·.add (k * 32))) (m - k) (cap' - k)) w := fun w => run_slice_from' _ _ 32 Tryd.underlying22 size_dig _ m cap' k (by omega) w
      have r1 := Lib.hid (rd_take HR.out k (32 * k) (by omega))
      have r2 := rd_drop HR.out (sz := 32) (by rw [List.length_map, flat_length ls' h32', hl']; omega) k (by omega)
      generalize (if cap' = k then some ⟨g, off, none⟩ else (some ⟨g, off, none⟩ : Option Addr).map (·.add (k * 32))) = a2 at hs2 r2
      have R2 := Lib.hid r2; have HK := Lib.hid hk; clear r2 hk
      go_wp2_with fail
      refine (HH.out wr).mono ?_
      rintro e w' ⟨rfl, rfl⟩
      have hg0 := rowAt_lt HT.out
      have hz : w.heap.size ≤ w'.heap.size := B0.out.size
      have m1 : ∀ d ∈ ls'.take k, d.length = 32 := fun d hd => h32' d (List.mem_of_mem_take hd)
      have m2 : ∀ d ∈ ls'.drop k, d.length = 32 := fun d hd => h32' d (List.mem_of_mem_drop hd)
      have l1 : (ls'.take k).length = k := by simp; omega
      have l2 : (ls'.drop k).length = m - k := by simp; omega
      have R1 : Hid (rd w (.slice (some ⟨g, off, none⟩) k cap') k ((ls'.take k).flatten.map vB)) := by
        have := r1.out; rwa [← List.map_take, ← flat_take ls' h32'] at this
      have R2' : Hid (rd w (.slice a2 (m - k) (cap' - k)) (m - k) ((ls'.drop k).flatten.map vB)) := by
        have := R2.out; rwa [Nat.mul_comm, ← List.map_drop, ← flat_drop ls' h32'] at this
      clear r1 R2
      have HT1 : Hid (tabAt w') := (rowAt_below B0.out hg0 0 64).trans HT.out
      obtain ⟨i0, hi0, hz0, hz1, hz2⟩ := info_parts' info_dig
      by_cases hc : cur < k
      · go_wp2_with fail
        refine (root_any (m - k) (ls'.drop k) m2 _ (m - k) w' (Nat.le_refl _) (rd_belowB R2'.out B0.out (Nat.le_refl _)) l2 (by omega) HT1.out).mono ?_
        rintro e w1 ⟨rfl, hb1⟩
        have B1 := Lib.hid (B0.out.trans (hb1.mono hz))
        have HO1 := Lib.hid (own_below hb1 HO.out (Nat.le_refl _)); clear hb1
        obtain ⟨X, hX⟩ : ∃ X, rootM (ls'.drop k) = X := ⟨_, rfl⟩
        have lX : X.length = 32 := by rw [← hX]; exact rootM_length _ m2
        rw [hX]
        have sX : (dgV X).size = 32 := by rw [dgV_size, lX]
        have HX := Lib.hid hX; clear hX
        have B2 := Lib.hid (B1.out.alloc B1.out.size (.cells (dgV X) 25))
        have HO2 := Lib.hid (own_alloc HO1.out (.cells (dgV X) 25))
        have HN := Lib.hid (rd_new_dig w1 X lX _ rfl)
        go_wp2_with (at_builtin; refine wpList_append_rd rfl (.tmp 30) (.tmp 35) 22 rfl 25 i0 (.agg zD) 32 32 Tryd.underlying22 hi0 hz0 hz1 hz2 zD_size (by decide) w.heap.size cnt _ HO2.out 1 (X.map vB) ?c1 HN.out (vB_plain _) ?c2 ?c3 ?c4 ?_)
        case c1 => simp [lX]
        case c2 => unfold maxLen; omega
        case c3 => omega
        case c4 => exact B2.out.size
        intro v1 w2 ho1 _ hg1
        have B3 := Lib.hid (B2.out.grown hg1 B2.out.size (fun q hq => (own_lt HO2.out hq).1))
        have HO3 := Lib.hid ho1; clear ho1 hg1
        go_wp2_with fail
        go_roundg k
        case measure => omega
        case rel =>
          refine ⟨ls'.take k, k, cur, cnt + 1, acc ++ [X], R1.out, l1, m1, Nat.le_refl _, by omega, hc, rfl, ?_, by simp [hacc], ?_, by omega, ?_, B3.out⟩
          · have e := HO3.out
            have e2 : (acc ++ [X]).flatten.map vB = (acc.map (List.map vB)).flatten ++ X.map vB := by simp
            rw [e2]; exact e
          · intro d hd
            rcases List.mem_append.1 hd with h | h
            · exact ha32 d h
            · rw [List.mem_singleton.1 h]; exact lX
          · rw [HD.out, downM_left ls' cur (by omega) (by omega) (by rw [hl', HK.out]; exact hc), hl', HK.out, HX.out]; simp
      · go_wp2_with fail
        refine (root_any k (ls'.take k) m1 _ k w' (Nat.le_refl _) (rd_belowB R1.out B0.out (Nat.le_refl _)) l1 (by omega) HT1.out).mono ?_
        rintro e w1 ⟨rfl, hb1⟩
        have B1 := Lib.hid (B0.out.trans (hb1.mono hz))
        have HO1 := Lib.hid (own_below hb1 HO.out (Nat.le_refl _)); clear hb1
        obtain ⟨X, hX⟩ : ∃ X, rootM (ls'.take k) = X := ⟨_, rfl⟩
        have lX : X.length = 32 := by rw [← hX]; exact rootM_length _ m1
        rw [hX]
        have sX : (dgV X).size = 32 := by rw [dgV_size, lX]
        have HX := Lib.hid hX; clear hX
        have B2 := Lib.hid (B1.out.alloc B1.out.size (.cells (dgV X) 25))
        have HO2 := Lib.hid (own_alloc HO1.out (.cells (dgV X) 25))
        have HN := Lib.hid (rd_new_dig w1 X lX _ rfl)
        go_wp2_with (at_builtin; refine wpList_append_rd rfl (.tmp 40) (.tmp 45) 22 rfl 25 i0 (.agg zD) 32 32 Tryd.underlying22 hi0 hz0 hz1 hz2 zD_size (by decide) w.heap.size cnt _ HO2.out 1 (X.map vB) ?c1 HN.out (vB_plain _) ?c2 ?c3 ?c4 ?_)
        case c1 => simp [lX]
        case c2 => unfold maxLen; omega
        case c3 => omega
        case c4 => exact B2.out.size
        intro v1 w2 ho1 _ hg1
        have B3 := Lib.hid (B2.out.grown hg1 B2.out.size (fun q hq => (own_lt HO2.out hq).1))
        have HO3 := Lib.hid ho1; clear ho1 hg1
        go_wp2_with fail
        all_goals
          go_roundg (m - k)
          case measure => omega
          case rel =>
            refine ⟨ls'.drop k, m - k, cur - k, cnt + 1, acc ++ [X], R2'.out, l2, m2, Nat.le_refl _, by omega, by omega, by go_num, ?_, by simp [hacc], ?_, by omega, ?_, B3.out⟩
            · have e := HO3.out
              have e2 : (acc ++ [X]).flatten.map vB = (acc.map (List.map vB)).flatten ++ X.map vB := by simp
              rw [e2]; exact e
            · intro d hd
              rcases List.mem_append.1 hd with h | h
              · exact ha32 d h
              · rw [List.mem_singleton.1 h]; exact lX
            · rw [HD.out, downM_right ls' cur (by omega) (by omega) (by rw [hl', HK.out]; exact hc), hl', HK.out, HX.out]; simp
    · go_wp2_with fail
      refine (rev_any w.heap.size acc ha32 _ cnt wr HO.out hacc (by omega)).mono ?_
      rintro e w1 ⟨rfl, ho1, hg1⟩
      have B3 := Lib.hid (B0.out.grown hg1 B0.out.size (fun q hq => (own_lt HO.out hq).1))
      have hdn : downM ls i = acc := by rw [HD.out, downM_one _ _ (by omega), List.append_nil]
      have HDN := Lib.hid hdn
      have HO3 := Lib.hid ho1; clear ho1 hg1 hdn
      go_wp2
      go_ret2
      exact ⟨_, _, rfl, by rw [HDN.out]; exact HO3.out, by rw [HDN.out]; exact hacc.symm, B3.out⟩
end Go.Proofs.YtamjldakllafcaaDoor
