/- The walk of sha's Hasher.Sum. Conditions: none beyond each theorem's own. -/
import Derived.Test.YtamjldakllafcaaDoorHash
namespace Go.Proofs.YtamjldakllafcaaDoor
set_option linter.unusedVariables false
set_option linter.unusedSimpArgs false
open Go.RowKit
attribute [local go_sem ↓] run_load_agg run_store_agg

/-- A digest's cells. -/
def dgV (d : List UInt8) : Array Value := (d.map vB).toArray
theorem dgV_size (d : List UInt8) : (dgV d).size = d.length := by simp [dgV]
def zD : Array Value := #[.int .u8 0, .int .u8 0, .int .u8 0, .int .u8 0, .int .u8 0, .int .u8 0, .int .u8 0, .int .u8 0, .int .u8 0, .int .u8 0, .int .u8 0, .int .u8 0, .int .u8 0, .int .u8 0, .int .u8 0, .int .u8 0, .int .u8 0, .int .u8 0, .int .u8 0, .int .u8 0, .int .u8 0, .int .u8 0, .int .u8 0, .int .u8 0, .int .u8 0, .int .u8 0, .int .u8 0, .int .u8 0, .int .u8 0, .int .u8 0, .int .u8 0, .int .u8 0]
theorem zD_eq : zD = dgV (List.replicate 32 0) := by rfl
/-- In Sum: the digest's block, and all that was. -/
structure SmI (w : World) (wr : World) : Prop where
  below : Below w.heap.size w wr
  d0 : wr.heap[w.heap.size]? = some (.cells (dgV (List.replicate 32 0)) 25 (0, 0))
theorem SmI.grown {w wr w1 : World} (h : SmI w wr) {row : Option Nat} (hg : wr.grownBy w1 row) (hr : ∀ k, row = some k → w.heap.size + 1 ≤ k) : SmI w w1 := by
  have hl := (Array.getElem?_eq_some_iff.1 h.d0).1
  exact ⟨h.below.grown hg (by omega) (fun k hk => by have := hr k hk; omega), by rw [hg.block _ hl (fun e => by have := hr _ e.symm; omega)]; exact h.d0⟩
theorem SmI.alloc {w wr : World} (h : SmI w wr) (o : Obj) : SmI w (wr.alloc o) := by
  have hl := (Array.getElem?_eq_some_iff.1 h.d0).1
  exact ⟨h.below.alloc (by omega) o, by rw [Below.heap_alloc _ _ _ hl]; exact h.d0⟩

theorem SmI.start (w : World) : SmI w (w.alloc (.cells zD 25)) :=
  ⟨(Below.refl _ _).alloc (Nat.le_refl _) _, by rw [← zD_eq]; exact heap_alloc_new w _⟩
theorem own_rows {w : World} {base : Nat} {e : TypeId} {sz : Nat} {v : Value} {n : Nat} {xs : List Value} (h : own w base e sz v n xs) : ∀ k, wrow v = some k → base ≤ k := fun _ hk => (own_lt h hk).1
theorem len_val (n k : Nat) : (n : Int) * 8 / 2 ^ (8 * (7 - k)) % 256 = bv (lenByte n k) := by
  unfold bv lenByte
  rw [UInt8.toNat_ofNat']
  simp
/-- .. and the working state's block. -/
structure SmJ (w : World) (C : Nat) (x : St) (wr : World) : Prop where
  s : SmI w wr
  lt : w.heap.size < C
  c0 : wr.heap[C]? = some (.cells (stV x) 69 (0, 0))
theorem SmI.start2 {w wr : World} (h : SmI w wr) (x : St) : SmJ w wr.heap.size x (wr.alloc (.cells (stV x) 69)) :=
  ⟨h.alloc _, (Array.getElem?_eq_some_iff.1 h.d0).1, heap_alloc_new _ _⟩
theorem SmJ.step {w wr w1 : World} {C : Nat} {x : St} (h : SmJ w C x wr) (hb : Below wr.heap.size wr w1) (y : St) : SmJ w C y (putAt w1 C 0 (stV y)) := by
  have hl := (Array.getElem?_eq_some_iff.1 h.s.d0).1
  have hc := (Array.getElem?_eq_some_iff.1 h.c0).1
  have hlt := h.lt
  have e : w1.heap[C]? = some (.cells (stV x) 69 (0, 0)) := (hb.block C hc).trans h.c0
  refine ⟨⟨putAt_below (h.s.below.trans (hb.mono (by omega))) (by omega) _ _, ?_⟩, h.lt, putAt_heap e _ ((stV_size _).trans (stV_size _).symm)⟩
  rw [putAt_other _ _ _ _ _ (by omega), hb.block _ hl]
  exact h.s.d0
/-- The first n bytes of a digest, and zeros. -/
def dgP (F : St) (n : Nat) : List UInt8 := (List.range 32).map fun j => if j < n then stByte F j else 0
theorem dgP_length (F : St) (n : Nat) : (dgP F n).length = 32 := by simp [dgP]
theorem dgP_zero (F : St) : dgP F 0 = List.replicate 32 0 := by
  unfold dgP; simp only [Nat.not_lt_zero, if_false]; rfl
theorem dgP_done (F : St) : dgP F 32 = digestM F := by
  unfold dgP digestM; exact List.map_congr_left fun j hj => if_pos (List.mem_range.1 hj)
theorem dgP_set (F : St) (n : Nat) : (dgV (dgP F n)).setIfInBounds n (.int .u8 (bv (stByte F n))) = dgV (dgP F (n + 1)) := by
  apply Array.ext'
  simp only [dgV, dgP, List.map_map, Array.toList_setIfInBounds]
  apply List.ext_getElem
  · simp
  · intro j h1 h2
    simp only [List.getElem_set, List.getElem_map, List.getElem_range, Function.comp]
    by_cases hj : n = j
    · subst hj; simp [vB]
    · rw [if_neg hj]
      by_cases h3 : j < n
      · rw [if_pos h3, if_pos (by omega)]
      · rw [if_neg h3, if_neg (by omega)]
theorem dgV_plain (d : List UInt8) : plainCells (dgV d) = true := by
  simp only [plainCells, dgV, List.all_eq_true]
  exact vB_plain d
theorem index_stV (F : St) (m : Nat) (h : m < 8) (w : World) : (Instr.index 69 (.agg (stV F)) (.int .i64 (m : Int))).run Tryd.prog w = .ok (.int .u32 (wv (stWord F m))) w := by
  have hk := stV_get F m h
  have h1 : (0 : Int) ≤ m := by omega
  have h2 : (m : Int) < 8 := by omega
  simp [Instr.index, go_sem, h1, hk]
  intro h3; omega
theorem dgV_get (d : List UInt8) (j : Nat) (h : j < d.length) : (dgV d)[j]? = some (.int .u8 (bv (d.getD j 0))) := by
  simp [dgV, List.getD_eq_getElem?_getD, List.getElem?_eq_getElem h, vB]
theorem byte_val (F : St) (m k : Nat) (hm : m < 8) (hk : k < 4) : wv (stWord F m) / (2 ^ (24 - 8 * k) : Nat) % 256 = bv (stByte F (4 * m + k)) := by
  unfold stByte
  rw [show (4 * m + k) / 4 = m from by omega, show (4 * m + k) % 4 = k from by omega, ← bv_low, ← wv_shr _ _ (by omega), IntKind.wrap_u8']
structure SmK (w : World) (F : St) (n : Nat) (wr : World) : Prop where
  below : Below w.heap.size w wr
  d0 : wr.heap[w.heap.size]? = some (.cells (dgV (dgP F n)) 25 (0, 0))
theorem SmK.start {w wr : World} (h : SmI w wr) (F : St) : SmK w F 0 wr := ⟨h.below, by rw [dgP_zero]; exact h.d0⟩
theorem SmK.set {w wr : World} {F : St} {n : Nat} (h : SmK w F n wr) : SmK w F (n + 1) (wr.setCell ⟨w.heap.size, n, none⟩ (.int .u8 (bv (stByte F n)))) :=
  ⟨h.below.setCell (Nat.le_refl _) _, by rw [heap_setCell_same _ _ _ _ _ _ h.d0, dgP_set]⟩
theorem SmK.drewN {w wr : World} {F : St} {n : Nat} (h : SmK w F n wr) (k : Nat) : SmK w F n (wr.drewN k) := ⟨below_drewN h.below k, h.d0⟩
/-- How many zeros are still wanted. -/
theorem pad_more (q j : Nat) (hq : q < 64) (h : j < (119 - q) % 64) : (((q + 1 + j : Nat) : Int) % 64 != 56) = true := by
  rw [bne_iff_ne]; omega
theorem pad_done (q j : Nat) (hq : q < 64) (h : j = (119 - q) % 64) : (((q + 1 + j : Nat) : Int) % 64 != 56) = false := by
  rw [bne_eq_false_iff_eq]; omega

set_option maxHeartbeats 1000000 in
set_option maxRecDepth 100000 in
theorem sum_any (base g : Nat) (l : List UInt8) (r : Value) (w : World) (hH : HasI w base g l r) (hlen : l.length ≤ 140737488353000) (hT : tabAt w) :
    Calls Tryd.prog 45 #[.pointer (some ⟨g, 0, none⟩)] w fun e w' => e = .returned (.agg (dgV (shaM l))) ∧ Below w.heap.size w w' := by
  obtain ⟨hblk, hrest, hge⟩ := hH
  have hgl := (Array.getElem?_eq_some_iff.1 hblk).1
  have hr' := hrest
  obtain ⟨-, ro, rc, rfl, r1, r2, -⟩ := hr'
  have c8 : w.cell? ⟨g, 8, none⟩ = some (.slice ro (l.length % 64) rc) := by rw [cell_of_row _ _ _ _ _ _ hblk]; rfl
  generalize hst : blocksM St0 l (l.length / 64) = st at hblk
  have Hst := Lib.hid hst; clear hst
  obtain ⟨R, hR⟩ : ∃ R, l.drop (64 * (l.length / 64)) = R := ⟨_, rfl⟩
  obtain ⟨q, hq⟩ : ∃ q, l.length % 64 = q := ⟨_, rfl⟩
  have hRl : R.length = q := by rw [← hR, ← hq, List.length_drop]; omega
  rw [hR, hq] at hrest
  have HB := Lib.hid hblk; have HR := Lib.hid hrest; have HT := Lib.hid hT; have HR0 := Lib.hid hR; have HRl := Lib.hid hRl
  clear hblk hrest hT hR hRl
  unfold maxLen at r2
  have hq64 : q < 64 := by omega
  rw [hq] at c8 r1
  have HQ := Lib.hid hq; clear hq
  obtain ⟨i0, hi0, hz0, hz1, hz2⟩ := info_parts info_u8
  go_enter Tryd.func45, Tryd.ntmps45
  go_wp2_with (at_builtin; refine wpList_append_rd rfl (.const (.slice none 0 0)) (.tmp 12) 32 rfl 5 i0 (.int .u8 0) 1 1 Tryd.underlying32 hi0 hz0 hz1 hz2 rfl (by decide) (w.heap.size + 1) 0 [] (own_nil _ _ _ _) q (R.map vB) ?c1 (rd_alloc (own_rd HR.out) _) (vB_plain _) ?c2 ?c3 ?c4 ?_)
  case c1 => have := HRl.out; simp [this]
  case c2 => unfold maxLen; omega
  case c3 => omega
  case c4 => simp
  intro v1 w1 ho1 _ hg1
  have ho1 : own w1 (w.heap.size + 1) 5 1 v1 q (R.map vB) := by simpa using ho1
  have HS1 := Lib.hid (SmI.grown (SmI.start w) hg1 (fun k hk => by cases hk))
  clear hg1
  go_wp2_with (at_builtin; refine wpList_append_rd rfl (.tmp 14) (.tmp 15) 32 rfl 5 i0 (.int .u8 0) 1 1 Tryd.underlying32 hi0 hz0 hz1 hz2 rfl (by decide) (w.heap.size + 1) q (R.map vB) (own_alloc ho1 _) 1 [vB 128] ?d1 (rd_new1 _ _ _ _ rfl) (vB_plain [128]) ?d2 ?d3 ?d4 ?_)
  case d1 => rfl
  case d2 => unfold maxLen; omega
  case d3 => omega
  case d4 => have := HS1.out.below.size; have := (Array.getElem?_eq_some_iff.1 HS1.out.d0).1; simp; omega
  intro v2 w2 ho2 _ hg2
  have HS2 := Lib.hid (SmI.grown (HS1.out.alloc _) hg2 (fun k hk => own_rows ho1 k hk))
  have ho2 : own w2 (w.heap.size + 1) 5 1 v2 (q + 1) ((R ++ 128 :: List.replicate 0 0).map vB) := by simpa using ho2
  clear hg2 ho1 HS1
  have HO2 := Lib.hid ho2; clear ho2
  go_wp2_with fail
  go_loopg [3] ((119 - q) % 64) (fun k t wr => ∃ j : Nat, j + k = (119 - q) % 64 ∧ own wr (w.heap.size + 1) 5 1 t (q + 1 + j) ((R ++ 128 :: List.replicate j 0).map vB) ∧ SmI w wr)
  case atStart => exact ⟨0, by omega, HO2.out, HS2.out⟩
  case round =>
    obtain ⟨j, hjk, ho, hS⟩ := hrel
    have ho' := ho
    obtain ⟨-, a3, cap3, rfl, p1, p2, -⟩ := ho'
    unfold maxLen at p2
    have HO := Lib.hid ho; have HSr := Lib.hid hS; clear ho hS
    by_cases hj : j < (119 - q) % 64
    · have hm := pad_more q j hq64 hj
      obtain ⟨N, hN⟩ : ∃ N, q + 1 + j = N := ⟨_, rfl⟩
      rw [hN] at hm p1
      have HO3 := HO.out
      rw [hN] at HO3
      rw [hN]
      have HN := Lib.hid hN; clear hN
      have HO4 := Lib.hid HO3; clear HO3
      have hNb : N ≤ 1000 := by have := HN.out; omega
      go_wp2_with (at_builtin; refine wpList_append_rd rfl (.tmp 21) (.tmp 22) 32 rfl 5 i0 (.int .u8 0) 1 1 Tryd.underlying32 hi0 hz0 hz1 hz2 rfl (by decide) (w.heap.size + 1) N _ (own_alloc HO4.out _) 1 [vB 0] ?f1 (rd_new1 _ _ _ _ rfl) (vB_plain [0]) ?f2 ?f3 ?f4 ?_)
      case f1 => rfl
      case f2 => unfold maxLen; omega
      case f3 => omega
      case f4 => have := HSr.out.below.size; have := (Array.getElem?_eq_some_iff.1 HSr.out.d0).1; simp; omega
      intro v3 w3 ho3 _ hg3
      have HS3 := Lib.hid (SmI.grown (HSr.out.alloc _) hg3 (fun k hk => own_rows HO4.out k hk))
      have HO5 := Lib.hid ho3; clear ho3 hg3
      go_wp2
      go_roundg (gk - 1)
      case rel =>
        refine ⟨j + 1, by omega, ?_, HS3.out⟩
        have e := HO5.out
        have e1 := HN.out
        rw [show q + 1 + (j + 1) = N + 1 from by omega, List.replicate_succ']
        simpa using e
      case measure => omega
    · have hjz : j = (119 - q) % 64 := by omega
      have hm := pad_done q j hq64 hjz
      obtain ⟨N, hN⟩ : ∃ N, q + 1 + j = N := ⟨_, rfl⟩
      have HO3 := HO.out
      rw [hN] at hm p1 HO3
      rw [hN]
      have hNb : N ≤ 120 := by omega
      have HZ := Lib.hid hjz; clear hjz
      have HN := Lib.hid hN; clear hN
      obtain ⟨T, hT⟩ : ∃ T, R ++ 128 :: List.replicate j 0 = T := ⟨_, rfl⟩
      rw [hT] at HO3
      have HTT := Lib.hid hT; clear hT
      have HO4 := Lib.hid HO3; clear HO3 hjk
      go_wp2_with fail
      obtain ⟨wa, rfl⟩ : ∃ wa : World, wa = wr := ⟨_, rfl⟩
      go_loopw [3, 4] (fun t i wr => ∃ k : Nat, k ≤ 8 ∧ i = .int .i64 (7 - (k : Int)) ∧ own wr (w.heap.size + 1) 5 1 t (N + k) ((T ++ (List.range k).map (lenByte l.length)).map vB) ∧ SmI w wr) (fun _ i _ => (intOf i + 1).toNat)
      case atStart => exact ⟨0, by omega, rfl, by simpa using HO4.out, HSr.out⟩
      case round =>
        obtain ⟨k, hk8, rfl, ho, hS⟩ := hrel
        have ho' := ho
        obtain ⟨-, a4, cap4, rfl, s1, s2, -⟩ := ho'
        unfold maxLen at s2
        by_cases hk : k < 8
        · have c9 : wr.cell? ⟨g, 9, none⟩ = some (.int .i64 l.length) := by
            rw [hS.below.cell hgl, cell_of_row _ _ _ _ _ _ HB.out]; rfl
          have HO6 := Lib.hid ho; have HS6 := Lib.hid hS; clear ho hS
          go_wp2_with (at_builtin; refine wpList_append_rd rfl (.tmp 28) (.tmp 39) 32 rfl 5 i0 (.int .u8 0) 1 1 Tryd.underlying32 hi0 hz0 hz1 hz2 rfl (by decide) (w.heap.size + 1) (N + k) _ (own_alloc HO6.out _) 1 _ ?g1 (rd_new1 _ _ _ _ rfl) ?g5 ?g2 ?g3 ?g4 ?_)
          case g1 => rfl
          case g5 => intro u hu; simp at hu; subst hu; rfl
          case g2 => unfold maxLen; omega
          case g3 => omega
          case g4 => have := HS6.out.below.size; have := (Array.getElem?_eq_some_iff.1 HS6.out.d0).1; simp; omega
          intro v5 w5 ho5 _ hg5
          have HS7 := Lib.hid (SmI.grown (HS6.out.alloc _) hg5 (fun k hk => own_rows HO6.out k hk))
          rw [len_val] at ho5
          have HO7 := Lib.hid ho5; clear ho5 hg5
          go_wp2
          go_roundw
          case rel =>
            refine ⟨k + 1, by omega, by go_num, ?_, HS7.out⟩
            have e := HO7.out
            rw [List.range_succ]
            simpa [vB, Nat.add_assoc] using e
          case measure => simp [intOf]; omega
        · obtain rfl : k = 8 := by omega
          obtain ⟨P, hP⟩ : ∃ P, T ++ (List.range 8).map (lenByte l.length) = P := ⟨_, rfl⟩
          rw [hP] at ho
          have hPR : P = R ++ padTail l.length := by
            have e1 := HZ.out; have e2 := HQ.out
            rw [← hP, ← HTT.out, e1, padTail, padZ, e2, List.append_assoc, List.cons_append]
          clear hP
          have HP := Lib.hid hPR; clear hPR
          obtain ⟨M, hM⟩ : ∃ M, N + 8 = M := ⟨_, rfl⟩
          rw [hM] at s1 ho
          rw [hM]
          have hMm : M % 64 = 0 := by have e1 := HN.out; have e2 := HZ.out; omega
          have HM := Lib.hid hM; clear hM
          have HO8 := Lib.hid ho; have HS8 := Lib.hid hS; clear ho hS
          have hrow : rowAt wr g 0 8 = some (stV st) := by
            rw [rowAt_below HS8.out.below hgl, rowAt_of_heap HB.out 0 8 (by rw [hasV_size]; omega)]; rfl
          have hgl' : g < wr.heap.size := rowAt_lt hrow
          obtain ⟨i7, hi7⟩ : ∃ x : Int, (7 - ((8 : Nat) : Int)) = x := ⟨_, rfl⟩
          rw [hi7]
          have hneg : i7 < 0 := by omega
          clear hi7
          go_wp2_with fail
          obtain ⟨wb, rfl⟩ : ∃ wb : World, wb = wr := ⟨_, rfl⟩
          clear hrow hgl' hm
          go_loopg [3] (M / 64) (fun k t wr => ∃ i : Nat, i + k = M / 64 ∧ own wr (w.heap.size + 1) 5 1 t (M - 64 * i) ((P.drop (64 * i)).map vB) ∧ SmJ w wb.heap.size (blocksM st P i) wr)
          case atStart => exact ⟨0, by omega, by simpa using own_alloc HO8.out _, by rw [blocksM_zero]; exact HS8.out.start2 st⟩
          case round =>
            obtain ⟨i, hik, ho, hS⟩ := hrel
            obtain ⟨nn, hnn⟩ : ∃ nn, M - 64 * i = nn := ⟨_, rfl⟩
            rw [hnn] at ho
            have ho' := ho
            obtain ⟨-, a5, cap5, rfl, y1, y2, -⟩ := ho'
            unfold maxLen at y2
            by_cases hgk : 0 < gk
            · have h64 : 64 ≤ nn := by omega
              have hrow : rowAt wr wb.heap.size 0 8 = some (stV (blocksM st P i)) := rowAt_whole hS.c0 8 (stV_size _).symm
              have HX := Lib.hid (blocksM_succ st P i)
              obtain ⟨X, hX⟩ : ∃ X, blocksM st P i = X := ⟨_, rfl⟩
              rw [hX] at hrow hS
              have HX2 := Lib.hid hX; clear hX
              have HO9 := Lib.hid ho; have HS9 := Lib.hid hS; have HNN := Lib.hid hnn
              have hPl : (P.drop (64 * i)).length = nn := by have := ho.1; simpa using this
              have HPl := Lib.hid hPl
              have hT2 : Hid (tabAt wr) := (rowAt_below hS.s.below (rowAt_lt HT.out) 0 64).trans HT.out
              have hCl : wb.heap.size < wr.heap.size := (Array.getElem?_eq_some_iff.1 hS.c0).1
              clear ho hS hnn hPl
              go_wp2_with fail
              refine (block_any X (P.drop (64 * i)) _ nn _ h64 HPl.out (own_rd HO9.out) hT2.out).mono ?_
              rintro e w' ⟨rfl, hb2⟩
              have q1 : (rowAt w' wb.heap.size 0 8).isSome = true := by rw [rowAt_below hb2 hCl 0 8, hrow]; rfl
              have q2 : wrAt w' wb.heap.size = true := by rw [wrAt_below hb2 hCl]; exact wrAt_of_heap HS9.out.c0
              have hC0 : w'.heap[wb.heap.size]? = some (.cells (stV X) 69 (0, 0)) := (hb2.block _ hCl).trans HS9.out.c0
              obtain ⟨W2, hW2⟩ : ∃ W2, putAt w' wb.heap.size 0 (stV (blockM X (P.drop (64 * i)))) = W2 := ⟨_, rfl⟩
              have k1 : own W2 (w.heap.size + 1) 5 1 (.slice a5 nn cap5) nn ((P.drop (64 * i)).map vB) := own_kept HO9.out (fun k hk hk' hk'' => by
                rw [← hW2, putAt_other _ _ _ _ _ (fun e => own_ne HO9.out HS9.out.c0 (by decide) (by rw [← e]; exact hk))]; exact hb2.block k hk'')
              have k2 := own_cut k1 64 h64
              have k3 := Lib.hid (HS9.out.step hb2 (blockM X (P.drop (64 * i))))
              rw [hW2] at k3
              have hsl : ∀ w, (Instr.sliceAt 32 (.slice a5 nn cap5) (some (.int .i64 64)) none none).run Tryd.prog w = .ok (.slice (if cap5 = 64 then a5 else a5.map (·.add (64 * 1))) (nn - 64) (cap5 - 64)) w := fun w => run_slice_from (P := Tryd.prog) 32 5 1 Tryd.underlying32 (by rw [hi0]; simp [hz1]) a5 nn cap5 64 h64 w
              generalize (if cap5 = 64 then a5 else a5.map (·.add (64 * 1))) = a6 at hsl k2
              have H2 := Lib.hid k2
              clear k2 k1 hC0 hb2
              have HW2 := Lib.hid hW2; clear hW2
              go_wp2
              go_roundg (gk - 1)
              case rel =>
                rw [HW2.out]
                refine ⟨i + 1, by omega, ?_, ?_⟩
                · have e0 := HNN.out
                  have e1 : M - 64 * (i + 1) = nn - 64 := by omega
                  rw [e1, show 64 * (i + 1) = 64 * i + 64 * 1 from by omega, ← List.drop_drop, List.map_drop]
                  exact H2.out
                · rw [HX.out, HX2.out]; exact k3.out
              case measure => omega
            · obtain rfl : nn = 0 := by omega
              obtain ⟨F, hF⟩ : ∃ F, blocksM st P i = F := ⟨_, rfl⟩
              rw [hF] at hS
              have hfin : shaM l = digestM F := by
                have e1 := HP.out; have e2 := HR0.out; have e3 := HM.out; have e4 := HN.out; have e5 := HZ.out; have e6 := HQ.out; have e7 := HRl.out
                have e8 : P.length = M := by
                  rw [e1, List.length_append, e7]
                  simp only [padTail, padZ, List.length_cons, List.length_append, List.length_replicate, List.length_map, List.length_range]; omega
                have e9 : (padM l).length = l.length + (padTail l.length).length := by rw [padM, List.length_append]
                have e10 : (padM l).length / 64 = l.length / 64 + i := by
                  rw [e9]
                  have : P.length = q + (padTail l.length).length := by rw [e1, List.length_append, e7]
                  omega
                rw [shaM_eq, e10, padM, blocks_app, Hst.out, e2, ← e1, hF]
              have HF := Lib.hid hfin
              have HS9 := Lib.hid hS
              have hrow : rowAt wr wb.heap.size 0 8 = some (stV F) := rowAt_whole hS.c0 8 (stV_size _).symm
              have HD := Lib.hid (SmK.start hS.s F)
              clear hfin ho hS hF hgk
              go_wp2_with fail
              obtain ⟨wc, rfl⟩ : ∃ wc : World, wc = wr := ⟨_, rfl⟩
              clear hrow HS9
              go_loopw [54] (fun c wr => ∃ m : Nat, m ≤ 8 ∧ c = .int .i64 m ∧ SmK w F (4 * m) wr) (fun c _ => 8 - (intOf c).toNat)
              case atStart => exact ⟨0, by omega, rfl, HD.out⟩
              case round =>
                obtain ⟨m, hm8, rfl, hD⟩ := hrel
                by_cases hm : m < 8
                · have hix := index_stV F m hm
                  obtain ⟨x, hx⟩ : ∃ x, stWord F m = x := ⟨_, rfl⟩
                  rw [hx] at hix
                  have HX := Lib.hid hx; clear hx
                  have HD1 := Lib.hid hD; clear hD
                  go_wp2_with fail
                  obtain ⟨wd, rfl⟩ : ∃ wd : World, wd = wr := ⟨_, rfl⟩
                  go_loopw [58] (fun c wr => ∃ k : Nat, k ≤ 4 ∧ c = .int .i64 k ∧ SmK w F (4 * m + k) wr) (fun c _ => 4 - (intOf c).toNat)
                  case atStart => exact ⟨0, by omega, rfl, HD1.out⟩
                  case round =>
                    obtain ⟨k, hk4, rfl, hD⟩ := hrel
                    by_cases hk : k < 4
                    · have hby := byte_val F m k hm hk
                      rw [HX.out] at hby
                      have hcl : wr.cell? ⟨w.heap.size, 4 * m + k, none⟩ = some (.int .u8 (bv ((dgP F (4 * m + k)).getD (4 * m + k) 0))) := by
                        rw [cell_of_row _ _ _ _ _ _ hD.d0, dgV_get _ _ (by rw [dgP_length]; omega)]
                      generalize (dgP F (4 * m + k)).getD (4 * m + k) 0 = z at hcl
                      have hfr : wr.frozen? ⟨w.heap.size, 4 * m + k, none⟩ = false := frozen_of_row _ _ _ _ _ hD.d0
                      have HD2 := Lib.hid hD; clear hD
                      have HBY := Lib.hid hby; clear hby
                      obtain rfl | rfl | rfl | rfl : k = 0 ∨ k = 1 ∨ k = 2 ∨ k = 3 := by omega
                      · simp only [Nat.add_zero] at hcl hfr HBY HD2
                        have he : wv x / 16777216 % 256 = bv (stByte F (4 * m + 0)) := by have := HBY.out; simpa using this
                        have HE := Lib.hid he; clear he
                        go_wp2
                        go_roundw
                        case rel => exact ⟨1, by omega, rfl, by rw [HE.out]; exact HD2.out.set⟩
                        case measure => simp [intOf]
                      · have he : wv x / 65536 % 256 = bv (stByte F (4 * m + 1)) := by have := HBY.out; simpa using this
                        have HE := Lib.hid he; clear he
                        go_wp2
                        go_roundw
                        case rel => exact ⟨2, by omega, rfl, by rw [HE.out]; exact HD2.out.set⟩
                        case measure => simp [intOf]
                      · have he : wv x / 256 % 256 = bv (stByte F (4 * m + 2)) := by have := HBY.out; simpa using this
                        have HE := Lib.hid he; clear he
                        go_wp2
                        go_roundw
                        case rel => exact ⟨3, by omega, rfl, by rw [HE.out]; exact HD2.out.set⟩
                        case measure => simp [intOf]
                      · have he : wv x % 256 = bv (stByte F (4 * m + 3)) := by have := HBY.out; simpa using this
                        have HE := Lib.hid he; clear he
                        go_wp2
                        go_roundw
                        case rel => exact ⟨4, by omega, rfl, by rw [HE.out]; exact HD2.out.set⟩
                        case measure => simp [intOf]
                    · obtain rfl : k = 4 := by omega
                      have HD2 := Lib.hid hD; clear hD
                      go_wp2
                      go_roundw
                      case rel => exact ⟨m + 1, by omega, by go_num, HD2.out⟩
                      case measure => simp [intOf]; omega
                · obtain rfl : m = 8 := by omega
                  have hrw : rowAt wr w.heap.size 0 32 = some (dgV (dgP F 32)) := rowAt_whole hD.d0 32 (by rw [dgV_size, dgP_length])
                  rw [dgP_done] at hrw
                  have e1 := HF.out
                  rw [← e1] at hrw
                  have hrg := wrAt_of_heap hD.d0
                  have hpl : plainCells (dgV (shaM l)) = true := dgV_plain _
                  have HD1 := Lib.hid hD; clear hD
                  have hsz : (dgV (shaM l)).size = 32 := by rw [dgV_size, shaM_length]
                  clear e1
                  go_wp2
                  refine bodyPost_ret (v := .agg (dgV (shaM l))) (results_cell_at rfl _ _ w.heap.size 0 _ rfl agg_digest ?_) rfl ⟨rfl, ?_⟩
                  · rw [cells_digest]; exact rowAt_put_same HD1.out.d0 (dgV (shaM l)) (by rw [hsz, dgV_size, dgP_length]) 32 hsz.symm
                  · exact putAt_below HD1.out.below (Nat.le_refl _) _ _
end Go.Proofs.YtamjldakllafcaaDoor
