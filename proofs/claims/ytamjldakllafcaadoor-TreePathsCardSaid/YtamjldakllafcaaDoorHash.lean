/- The walks of sha's Hasher. Conditions: none beyond each theorem's own. -/
import Derived.Test.YtamjldakllafcaaDoorShaB
import Derived.Deep.RegionWith
import Derived.Deep.RegionHeld3
import Derived.Deep.LoopGhost
import Derived.Deep.RegionLaw
import Derived.Deep.AppendLies
namespace Go.Proofs.YtamjldakllafcaaDoor
set_option linter.unusedVariables false
set_option linter.unusedSimpArgs false
open Go.RowKit
attribute [local go_sem ↓] run_load_agg run_store_agg

/-- A Hasher's cells. -/
def hasV (s : St) (v : Value) (n : Nat) : Array Value := #[.int .u32 (wv s.a), .int .u32 (wv s.b), .int .u32 (wv s.c), .int .u32 (wv s.d), .int .u32 (wv s.e), .int .u32 (wv s.f), .int .u32 (wv s.g), .int .u32 (wv s.h), v, .int .i64 n]
theorem hasV_size (s : St) (v : Value) (n : Nat) : (hasV s v n).size = 10 := by simp [hasV]
theorem hasV_st (s : St) (v : Value) (n : Nat) : (hasV s v n).extract 0 8 = stV s := by simp [hasV, stV]
theorem hasV_splice (s s' : St) (v : Value) (n : Nat) : spliceAt (hasV s v n) 0 (stV s') = hasV s' v n := by simp [spliceAt, hasV, stV]
/-- The Hasher at block g has taken these bytes; what it made lies from block base on. -/
structure HasI (w : World) (base g : Nat) (l : List UInt8) (v : Value) : Prop where
  blk : w.heap[g]? = some (.cells (hasV (blocksM St0 l (l.length / 64)) v l.length) 71 (0, 0))
  rest : own w base 5 1 v (l.length % 64) ((l.drop (64 * (l.length / 64))).map vB)
  ge : base ≤ g

theorem new_any (w : World) : Calls Tryd.prog 42 #[] w fun e w' => ∃ g, e = .returned (.pointer (some ⟨g, 0, none⟩)) ∧ HasI w' w.heap.size g [] (.slice none 0 0) ∧ Below w.heap.size w w' := by
  go_enter Tryd.func42, Tryd.ntmps42
  go_wp2_with fail
  refine (begin_any _).mono ?_
  rintro e w' ⟨rfl, hb⟩
  simp only [stV]
  go_wp2
  go_ret
  refine ⟨w'.heap.size, rfl, ⟨?_, own_nil _ _ _ _, hb.size⟩, hb.alloc hb.size _⟩
  rw [show ([] : List UInt8).length / 64 = 0 from rfl, blocksM_zero]
  exact heap_alloc_new w' _

theorem blocks_app (l b : List UInt8) (i : Nat) : blocksM St0 (l ++ b) (l.length / 64 + i) = blocksM (blocksM St0 l (l.length / 64)) (l.drop (64 * (l.length / 64)) ++ b) i := by
  rw [blocksM_add]
  have h1 : blocksM St0 (l ++ b) (l.length / 64) = blocksM St0 l (l.length / 64) := blocksM_congr _ (fun j hj => by
    have : j < l.length := by omega
    simp [List.getD_eq_getElem?_getD, List.getElem?_append_left this]) _
  rw [h1, List.drop_append_of_le_length (by omega)]
theorem block_lit (s : St) (b : List UInt8) (v : Value) (n : Nat) (w : World) (hn : 64 ≤ n) (hl : b.length = n) (hb : rd w v n (b.map vB)) (hT : tabAt w) :
    Calls Tryd.prog 63 #[.agg #[.int .u32 (wv s.a), .int .u32 (wv s.b), .int .u32 (wv s.c), .int .u32 (wv s.d), .int .u32 (wv s.e), .int .u32 (wv s.f), .int .u32 (wv s.g), .int .u32 (wv s.h)], v] w fun e w' =>
      e = .returned (.agg (stV (blockM s b))) ∧ Below w.heap.size w w' := block_any s b v n w hn hl hb hT
/-- In the loop of Write: i blocks of m are done. -/
structure WrI (w : World) (base g : Nat) (st : St) (m : List UInt8) (N i : Nat) (wr : World) : Prop where
  le : 64 * i ≤ m.length
  blk : ∃ v, wr.heap[g]? = some (.cells (hasV (blocksM st m i) v N) 71 (0, 0)) ∧ own wr base 5 1 v (m.length - 64 * i) ((m.drop (64 * i)).map vB)
  below : Below base w wr

theorem vB_plain (b : List UInt8) : ∀ u ∈ b.map vB, u.oneCell' = true := vs_oneCell .u8 bv b
theorem vB_ne (b : List UInt8) {old : Value} (h : ∀ n, old ≠ .int .u8 n) : ∀ x ∈ b.map vB, x ≠ old := by
  intro x hx e
  obtain ⟨y, _, rfl⟩ := List.mem_map.1 hx
  exact h _ e.symm
theorem wrI_start {w w1 : World} {base g : Nat} {st : St} {r v1 : Value} {L N : Nat} {m : List UInt8} {row : Option Nat} (hblk : w.heap[g]? = some (.cells (hasV st r L) 71 (0, 0))) (hge : base ≤ g) (hw : base ≤ w.heap.size)
    (hg : (w.setCell ⟨g, 9, none⟩ (.int .i64 N)).grownBy w1 row) (hrow : ∀ k, row = some k → base ≤ k ∧ k ≠ g) (ho : own w1 base 5 1 v1 m.length (m.map vB)) :
    w1.heap[g]? = some (.cells (hasV st r N) 71 (0, 0)) ∧ WrI w base g st m N 0 (w1.setCell ⟨g, 8, none⟩ v1) := by
  have hgl := (Array.getElem?_eq_some_iff.1 hblk).1
  have e1 : w1.heap[g]? = some (.cells (hasV st r N) 71 (0, 0)) := by
    rw [hg.block g (by simpa using hgl) (fun e => (hrow g e.symm).2 rfl), heap_setCell_same _ _ _ _ _ _ hblk]
    simp [hasV]
  refine ⟨e1, ⟨by omega, ⟨v1, ?_, ?_⟩, ?_⟩⟩
  · rw [heap_setCell_same _ _ _ _ _ _ e1, blocksM_zero]; simp [hasV]
  · have h2 := own_setCell ho ⟨g, 8, none⟩ v1 (own_ne ho e1 (by decide))
    simpa using h2
  · have hb : Below base w (w.setCell ⟨g, 9, none⟩ (.int .i64 N)) := (Below.refl _ _).setCell hge _
    exact (hb.grown hg (by simpa using hw) (fun k hk => (hrow k hk).1)).setCell hge _
set_option maxHeartbeats 1000000 in
set_option maxRecDepth 100000 in
theorem write_any (base g : Nat) (l b : List UInt8) (r v : Value) (n : Nat) (w : World) (hH : HasI w base g l r) (hb : rd w v n (b.map vB)) (hl : b.length = n) (hlen : l.length + n ≤ 140737488353000) (hT : tabAt w) (hg : 0 < base) (hw : base ≤ w.heap.size) :
    Calls Tryd.prog 43 #[.pointer (some ⟨g, 0, none⟩), v] w fun e w' => e = .returned (.tuple #[]) ∧ (∃ r', HasI w' base g (l ++ b) r') ∧ Below base w w' := by
  obtain ⟨hblk, hrest, hge⟩ := hH
  have hgl := (Array.getElem?_eq_some_iff.1 hblk).1
  have hne := own_ne hrest hblk (by decide)
  have hb' := hb
  obtain ⟨ao, cap, rfl, k1, k2, -⟩ := hb'
  have hr' := hrest
  obtain ⟨-, ro, rc, rfl, r1, r2, -⟩ := hr'
  have c8 : w.cell? ⟨g, 8, none⟩ = some (.slice ro (l.length % 64) rc) := by rw [cell_of_row _ _ _ _ _ _ hblk]; rfl
  have c9 : w.cell? ⟨g, 9, none⟩ = some (.int .i64 l.length) := by rw [cell_of_row _ _ _ _ _ _ hblk]; rfl
  have f8 : w.frozen? ⟨g, 8, none⟩ = false := frozen_of_row _ _ _ _ _ hblk
  have f9 : w.frozen? ⟨g, 9, none⟩ = false := frozen_of_row _ _ _ _ _ hblk
  generalize hst : blocksM St0 l (l.length / 64) = st at hblk
  have Hst := Lib.hid hst; clear hst
  have HB := Lib.hid hblk; have HR := Lib.hid hrest; have HV := Lib.hid hb; have HN := Lib.hid hne; have HT := Lib.hid hT; have HL := Lib.hid hl
  clear hblk hrest hb hne hT hl
  unfold maxLen at k2 r2
  go_enter Tryd.func43, Tryd.ntmps43
  obtain ⟨i0, hi0, hz0, hz1, hz2⟩ := info_parts info_u8
  go_wp2_with (at_builtin; refine wpList_append_rd rfl (.tmp 17) (.tmp 18) 32 rfl 5 i0 (.int .u8 0) 1 1 Tryd.underlying32 hi0 hz0 hz1 hz2 rfl (by decide) base (l.length % 64) _ (own_setCell HR.out ⟨g, 9, none⟩ _ HN.out) n (b.map vB) ?c1 (rd_setCell_ne HV.out _ c9 (vB_ne b (by intro n; simp))) (vB_plain b) ?c2 ?c3 ?c4 ?_)
  case c1 => simp [HL.out]
  case c2 => unfold maxLen; omega
  case c3 => omega
  case c4 => simpa using hw
  intro v1 w1 ho1 _ hg1
  have hlm : (l.drop (64 * (l.length / 64)) ++ b).length = l.length % 64 + n := by simp [HL.out]; omega
  have hS := wrI_start (N := l.length + n) (m := l.drop (64 * (l.length / 64)) ++ b) HB.out hge hw (by simpa using hg1) (fun k hk => ⟨(own_lt HR.out hk).1, fun e => HN.out (by rw [← e]; exact hk)⟩) (by rw [hlm]; simpa using ho1)
  have ho1' := ho1
  obtain ⟨-, o1, q1, rfl, -, -, -⟩ := ho1'
  have d8 : w1.cell? ⟨g, 8, none⟩ = some (.slice ro (l.length % 64) rc) := by rw [cell_of_row _ _ _ _ _ _ hS.1]; rfl
  have e8 : w1.frozen? ⟨g, 8, none⟩ = false := frozen_of_row _ _ _ _ _ hS.1
  have HS := Lib.hid hS.2
  have HM := Lib.hid hlm
  generalize hm : l.drop (64 * (l.length / 64)) ++ b = m at HS HM
  have Hm := Lib.hid hm; clear hm
  clear hS ho1 hg1 c8 c9 f8 f9 hlm
  go_wp2_with fail
  go_loopg [] (m.length / 64) (fun k wr => ∃ i : Nat, i + k = m.length / 64 ∧ WrI w base g st m (l.length + n) i wr)
  case atStart => exact ⟨0, by omega, HS.out⟩
  case round =>
    obtain ⟨i, hik, hle, ⟨v, hb, ho⟩, hbel⟩ := hrel
    obtain ⟨nn, hnn⟩ : ∃ nn, m.length - 64 * i = nn := ⟨_, rfl⟩
    rw [hnn] at ho
    have ho' := ho
    obtain ⟨-, a2, cap2, rfl, p1, p2, -⟩ := ho'
    unfold maxLen at p2
    have c8 : wr.cell? ⟨g, 8, none⟩ = some (.slice a2 nn cap2) := by rw [cell_of_row _ _ _ _ _ _ hb]; rfl
    have hgl2 := (Array.getElem?_eq_some_iff.1 hb).1
    by_cases hlt : 64 ≤ nn
    · have hcs : ∀ j, j < 8 → wr.cell? ⟨g, j, none⟩ = some (.int .u32 (wv (stWord (blocksM st m i) j))) := fun j hj => by
        have h8 : rowAt wr g 0 8 = some (stV (blocksM st m i)) := by rw [rowAt_of_heap hb 0 8 (by rw [hasV_size]; omega)]; rfl
        have := cell_of_rowAt h8 j hj
        rw [Nat.zero_add] at this
        rw [this, stV_get _ j hj]
      have HO := Lib.hid ho
      have HB2 := Lib.hid hb
      have HN2 := Lib.hid hnn
      have HT2 : Hid (tabAt wr) := (rowAt_below hbel hg 0 64).trans HT.out
      obtain ⟨S, hS⟩ : ∃ S, blocksM st m i = S := ⟨_, rfl⟩
      rw [hS] at hcs
      have HS2 := Lib.hid hS; clear hS
      have d0 : wr.cell? ⟨g, 0, none⟩ = some (.int .u32 (wv S.a)) := hcs 0 (by omega)
      have d1 : wr.cell? ⟨g, 1, none⟩ = some (.int .u32 (wv S.b)) := hcs 1 (by omega)
      have d2 : wr.cell? ⟨g, 2, none⟩ = some (.int .u32 (wv S.c)) := hcs 2 (by omega)
      have d3 : wr.cell? ⟨g, 3, none⟩ = some (.int .u32 (wv S.d)) := hcs 3 (by omega)
      have d4 : wr.cell? ⟨g, 4, none⟩ = some (.int .u32 (wv S.e)) := hcs 4 (by omega)
      have d5 : wr.cell? ⟨g, 5, none⟩ = some (.int .u32 (wv S.f)) := hcs 5 (by omega)
      have d6 : wr.cell? ⟨g, 6, none⟩ = some (.int .u32 (wv S.g)) := hcs 6 (by omega)
      have d7 : wr.cell? ⟨g, 7, none⟩ = some (.int .u32 (wv S.h)) := hcs 7 (by omega)
      have QR : Hid ((rowAt wr.drew g 0 8).isSome = true) := by rw [rowAt_drew, rowAt_of_heap hb 0 8 (by rw [hasV_size]; omega)]; rfl
      have QW : Hid (wrAt wr.drew g = true) := wrAt_of_heap hb
      clear ho hb hnn hcs
      go_wp2_with fail
      go_region_law (go_simp; go_at_call 63; refine (block_lit S (m.drop (64 * i)) _ nn wr.drew hlt (by rw [List.length_drop]; exact HN2.out) (own_rd HO.out) HT2.out).mono ?_; rintro e w' ⟨rfl, hb2⟩; have k0 := (hb2.cell (p := ⟨g, 0, none⟩) hgl2).trans d0; have k1 := (hb2.cell (p := ⟨g, 1, none⟩) hgl2).trans d1; have k2 := (hb2.cell (p := ⟨g, 2, none⟩) hgl2).trans d2; have k3 := (hb2.cell (p := ⟨g, 3, none⟩) hgl2).trans d3; have k4 := (hb2.cell (p := ⟨g, 4, none⟩) hgl2).trans d4; have k5 := (hb2.cell (p := ⟨g, 5, none⟩) hgl2).trans d5; have k6 := (hb2.cell (p := ⟨g, 6, none⟩) hgl2).trans d6; have k7 := (hb2.cell (p := ⟨g, 7, none⟩) hgl2).trans d7; have k8 := (hb2.cell (p := ⟨g, 8, none⟩) hgl2).trans c8; have q1 : (rowAt w' g 0 8).isSome = true := (congrArg Option.isSome (rowAt_below hb2 hgl2 0 8)).trans QR.out; have q2 : wrAt w' g = true := (wrAt_below hb2 hgl2).trans QW.out)
      all_goals
        obtain ⟨W2, hW2⟩ : ∃ W2, W2 = putAt w' g 0 (stV (blockM S (List.drop (64 * i) m))) := ⟨_, rfl⟩
        have hk1 := hb2.block g hgl2
        have hk2 : w'.heap[g]? = some (.cells (hasV S (.slice a2 nn cap2) (l.length + n)) 71 (0, 0)) := by rw [← HS2.out]; exact hk1.trans HB2.out
        have hk3 : W2.heap[g]? = some (.cells (hasV (blockM S (m.drop (64 * i))) (.slice a2 nn cap2) (l.length + n)) 71 (0, 0)) := by
          rw [hW2, putAt_of_heap hk2]
          rw [setRow_heap _ _ _ _ _ _ hk2, hasV_splice]
        have hne2 := own_ne HO.out HB2.out (by decide)
        have hk4 : own W2 base 5 1 (.slice a2 nn cap2) nn ((m.drop (64 * i)).map vB) := own_kept HO.out (fun k hk hk' hk'' => by
          rw [hW2, putAt_other _ _ _ _ _ (fun e => hne2 (by rw [← e]; exact hk))]; exact hb2.block k hk'')
        have hk5 := own_cut hk4 64 hlt
        have hk6 : Below base w W2 := by rw [hW2]; exact putAt_below (hbel.drew.trans (hb2.mono (Nat.le_trans hw hbel.size))) hge _ _
        rw [← hW2]
        have hsl : ∀ w, (Instr.sliceAt 32 (.slice a2 nn cap2) (some (.int .i64 64)) none none).run Tryd.prog w = .ok (.slice (if cap2 = 64 then a2 else a2.map (·.add (64 * 1))) (nn - 64) (cap2 - 64)) w := fun w => run_slice_from (P := Tryd.prog) 32 5 1 Tryd.underlying32 (by rw [hi0]; simp [hz1]) a2 nn cap2 64 hlt w
        have t8 : W2.cell? ⟨g, 8, none⟩ = some (.slice a2 nn cap2) := by rw [cell_of_row _ _ _ _ _ _ hk3]; rfl
        have u8 : W2.frozen? ⟨g, 8, none⟩ = false := frozen_of_row _ _ _ _ _ hk3
        have H3 := Lib.hid hk3; have H5 := Lib.hid hk5; have H6 := Lib.hid hk6
        generalize (if cap2 = 64 then a2 else a2.map (·.add (64 * 1))) = a3 at hsl H5
        clear hk1 hk2 hk3 hk4 hk5 hk6 hne2 hb2 hW2 k0 k1 k2 k3 k4 k5 k6 k7 k8 q1 q2 d0 d1 d2 d3 d4 d5 d6 d7 c8 QR QW
        go_wp2
        go_roundg (gk - 1)
        case rel =>
          have e0 := HN2.out
          refine ⟨i + 1, by omega, by omega, ⟨.slice a3 (nn - 64) (cap2 - 64), ?_, ?_⟩, H6.out.setCell hge _⟩
          · rw [heap_setCell_same _ _ _ _ _ _ H3.out, blocksM_succ, HS2.out]; simp [hasV]
          · have h9 := own_setCell H5.out ⟨g, 8, none⟩ (.slice a3 (nn - 64) (cap2 - 64)) (own_ne H5.out H3.out (by decide))
            have e1 : m.length - 64 * (i + 1) = nn - 64 := by have := HN2.out; omega
            rw [e1, show 64 * (i + 1) = 64 * i + 64 * 1 from by omega, ← List.drop_drop, List.map_drop]
            exact h9
        case measure => have e0 := HN2.out; omega
    · have hfin : HasI wr base g (l ++ b) (.slice a2 nn cap2) := by
        have e1 := HM.out
        have e2 : (l ++ b).length = l.length + n := by rw [List.length_append, HL.out]
        have e3 : (l ++ b).length / 64 = l.length / 64 + i := by omega
        have e4 : (l ++ b).length % 64 = nn := by omega
        have e5 : (l ++ b).drop (64 * ((l ++ b).length / 64)) = m.drop (64 * i) := by
          rw [e3, Nat.mul_add, ← List.drop_drop, List.drop_append_of_le_length (by omega), Hm.out]
        refine ⟨?_, ?_, hge⟩
        · rw [e3, blocks_app, Hm.out, Hst.out, e2]; exact hb
        · rw [e4, e5]; exact ho
      have HF := Lib.hid hfin
      have HB3 := Lib.hid hbel
      clear hfin hb ho hbel hnn
      go_wp2
      go_end0
      exact ⟨rfl, ⟨_, HF.out⟩, HB3.out⟩
end Go.Proofs.YtamjldakllafcaaDoor
