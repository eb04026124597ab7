/- The walk of coin.Copy. Conditions: none beyond each theorem's own. -/
import Derived.Test.YtljcdkfafknnpaaDoorCpy
import Derived.Test.YtljcdkfafknnpaaDoorOrd
namespace Go.Proofs.YtljcdkfafknnpaaDoor
set_option linter.unusedVariables false
set_option linter.unusedSimpArgs false
open Go.RowKit
attribute [local go_sem ↓] run_load_agg run_store_agg run_load_any

/-- A coin whose lock is of the call's own. -/
def coinO (base : Nat) : Rd CoinD := fun w c cs => ∃ s xs, cs = c.tx.map vB ++ [.int .i64 c.ix, .int .i64 c.amount, s, .int .i64 c.height] ∧ c.tx.length = 32 ∧ own w base 101 3 s c.lock.length xs ∧ rdEach (opO base) 3 w c.lock xs
theorem coinO_grown {w w' : World} {base base2 sz n : Nat} {v : Value} {xs : List Value} (hv : own w base2 59 sz v n xs) (hg : w.grownBy w' (wrow v)) {c : CoinD} {cs : List Value} (h : coinO base w c cs) : coinO base w' c cs := by
  obtain ⟨s, ys, h1, h2, h3, h4⟩ := h
  refine ⟨s, ys, h1, h2, own_kept h3 fun k hk _ hlt => ?_, rdEach_map h4 (fun a cs ha => opO_grown hv (by decide) hg ha)⟩
  obtain ⟨_, _, c, hc⟩ := own_lt h3 hk
  exact hg.block k hlt (fun e2 => own_ne hv hc (by decide) e2.symm)
theorem coinO_below {w w' : World} {base : Nat} (hb : Below w.heap.size w w') {c : CoinD} {cs : List Value} (h : coinO base w c cs) : coinO base w' c cs := by
  obtain ⟨s, ys, h1, h2, h3, h4⟩ := h
  exact ⟨s, ys, h1, h2, own_below hb h3 (Nat.le_refl _), rdEach_map h4 (fun a cs ha => opO_below hb ha)⟩
theorem coinO_alloc {w : World} {base : Nat} (ob : Obj) {c : CoinD} {cs : List Value} (h : coinO base w c cs) : coinO base (w.alloc ob) c cs := by
  obtain ⟨s, ys, h1, h2, h3, h4⟩ := h
  exact ⟨s, ys, h1, h2, own_alloc h3 ob, rdEach_map h4 (fun a cs ha => opO_alloc ob ha)⟩
theorem coinO_setCell {w : World} {base G k : Nat} {cc : Array Value} {fr : Nat × Nat} (hg : w.heap[G]? = some (.cells cc 59 fr)) (u : Value) {c : CoinD} {cs : List Value} (h : coinO base w c cs) : coinO base (w.setCell ⟨G, k, none⟩ u) c cs := by
  obtain ⟨s, ys, h1, h2, h3, h4⟩ := h
  exact ⟨s, ys, h1, h2, own_setCell h3 _ _ (own_ne h3 hg (by decide)), rdEach_map h4 (fun a cs ha => opO_setCell (by decide) hg u ha)⟩
theorem coinO_rd {w : World} {base : Nat} {c : CoinD} {cs : List Value} (h : coinO base w c cs) : coinR w c cs := by
  obtain ⟨s, ys, h1, h2, h3, h4⟩ := h
  exact ⟨s, h1, h2, ys, own_rd h3, rdEach_map h4 (fun a cs ha => opO_rd ha)⟩
theorem info_coin : (Tryd.prog.info? 59).map (fun i => (i.zero, i.size, i.bytes)) = some (some (.agg zCoin), 36, 80) := by kernel_rfl
theorem run_buildSlice_coin (d : Array Value) (hd : d.size = 36) (w : World) :
    (Instr.buildSlice 44 1 #[(0, .agg d)]).run Tryd.prog w = .ok (.slice (some ⟨w.heap.size, 0, none⟩) 1 1) (w.alloc (.cells d 59)) := by
  obtain ⟨i, hi, hz, hs, -⟩ := info_parts' info_coin
  have hf := fun (f : Nat → Value) => fill_one d ((Array.range 36).map f) 36 hd (by simp)
  simp [Instr.buildSlice, run_underlying Tryd.underlying44, sizeOf, typeInfo, zeroValue, hi, hz, hs, hf, newRow, Value.cells]
theorem run_build_coin (ev : Operand → Value) (w : World) (dst : Option Tmp) (x : Operand) (type : TypeId) (pos : String) (after : Array Edge) (guard : Option (Nat × Bool))
    (hx : isAggV (ev x) = true) (hsx : (aggCells (ev x)).size = 36) :
    (execOp ev ⟨dst, .buildSlice 44 1 #[(0, x)], type, pos, after, guard⟩).run Tryd.prog w = .ok (.value (.slice (some ⟨w.heap.size, 0, none⟩) 1 1)) (w.alloc (.cells (aggCells (ev x)) 59)) := by
  unfold isAggV at hx
  split at hx
  · rename_i d hd
    rw [hd] at hsx ⊢
    simp only [aggCells] at hsx ⊢
    have := run_buildSlice_coin d hsx w
    simp only [execOp, List.map_toArray, List.map_cons, List.map_nil, hd, Sem.run_bind, this]
    rfl
  · cases hx
theorem coinV_set (c : CoinD) (s u : Value) (h : c.tx.length = 32) : (coinV c s).setIfInBounds 34 u = coinV c u := by
  have hz : (dgV c.tx).size = 32 := by rw [dgV_size, h]
  apply Array.ext
  · simp [coinV_size c _ h]
  · intro i h1 h2
    rw [coinV_size c u h] at h2
    rw [Array.getElem_setIfInBounds (by rw [coinV_size c s h]; exact h2)]
    by_cases h34 : 34 = i
    · subst h34
      rw [if_pos rfl]
      have := (coinV_tail c u h).2.2.1
      rw [Array.getElem?_eq_getElem (by rw [coinV_size c u h]; omega)] at this
      simpa using this.symm
    · rw [if_neg h34]
      simp only [coinV]
      by_cases h32 : i < 32
      · rw [Array.getElem_append_left (by omega), Array.getElem_append_left (by omega)]
      · rw [Array.getElem_append_right (by omega), Array.getElem_append_right (by omega)]
        obtain rfl | rfl | rfl : i = 32 ∨ i = 33 ∨ i = 35 := by omega
        all_goals simp [hz]
theorem coinV_list (c : CoinD) (s : Value) : (coinV c s).toList = c.tx.map vB ++ [.int .i64 c.ix, .int .i64 c.amount, s, .int .i64 c.height] := by simp [coinV, dgV]
attribute [local go_sem ↓] run_build_coin
def CopyPost (cs : List CoinD) (w : World) (e : Ending) (w' : World) : Prop :=
  ∃ v xs, e = .returned v ∧ own w' w.heap.size 59 36 v cs.length xs ∧ rdEach (coinO w.heap.size) 36 w' cs xs ∧ Below w.heap.size w w'
theorem copyPost_mk {cs : List CoinD} {w w' : World} {e : Ending} (v : Value) (xs : List Value) (he : e = .returned v) (h1 : own w' w.heap.size 59 36 v cs.length xs) (h2 : rdEach (coinO w.heap.size) 36 w' cs xs) (h3 : Below w.heap.size w w') : CopyPost cs w e w' := ⟨v, xs, he, h1, h2, h3⟩
set_option maxHeartbeats 4000000 in
set_option maxRecDepth 100000 in
theorem copy_any (cs : List CoinD) (ao : Option Addr) (cap : Nat) (w : World) (h : rdSl coinR 36 w (.slice ao cs.length cap) cs) (hn : cs.length ≤ 1000) (hd : ∀ c ∈ cs, lockF c.lock = 0) :
    Calls Tryd.prog 51 #[.slice ao cs.length cap] w (CopyPost cs w) := by
  obtain ⟨_, _, e, hcap, hmax⟩ := sl_bounds h
  cases e
  unfold maxLen at hmax
  have HS := Lib.hid h; have HD := Lib.hid hd
  clear h hd
  obtain ⟨i0, hi0, hz0, hz1, hz2⟩ := info_parts' info_coin
  go_enter Tryd.func51, Tryd.ntmps51
  go_wp2_with fail
  go_loopw [3, 8] (fun v c wr => ∃ (j : Nat) (xs : List Value), j ≤ cs.length ∧ c = .int .i64 j ∧ Hid (own wr w.heap.size 59 36 v j xs) ∧ Hid (rdEach (coinO w.heap.size) 36 wr (cs.take j) xs) ∧ Hid (Below w.heap.size w wr)) (fun _ c _ => cs.length - (intOf c).toNat)
  case atStart => exact ⟨0, [], by omega, rfl, Lib.hid (own_nil _ _ _ _), Lib.hid (rdEach_nil _ _ _), Lib.hid (Below.refl _ _)⟩
  case round =>
    obtain ⟨j, xs, hj, rfl, HO, HE, HB⟩ := hrel
    have ho' := HO.out
    obtain ⟨-, oo, ocap, rfl, o1, o2, -⟩ := ho'
    unfold maxLen at o2
    by_cases hlt : j < cs.length
    · obtain ⟨g, off, so, scap, rfl, -, h32, d1, d2, hlock, hrow⟩ := coin_at (coinR_stays.slB HS.out HB.out (Nat.le_refl _)) j hlt
      have hlf := HD.out cs[j] (List.getElem_mem _)
      have htk : cs.take (j + 1) = cs.take j ++ [cs[j]] := List.take_succ_eq_append_getElem hlt
      obtain ⟨c, hc⟩ : ∃ c, cs[j] = c := ⟨_, rfl⟩
      rw [hc] at h32 d1 hlock hrow hlf htk
      have HTK := Lib.hid htk
      obtain ⟨l60, l300⟩ := lockF_small c.lock hlf
      have HL300 := Lib.hid l300
      obtain ⟨n1, n2, n3, n4⟩ := new_coin wr c so c.lock.length scap h32
      have B0 := Lib.hid (HB.out.alloc HB.out.size (.cells (coinV c (.slice so c.lock.length scap)) 59))
      have HG0 := Lib.hid (heap_alloc_new wr (.cells (coinV c (.slice so c.lock.length scap)) 59))
      have HO0 := Lib.hid (own_alloc HO.out (.cells (coinV c (.slice so c.lock.length scap)) 59))
      have HE0 := Lib.hid (rdEach_map HE.out (fun a cs ha => coinO_alloc (.cells (coinV c (.slice so c.lock.length scap)) 59) ha))
      have HL0 := Lib.hid (opR_stays.sl (fun k hk => Below.heap_alloc wr (.cells (coinV c (.slice so c.lock.length scap)) 59) k hk) hlock)
      have hsz0 : (wr.alloc (.cells (coinV c (.slice so c.lock.length scap)) 59)).heap.size = wr.heap.size + 1 := by simp
      have hG := HB.out.size
      have c34 := (CoinAt.new wr c (.slice so c.lock.length scap) h32).lock
      clear hc htk hlock hlf l300
      unfold zCoin at n1 n2
      go_upto_region 5 with fail
      clear n1 n2 n3 n4
      change Code.wp _ _ _ _ (wr.alloc (.cells (coinV c (.slice so c.lock.length scap)) 59))
      obtain ⟨G, hGe⟩ : ∃ G, wr.heap.size = G := ⟨_, rfl⟩
      have hOG : ∀ k, wrow (.slice oo j ocap) = some k → k < G := fun k hk => by have := (own_lt HO.out hk).2.1; omega
      have HOG := Lib.hid hOG
      clear hOG hrow
      rw [hGe] at HG0 hsz0 hG c34 ⊢
      generalize wr.alloc (.cells (coinV c (.slice so c.lock.length scap)) 59) = w0 at B0 HG0 HO0 HE0 HL0 hsz0 c34 ⊢
      go_wp2_with fail
      refine (copied_any c.lock so scap w0 HL0.out l60 HL300.out).mono ?_
      rintro e w1 ⟨sv, ys, rfl, hos, hye, hb1⟩
      have hos' := hos
      obtain ⟨-, sa, sacap, rfl, s1, s2, -⟩ := hos'
      unfold maxLen at s2
      have hzb := hb1.size
      have HG1 : Hid (w1.heap[G]? = some (.cells (coinV c (.slice so c.lock.length scap)) 59 (0, 0))) := (hb1.block _ (by omega)).trans HG0.out
      have hG2 : w1.cell? ⟨G, 34, none⟩ = some (.slice so c.lock.length scap) := by rw [cell_of_row _ _ _ _ _ _ HG1.out]; exact (coinV_tail c _ h32).2.2.1
      have hF2 : w1.frozen? ⟨G, 34, none⟩ = false := frozen_of_row _ _ _ _ _ HG1.out
      have B1 := Lib.hid (B0.out.trans (hb1.mono B0.out.size))
      have HO1 := Lib.hid (own_below hb1 HO0.out (Nat.le_refl _))
      have HE1 := Lib.hid (rdEach_map HE0.out (fun a cs ha => coinO_below hb1 ha))
      have HOS := Lib.hid hos
      have hone : Hid (wrow (.slice oo j ocap) ≠ some G) := fun hk => by have := HOG.out G hk; omega
      have HG3 : Hid ((w1.setCell ⟨G, 34, none⟩ (.slice sa c.lock.length sacap)).heap[G]? = some (.cells (coinV c (.slice sa c.lock.length sacap)) 59 (0, 0))) := by
        have := heap_setCell_same w1 G 34 _ _ (.slice sa c.lock.length sacap) HG1.out
        rw [coinV_set c _ _ h32] at this
        exact this
      have HO2 := Lib.hid (own_setCell HO1.out ⟨G, 34, none⟩ (.slice sa c.lock.length sacap) hone.out)
      have HE2 := Lib.hid (rdEach_map HE1.out (fun a cs ha => coinO_setCell (k := 34) HG1.out (.slice sa c.lock.length sacap) ha))
      have hnew1 : coinO w.heap.size w1 c (c.tx.map vB ++ [.int .i64 c.ix, .int .i64 c.amount, .slice sa c.lock.length sacap, .int .i64 c.height]) :=
        ⟨_, ys, rfl, h32, own_base hos (by omega), rdEach_map hye (fun a cs ⟨s, q1, q2⟩ => ⟨s, q1, own_base q2 (by omega)⟩)⟩
      have HN2 := Lib.hid (coinO_setCell (k := 34) HG1.out (.slice sa c.lock.length sacap) hnew1)
      have B2 : Hid (Below w.heap.size w (w1.setCell ⟨G, 34, none⟩ (.slice sa c.lock.length sacap))) := B1.out.setCell (by show w.heap.size ≤ G; exact hG) _
      clear hb1 hos hye hnew1
      go_upto_region 6 with fail
      change Code.wp _ _ _ _ (w1.setCell ⟨G, 34, none⟩ (.slice sa c.lock.length sacap))
      generalize w1.setCell ⟨G, 34, none⟩ (.slice sa c.lock.length sacap) = w2 at HG3 HO2 HE2 HN2 B2 ⊢
      clear hG2 hF2 c34
      have hsv : (coinV c (.slice sa c.lock.length sacap)).size = 36 := coinV_size c _ h32
      have r3 : rowAt w2 G 0 36 = some (coinV c (.slice sa c.lock.length sacap)) := rowAt_whole HG3.out 36 hsv.symm
      have B3 := Lib.hid (B2.out.alloc B2.out.size (.cells (coinV c (.slice sa c.lock.length sacap)) 59))
      have HO3 := Lib.hid (own_alloc HO2.out (.cells (coinV c (.slice sa c.lock.length sacap)) 59))
      have HE3 := Lib.hid (rdEach_map HE2.out (fun a cs ha => coinO_alloc (.cells (coinV c (.slice sa c.lock.length sacap)) 59) ha))
      have HN3' := Lib.hid (coinO_alloc (.cells (coinV c (.slice sa c.lock.length sacap)) 59) HN2.out)
      have hrn := rd_new_row w2 (coinV c (.slice sa c.lock.length sacap)) 59 _ rfl
      rw [coinV_list] at hrn
      have HR3 := Lib.hid hrn
      have HC5 : Hid (∀ u ∈ c.tx.map vB ++ [.int .i64 c.ix, .int .i64 c.amount, .slice sa c.lock.length sacap, .int .i64 c.height], u.oneCell' = true) := fun u hu => by
        rcases List.mem_append.1 hu with h | h
        · exact vB_plain _ u h
        · simp only [List.mem_cons, List.not_mem_nil, or_false] at h
          rcases h with rfl | rfl | rfl | rfl <;> rfl
      clear hrn
      go_wp2_with (at_builtin; refine wpList_append_rd rfl (.tmp 18) (.tmp 20) 44 rfl 59 i0 (.agg zCoin) 36 80 Tryd.underlying44 hi0 hz0 hz1 hz2 rfl (by decide) w.heap.size j _ HO3.out 1 _ (by simp [h32]) HR3.out HC5.out ?c2 ?c3 ?c4 ?_)
      case c2 => unfold maxLen; omega
      case c3 => omega
      case c4 => have := B3.out.size; simpa using this
      intro v1 w4 ho1 hold hg1
      have B4 := Lib.hid (B3.out.grown hg1 B3.out.size (fun q hq => (own_lt HO3.out hq).1))
      have HO4 := Lib.hid ho1
      have HE4 := Lib.hid (rdEach_map HE3.out (fun a cs ha => coinO_grown (w' := w4) HO3.out hg1 ha))
      have hnew : coinO w.heap.size w4 c _ := coinO_grown HO3.out hg1 HN3'.out
      have HE5 := Lib.hid (rdEach_snoc HE4.out (by simp [h32]) hnew)
      clear ho1 hold hg1 hnew
      go_wp2_with fail
      go_roundw
      case rel => exact ⟨j + 1, _, by omega, by go_num, HO4, Lib.hid (by rw [HTK.out]; exact HE5.out), B4⟩
      case measure => simp [intOf]; omega
    · have HTK := Lib.hid (List.take_of_length_le (show cs.length ≤ j by omega))
      have hj2 : j = cs.length := by omega
      have HJ := Lib.hid hj2
      clear hj2
      go_wp2
      go_ret
      exact copyPost_mk _ xs rfl (by rw [← HJ.out]; exact HO.out) (by have := HE.out; rw [HTK.out] at this; exact this) HB.out
end Go.Proofs.YtljcdkfafknnpaaDoor
