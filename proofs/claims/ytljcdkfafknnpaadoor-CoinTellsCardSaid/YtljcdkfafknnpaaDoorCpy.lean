/- The walks of slices.Clone at bytes, coin.copied. Conditions: none beyond each theorem's own. -/
import Derived.Test.YtljcdkfafknnpaaDoorSetp
import Derived.Test.YtljcdkfafknnpaaDoorLckc
import Derived.Deep.DeepCutAuto
namespace Go.Proofs.YtljcdkfafknnpaaDoor
set_option linter.unusedVariables false
set_option linter.unusedSimpArgs false
open Go.RowKit
attribute [local go_sem ↓] run_load_agg run_store_agg run_load_any

set_option maxHeartbeats 1000000 in
set_option maxRecDepth 100000 in
theorem clone_any (b : List UInt8) (ao : Option Addr) (n cap : Nat) (w : World) (h : rd w (.slice ao n cap) n (b.map vB)) (hl : b.length = n) (hn : n ≤ 3000) :
    Calls Tryd.prog 98 #[.slice ao n cap] w fun e w' => ∃ v, e = .returned v ∧ own w' w.heap.size 5 1 v n (b.map vB) ∧ Below w.heap.size w w' := by
  obtain ⟨i0, hi0, hz0, hz1, hz2⟩ := info_parts' info_u8
  have h' := h
  obtain ⟨_, _, e, k1, k2, h3⟩ := h'
  cases e
  unfold maxLen at k2
  have HR := Lib.hid h; have HL := Lib.hid hl
  cases ao with
  | none =>
    have hb : b = [] := by
      rcases h3 with h3 | ⟨g, off, h4, -⟩
      · simpa using h3
      · cases h4
    have hn0 : n = 0 := by rw [← hl, hb]; rfl
    subst hb
    subst hn0
    clear h h3 HR HL hl
    have hq := fun (w : World) => Lib.run_eql_slice_nil (P := Tryd.prog) w 39 5 none 0 cap 0 0 Tryd.underlying39
    go_enter Tryd.func98, Tryd.ntmps98
    go_wp2
    go_ret
    exact ⟨_, rfl, own_nil _ _ _ _, Below.refl _ _⟩
  | some a =>
    clear h h3 hl
    have hq := fun (w : World) => Lib.run_eql_slice_nil (P := Tryd.prog) w 39 5 (some a) n cap 0 0 Tryd.underlying39
    have B0 := Lib.hid ((Below.refl w.heap.size w).alloc (Nat.le_refl _) (.cells #[] 5))
    have HR0 := Lib.hid (rd_belowB HR.out B0.out (Nat.le_refl _))
    go_enter Tryd.func98, Tryd.ntmps98
    go_wp2_with (at_builtin; refine wpList_append_rd rfl (.tmp 5) (.tmp 6) 39 rfl 5 i0 (.int .u8 0) 1 1 Tryd.underlying39 hi0 hz0 hz1 hz2 rfl (by decide) w.heap.size 0 [] (own_empty _ _ _ _ _) n (b.map vB) ?c1 HR0.out (vB_plain _) ?c2 ?c3 ?c4 ?_)
    case c1 => have := HL.out; simp [this]
    case c2 => unfold maxLen; omega
    case c3 => omega
    case c4 => exact B0.out.size
    intro v1 w1 ho1 _ hg1
    have B1 := Lib.hid (B0.out.grown hg1 B0.out.size (fun q hq => by cases hq))
    have ho2 : own w1 w.heap.size 5 1 v1 n (b.map vB) := by simpa using ho1
    have HO := Lib.hid ho2
    clear ho1 ho2 hg1
    go_wp2
    go_ret
    exact ⟨_, rfl, HO.out, B1.out⟩
/-- An op whose data is of the call's own. -/
def opO (base : Nat) : Rd OpD := fun w o cs => ∃ s, cs = [.int .i64 o.op, .int .i64 o.n, s] ∧ own w base 5 1 s o.data.length (o.data.map vB)
theorem opO_grown {w w' : World} {base base2 sz n : Nat} {e : TypeId} {v : Value} {xs : List Value} (hv : own w base2 e sz v n xs) (he : e ≠ 5) (hg : w.grownBy w' (wrow v)) {o : OpD} {cs : List Value} (h : opO base w o cs) : opO base w' o cs := by
  obtain ⟨s, h1, h2⟩ := h
  refine ⟨s, h1, own_kept h2 fun k hk _ hlt => ?_⟩
  obtain ⟨_, _, c, hc⟩ := own_lt h2 hk
  exact hg.block k hlt (fun e2 => own_ne hv hc he e2.symm)
theorem opO_below {w w' : World} {base : Nat} (hb : Below w.heap.size w w') {o : OpD} {cs : List Value} (h : opO base w o cs) : opO base w' o cs := by
  obtain ⟨s, h1, h2⟩ := h
  exact ⟨s, h1, own_below hb h2 (Nat.le_refl _)⟩
theorem opO_alloc {w : World} {base : Nat} (ob : Obj) {o : OpD} {cs : List Value} (h : opO base w o cs) : opO base (w.alloc ob) o cs := by
  obtain ⟨s, h1, h2⟩ := h
  exact ⟨s, h1, own_alloc h2 ob⟩
theorem opO_rd {w : World} {base : Nat} {o : OpD} {cs : List Value} (h : opO base w o cs) : opR w o cs := by
  obtain ⟨s, h1, h2⟩ := h
  exact ⟨s, h1, own_rd h2⟩
theorem rdEach_map {α : Type} {R S : Rd α} {sz : Nat} {w w' : World} {zs : List α} {xs : List Value} (h : rdEach R sz w zs xs) (hm : ∀ a cs, R w a cs → S w' a cs) : rdEach S sz w' zs xs := ⟨h.1, fun j a ha => hm a _ (h.2 j a ha)⟩
theorem fill_one (d Z : Array Value) (n : Nat) (hd : d.size = n) (hZ : Z.size = n) : Instr.fill (fun i => some (i * n, n)) Z [(0, .agg d)] = some d := by
  simp only [Instr.fill, Value.cells, hd, Nat.zero_mul]
  rw [← Array.foldl_toList, Array.toList_zipIdx]
  have f1 := fold_set d.toList 0 0 Z (by simp; omega)
  simp only [Nat.zero_add] at f1 ⊢
  rw [f1, if_neg (by simp; omega)]
  congr 1
  apply Array.ext'
  simp only [List.take_zero, List.nil_append]
  rw [List.drop_eq_nil_of_le (by simp; omega), List.append_nil]
theorem info_op : (Tryd.prog.info? 101).map (fun i => (i.zero, i.size, i.bytes)) = some (some (.agg zOp), 3, 40) := by kernel_rfl
theorem run_buildSlice_op (d : Array Value) (hd : d.size = 3) (w : World) :
    (Instr.buildSlice 55 1 #[(0, .agg d)]).run Tryd.prog w = .ok (.slice (some ⟨w.heap.size, 0, none⟩) 1 1) (w.alloc (.cells d 101)) := by
  obtain ⟨i, hi, hz, hs, -⟩ := info_parts' info_op
  have hf := fun (f : Nat → Value) => fill_one d ((Array.range 3).map f) 3 hd (by simp)
  simp [Instr.buildSlice, run_underlying Tryd.underlying55, sizeOf, typeInfo, zeroValue, hi, hz, hs, hf, newRow, Value.cells]
theorem run_build_op (ev : Operand → Value) (w : World) (dst : Option Tmp) (x : Operand) (type : TypeId) (pos : String) (after : Array Edge) (guard : Option (Nat × Bool))
    (hx : isAggV (ev x) = true) (hsx : (aggCells (ev x)).size = 3) :
    (execOp ev ⟨dst, .buildSlice 55 1 #[(0, x)], type, pos, after, guard⟩).run Tryd.prog w = .ok (.value (.slice (some ⟨w.heap.size, 0, none⟩) 1 1)) (w.alloc (.cells (aggCells (ev x)) 101)) := by
  unfold isAggV at hx
  split at hx
  · rename_i d hd
    rw [hd] at hsx ⊢
    simp only [aggCells] at hsx ⊢
    have := run_buildSlice_op d hsx w
    simp only [execOp, List.map_toArray, List.map_cons, List.map_nil, hd, Sem.run_bind, this]
    rfl
  · cases hx
theorem rd_new_row (w : World) (cs : Array Value) (t : TypeId) (g : Nat) (hg : g = w.heap.size) : rd (w.alloc (.cells cs t)) (.slice (some ⟨g, 0, none⟩) 1 1) 1 cs.toList := by
  subst hg
  refine ⟨_, 1, rfl, Nat.le_refl _, by unfold maxLen; omega, .inr ⟨w.heap.size, 0, rfl, fun j u hj => ?_⟩⟩
  rw [Nat.zero_add, cell_of_row _ _ _ _ _ _ (heap_alloc_new w _)]
  simpa using hj
theorem lockF_small (os : List OpD) (h : lockF os = 0) : os.length ≤ 60 ∧ ∀ o ∈ os, o.data.length ≤ 300 := by
  unfold lockF at h
  split at h
  · cases h
  · rename_i hn
    refine ⟨by omega, ?_⟩
    split at h
    · rename_i hf
      clear h hn
      induction os with
      | nil => intro o ho; cases ho
      | cons a os ih =>
        unfold firstF at hf
        split at hf
        · rename_i ha
          intro o ho
          rcases List.mem_cons.1 ho with rfl | ho
          · unfold opF at ha
            split at ha
            · cases ha
            · split at ha
              · cases ha
              · omega
          · exact ih hf o ho
        · rename_i ha; exact absurd hf ha
    · rename_i hf; exact absurd h hf
theorem opO_setCell {w : World} {base G k : Nat} {c : Array Value} {fr : Nat × Nat} {t : TypeId} (ht : 5 ≠ t) (hg : w.heap[G]? = some (.cells c t fr)) (u : Value) {o : OpD} {cs : List Value} (h : opO base w o cs) : opO base (w.setCell ⟨G, k, none⟩ u) o cs := by
  obtain ⟨s, h1, h2⟩ := h
  exact ⟨s, h1, own_setCell h2 _ _ (own_ne h2 hg ht)⟩
attribute [local go_sem ↓] run_build_op
def CopiedPost (os : List OpD) (w : World) (e : Ending) (w' : World) : Prop :=
  ∃ v xs, e = .returned v ∧ own w' w.heap.size 101 3 v os.length xs ∧ rdEach (opO w.heap.size) 3 w' os xs ∧ Below w.heap.size w w'
theorem copiedPost_mk {os : List OpD} {w w' : World} {e : Ending} (v : Value) (xs : List Value) (he : e = .returned v) (h1 : own w' w.heap.size 101 3 v os.length xs) (h2 : rdEach (opO w.heap.size) 3 w' os xs) (h3 : Below w.heap.size w w') : CopiedPost os w e w' := ⟨v, xs, he, h1, h2, h3⟩
set_option maxHeartbeats 4000000 in
set_option maxRecDepth 100000 in
theorem copied_any (os : List OpD) (ao : Option Addr) (cap : Nat) (w : World) (h : rdSl opR 3 w (.slice ao os.length cap) os) (hn : os.length ≤ 60) (hd : ∀ o ∈ os, o.data.length ≤ 300) :
    Calls Tryd.prog 78 #[.slice ao os.length cap] w (CopiedPost os w) := by
  obtain ⟨_, _, e, hcap, hmax⟩ := sl_bounds h
  cases e
  unfold maxLen at hmax
  have HS := Lib.hid h; have HD := Lib.hid hd
  clear h hd
  obtain ⟨i0, hi0, hz0, hz1, hz2⟩ := info_parts' info_op
  go_enter Tryd.func78, Tryd.ntmps78
  go_wp2_with fail
  go_loopw [3, 8] (fun v c wr => ∃ (j : Nat) (xs : List Value), j ≤ os.length ∧ c = .int .i64 j ∧ Hid (own wr w.heap.size 101 3 v j xs) ∧ Hid (rdEach (opO w.heap.size) 3 wr (os.take j) xs) ∧ Hid (Below w.heap.size w wr)) (fun _ c _ => os.length - (intOf c).toNat)
  case atStart => exact ⟨0, [], by omega, rfl, Lib.hid (own_nil _ _ _ _), Lib.hid (rdEach_nil _ _ _), Lib.hid (Below.refl _ _)⟩
  case round =>
    obtain ⟨j, xs, hj, rfl, HO, HE, HB⟩ := hrel
    have ho' := HO.out
    obtain ⟨-, oo, ocap, rfl, o1, o2, -⟩ := ho'
    unfold maxLen at o2
    by_cases hlt : j < os.length
    · obtain ⟨g, off, so, dcap, rfl, -, d1, d2, hdat, hrow⟩ := op_at (opR_stays.slB HS.out HB.out (Nat.le_refl _)) j hlt
      have hd3 := HD.out os[j] (List.getElem_mem _)
      have htk : os.take (j + 1) = os.take j ++ [os[j]] := List.take_succ_eq_append_getElem hlt
      obtain ⟨o, ho⟩ : ∃ o, os[j] = o := ⟨_, rfl⟩
      rw [ho] at d1 hdat hrow hd3 htk
      have HTK := Lib.hid htk
      obtain ⟨n1, n2, n3, n5⟩ := new_op wr o.op o.n so o.data.length dcap
      have B0 := Lib.hid (HB.out.alloc HB.out.size (.cells #[.int .i64 o.op, .int .i64 o.n, .slice so o.data.length dcap] 101))
      have HG0 := Lib.hid (heap_alloc_new wr (.cells #[.int .i64 o.op, .int .i64 o.n, .slice so o.data.length dcap] 101))
      have HO0 := Lib.hid (own_alloc HO.out (.cells #[.int .i64 o.op, .int .i64 o.n, .slice so o.data.length dcap] 101))
      have HE0 := Lib.hid (rdEach_map HE.out (fun a cs ha => opO_alloc (.cells #[.int .i64 o.op, .int .i64 o.n, .slice so o.data.length dcap] 101) ha))
      have HD0 := Lib.hid (rd_alloc hdat (.cells #[.int .i64 o.op, .int .i64 o.n, .slice so o.data.length dcap] 101))
      have hsz0 : (wr.alloc (.cells #[.int .i64 o.op, .int .i64 o.n, .slice so o.data.length dcap] 101)).heap.size = wr.heap.size + 1 := by simp
      have hG := HB.out.size
      clear ho htk hdat
      unfold zOp at n1 n2
      go_wp2_with fail
      clear n1 n2 n3 n5
      change Calls _ _ _ (wr.alloc (.cells #[.int .i64 o.op, .int .i64 o.n, .slice so o.data.length dcap] 101)) _
      obtain ⟨G, hGe⟩ : ∃ G, wr.heap.size = G := ⟨_, rfl⟩
      have hOG : ∀ k, wrow (.slice oo j ocap) = some k → k < G := fun k hk => by have := (own_lt HO.out hk).2.1; omega
      have HOG := Lib.hid hOG
      clear hOG
      rw [hGe] at HG0 hsz0 hG ⊢
      generalize wr.alloc (.cells #[.int .i64 o.op, .int .i64 o.n, .slice so o.data.length dcap] 101) = w0 at B0 HG0 HO0 HE0 HD0 hsz0 ⊢
      clear hrow
      refine (clone_any o.data so o.data.length dcap w0 HD0.out rfl (by omega)).mono ?_
      rintro e w1 ⟨sv, rfl, hos, hb1⟩
      have hos' := hos
      obtain ⟨-, sa, scap, rfl, s1, s2, -⟩ := hos'
      unfold maxLen at s2
      have hzb := hb1.size
      have HG1 : Hid (w1.heap[G]? = some (.cells #[.int .i64 o.op, .int .i64 o.n, .slice so o.data.length dcap] 101 (0, 0))) := (hb1.block _ (by omega)).trans HG0.out
      have hG2 : w1.cell? ⟨G, 2, none⟩ = some (.slice so o.data.length dcap) := by rw [cell_of_row _ _ _ _ _ _ HG1.out]; rfl
      have hF2 : w1.frozen? ⟨G, 2, none⟩ = false := frozen_of_row _ _ _ _ _ HG1.out
      have B1 := Lib.hid (B0.out.trans (hb1.mono B0.out.size))
      have HO1 := Lib.hid (own_below hb1 HO0.out (Nat.le_refl _))
      have HE1 := Lib.hid (rdEach_map HE0.out (fun a cs ha => opO_below hb1 ha))
      have HOS := Lib.hid hos
      have hsne : Hid (wrow (.slice sa o.data.length scap) ≠ some G) := fun hk => by have := (own_lt HOS.out hk).1; omega
      have hone : Hid (wrow (.slice oo j ocap) ≠ some G) := fun hk => by have := HOG.out G hk; omega
      have HG3 : Hid ((w1.setCell ⟨G, 2, none⟩ (.slice sa o.data.length scap)).heap[G]? = some (.cells #[.int .i64 o.op, .int .i64 o.n, .slice sa o.data.length scap] 101 (0, 0))) := heap_setCell_same _ _ _ _ _ _ HG1.out
      have HO2 := Lib.hid (own_setCell HO1.out ⟨G, 2, none⟩ (.slice sa o.data.length scap) hone.out)
      have HE2 := Lib.hid (rdEach_map HE1.out (fun a cs ha => opO_setCell (k := 2) (by decide) HG1.out (.slice sa o.data.length scap) ha))
      have HOS2 := Lib.hid (own_setCell HOS.out ⟨G, 2, none⟩ (.slice sa o.data.length scap) hsne.out)
      have B2 : Hid (Below w.heap.size w (w1.setCell ⟨G, 2, none⟩ (.slice sa o.data.length scap))) := B1.out.setCell (by show w.heap.size ≤ G; exact hG) _
      clear hb1 hos
      go_upto_region 6 with fail
      change Code.wp _ _ _ _ (w1.setCell ⟨G, 2, none⟩ (.slice sa o.data.length scap))
      generalize w1.setCell ⟨G, 2, none⟩ (.slice sa o.data.length scap) = w2 at HG3 HO2 HE2 HOS2 B2 ⊢
      clear hG2 hF2
      have r3 : rowAt w2 G 0 3 = some #[.int .i64 o.op, .int .i64 o.n, .slice sa o.data.length scap] := rowAt_whole HG3.out 3 rfl
      have B3 := Lib.hid (B2.out.alloc B2.out.size (.cells #[.int .i64 o.op, .int .i64 o.n, .slice sa o.data.length scap] 101))
      have HO3 := Lib.hid (own_alloc HO2.out (.cells #[.int .i64 o.op, .int .i64 o.n, .slice sa o.data.length scap] 101))
      have HE3 := Lib.hid (rdEach_map HE2.out (fun a cs ha => opO_alloc (.cells #[.int .i64 o.op, .int .i64 o.n, .slice sa o.data.length scap] 101) ha))
      have HOS3 := Lib.hid (own_alloc HOS2.out (.cells #[.int .i64 o.op, .int .i64 o.n, .slice sa o.data.length scap] 101))
      have HN3 := Lib.hid (rd_new_row w2 #[.int .i64 o.op, .int .i64 o.n, .slice sa o.data.length scap] 101 _ rfl)
      go_wp2_with (at_builtin; refine wpList_append_rd rfl (.tmp 16) (.tmp 18) 55 rfl 101 i0 (.agg zOp) 3 40 Tryd.underlying55 hi0 hz0 hz1 hz2 rfl (by decide) w.heap.size j _ HO3.out 1 _ ?c1 HN3.out ?c5 ?c2 ?c3 ?c4 ?_)
      case c2 => unfold maxLen; omega
      case c3 => omega
      case c4 => have := B3.out.size; simpa using this
      intro v1 w4 ho1 hold hg1
      have B4 := Lib.hid (B3.out.grown hg1 B3.out.size (fun q hq => (own_lt HO3.out hq).1))
      have HO4 := Lib.hid ho1
      have HE4 := Lib.hid (rdEach_map HE3.out (fun a cs ha => opO_grown (w' := w4) HO3.out (by decide) hg1 ha))
      have hnew : opO w.heap.size w4 o [.int .i64 o.op, .int .i64 o.n, .slice sa o.data.length scap] :=
        opO_grown HO3.out (by decide) hg1 ⟨_, rfl, own_base HOS3.out (by omega)⟩
      have HE5 := Lib.hid (rdEach_snoc HE4.out rfl hnew)
      clear ho1 hold hg1 hnew
      go_wp2_with fail
      go_roundw
      case rel => exact ⟨j + 1, _, by omega, by go_num, HO4, Lib.hid (by rw [HTK.out]; exact HE5.out), B4⟩
      case measure => simp [intOf]; omega
    · have HTK := Lib.hid (List.take_of_length_le (show os.length ≤ j by omega))
      have hj2 : j = os.length := by omega
      have HJ := Lib.hid hj2
      clear hj2
      go_wp2
      go_ret
      exact copiedPost_mk _ xs rfl (by rw [← HJ.out]; exact HO.out) (by have := HE.out; rw [HTK.out] at this; exact this) HB.out
end Go.Proofs.YtljcdkfafknnpaaDoor
