/- Merged: Idb. Conditions: none beyond each theorem's own. -/
import Derived.Test.YtljcdkfafknnpaaGreatDoorBhd
import Derived.Test.YtljcdkfafknnpaaGreatDoorMf
import Derived.Test.YtljcdkfafknnpaaGreatDoorTfw
import Derived.Test.YtljcdkfafknnpaaGreatDoorMb
import Derived.Test.YtljcdkfafknnpaaGreatDoorTroot
import Derived.Test.YtljcdkfafknnpaaGreatDoorRrot
import Derived.Test.YtljcdkfafknnpaaGreatDoorMc
namespace Go.Proofs.YtljcdkfafknnpaaGreatDoor
set_option linter.unusedVariables false
set_option linter.unusedSimpArgs false
open Go.RowKit
theorem run_buildSlice_dg (d : Array Value) (hd : d.size = 32) (w : World) :
    (Instr.buildSlice 47 1 #[(0, .agg d)]).run Tryz.prog w = .ok (.slice (some ⟨w.heap.size, 0, none⟩) 1 1) (w.alloc (.cells d 23)) := by
  obtain ⟨i, hi, hz, hs, -⟩ := info_parts' info_dig
  have hf := fun (f : Nat → Value) => fill_one d ((Array.range 32).map f) 32 hd (by simp)
  simp [Instr.buildSlice, run_underlying Tryz.underlying47, sizeOf, typeInfo, zeroValue, hi, hz, hs, hf, newRow, Value.cells]
theorem run_build_dg (ev : Operand → Value) (w : World) (dst : Option Tmp) (x : Operand) (type : TypeId) (pos : String) (after : Array Edge) (guard : Option (Nat × Bool))
    (hx : isAggV (ev x) = true) (hsx : (aggCells (ev x)).size = 32) :
    (execOp ev ⟨dst, .buildSlice 47 1 #[(0, x)], type, pos, after, guard⟩).run Tryz.prog w = .ok (.value (.slice (some ⟨w.heap.size, 0, none⟩) 1 1)) (w.alloc (.cells (aggCells (ev x)) 23)) := by
  unfold isAggV at hx
  split at hx
  · rename_i d hd
    rw [hd] at hsx ⊢
    simp only [aggCells] at hsx ⊢
    have := run_buildSlice_dg d hsx w
    simp only [execOp, List.map_toArray, List.map_cons, List.map_nil, hd, Sem.run_bind, this]
    rfl
  · cases hx
attribute [local go_sem ↓] run_load_agg run_store_agg run_load_any run_build_dg exec_build_dg0
theorem tx_at {w : World} {ao : Option Addr} {n cap : Nat} {ts : List TxD} (h : rdSl txR 3 w (.slice ao n cap) ts) (j : Nat) (hj : j < ts.length) :
    ∃ g off ai ci bo co, ao = some ⟨g, off, none⟩ ∧ n = ts.length ∧ rdSl inR 34 w (.slice ai ts[j].ins.length ci) ts[j].ins ∧ rdSl outR 2 w (.slice bo ts[j].outs.length co) ts[j].outs ∧
      rowAt w g (off + j * 3) 3 = some #[.slice ai ts[j].ins.length ci, .slice bo ts[j].outs.length co, .int .i64 ts[j].time] := by
  obtain ⟨g, off, cap', xs, e, hR, hl, hrow⟩ := rdSl_row h (by decide) j ts[j] (List.getElem?_eq_getElem hj)
  cases e
  obtain ⟨a, b, rfl, h1, h2⟩ := hR
  have h1' := h1
  have h2' := h2
  obtain ⟨ai, ci, rfl, -, -⟩ := sl_bounds h1'
  obtain ⟨bo, co, rfl, -, -⟩ := sl_bounds h2'
  exact ⟨g, off, ai, ci, bo, co, rfl, rfl, h1, h2, by rw [hrow]⟩
/-- A row of digests of the call's own. -/
structure Dgs (w0 : World) (bs : List BoxD) (v : Value) (ds : List (List UInt8)) (w : World) : Prop where
  kept : Kept w0 bs w
  row : own w w0.heap.size 23 32 v ds.length (ds.flatten.map vB)
theorem Dgs.nil {w0 w : World} {bs : List BoxD} (h : Kept w0 bs w) : Dgs w0 bs (.slice none 0 0) [] w := ⟨h, own_nil _ _ _ _⟩
theorem Dgs.on {w0 w w' : World} {bs : List BoxD} {v : Value} {ds : List (List UInt8)} (h : Dgs w0 bs v ds w) (hb : Below w.heap.size w w') : Dgs w0 bs v ds w' := ⟨h.kept.on hb, own_below hb h.row (Nat.le_refl _)⟩
theorem Dgs.alloc {w0 w : World} {bs : List BoxD} {v : Value} {ds : List (List UInt8)} (h : Dgs w0 bs v ds w) (d : Array Value) (t : TypeId) : Dgs w0 ((w.heap.size, d, t) :: bs) v ds (w.alloc (.cells d t)) := ⟨h.kept.alloc d t, own_alloc h.row _⟩
theorem Dgs.tail {w0 w : World} {b : BoxD} {bs : List BoxD} {v : Value} {ds : List (List UInt8)} (h : Dgs w0 (b :: bs) v ds w) : Dgs w0 bs v ds w := ⟨⟨h.kept.below, fun x hx => h.kept.at_ x (List.mem_cons_of_mem _ hx)⟩, h.row⟩
/-- In the walk: a digest is appended; the boxes are of other types. -/
theorem wpList_dgs {ops : Array Oper} {rest : List Oper} {o : Oper} {a : Act} {w0 w : World} {Q : Exit → Act → World → Prop} {bs : List BoxD} {v : Value} {ds : List (List UInt8)} (hgd : o.guard = none) (s x : Operand)
    (ho : o.op = .call { callee := .builtin .append, args := #[s, x], argTypes := #[47, 47] }) (d : List UInt8) (hS : Dgs w0 bs v ds w) (hs : a.eval s = v)
    (ht2 : ∀ b ∈ bs, wrow v ≠ some b.1) (hd : d.length = 32) (hx : rd w (a.eval x) 1 (d.map vB)) (hlen : ds.length ≤ 1000000)
    (h : ∀ va cap w', Hid (Dgs w0 bs (.slice va (ds ++ [d]).length cap) (ds ++ [d]) w') → wpList Tryz.prog ops Q rest (a.put o.dst (.slice va (ds ++ [d]).length cap)) w') : wpList Tryz.prog ops Q (o :: rest) a w := by
  obtain ⟨i0, hi0, hz0, hz1, hz2⟩ := info_parts' info_dig
  obtain ⟨k1, k2⟩ := hS
  refine wpList_append_row hgd s x 47 ho 23 i0 (.agg zD) 32 32 Tryz.underlying47 hi0 hz0 hz1 hz2 zD_size (by decide) w0.heap.size ds.length _ (by rw [hs]; exact k2) 1 (d.map vB) (by simp [hd]) hx (vB_plain _) (by unfold maxLen; omega) (by omega) k1.below.size fun v' w' ho' hg' hr' => ?_
  rw [hs] at hg'
  have hk : Kept w0 bs w' := ⟨k1.below.grown hg' k1.below.size (fun q hq => (own_lt k2 hq).1), fun b hb => (hg'.block b.1 (Array.getElem?_eq_some_iff.1 (k1.at_ b hb)).1 (fun e => ht2 b hb e.symm)).trans (k1.at_ b hb)⟩
  have ho2 : own w' w0.heap.size 23 32 v' (ds ++ [d]).length ((ds ++ [d]).flatten.map vB) := by
    rw [List.length_append]
    have e : (ds ++ [d]).flatten.map vB = ds.flatten.map vB ++ d.map vB := by simp
    rw [e]; exact ho'
  have hoc := ho2
  obtain ⟨-, va, cap, rfl, -, -, -⟩ := hoc
  exact h va cap w' ⟨hk, ho2⟩
theorem rd_new_dg (w : World) (d : List UInt8) (g : Nat) (hg : g = w.heap.size) : rd (w.alloc (.cells (dgV d) 23)) (.slice (some ⟨g, 0, none⟩) 1 1) 1 (d.map vB) := by
  have := rd_new_row w (dgV d) 23 g hg
  simpa [dgV] using this
/-- What is wrong with payments. -/
def firstT : List TxD → Int
  | [] => 0
  | t :: ts => if txF t = 0 then firstT ts else txF t
def idsE (ts : List TxD) : Int := if 100 < ts.length then 4 else firstT ts
def idsL (ts : List TxD) : List (List UInt8) := ts.map idD
theorem idsL_32 (ts : List TxD) : ∀ d ∈ idsL ts, d.length = 32 := fun d hd => by
  obtain ⟨t, -, rfl⟩ := List.mem_map.1 hd
  exact idD_length t
theorem firstT_step (ts : List TxD) (j : Nat) (hj : j < ts.length) : (txF ts[j] = 0 → firstT (ts.drop j) = firstT (ts.drop (j + 1))) ∧ (txF ts[j] ≠ 0 → firstT (ts.drop j) = txF ts[j]) := by
  rw [List.drop_eq_getElem_cons hj]
  exact ⟨fun h => by rw [firstT, if_pos h], fun h => by rw [firstT, if_neg h]⟩
theorem idsL_take (ts : List TxD) (j : Nat) (hj : j < ts.length) : idsL (ts.take (j + 1)) = idsL (ts.take j) ++ [idD ts[j]] := by
  unfold idsL; rw [List.take_succ_eq_append_getElem hj, List.map_append]; rfl
def IdsPost (ts : List TxD) (w : World) (e : Ending) (w' : World) : Prop :=
  Below w.heap.size w w' ∧ ((idsE ts ≠ 0 ∧ e = .returned (.tuple #[.slice none 0 0, .int .i64 (idsE ts)])) ∨ (idsE ts = 0 ∧ ∃ va cap, e = .returned (.tuple #[.slice va ts.length cap, .int .i64 0]) ∧ rd w' (.slice va ts.length cap) ts.length ((idsL ts).flatten.map vB)))
theorem idsPost_no {ts : List TxD} {w w' : World} {e : Ending} (f : Int) (hf : idsE ts = f) (hz : f ≠ 0) (hb : Below w.heap.size w w') (he : e = .returned (.tuple #[.slice none 0 0, .int .i64 f])) : IdsPost ts w e w' := ⟨hb, .inl ⟨by rw [hf]; exact hz, by rw [hf]; exact he⟩⟩
theorem idsPost_yes {ts : List TxD} {w w' : World} {e : Ending} (va : Option Addr) (cap : Nat) (hf : idsE ts = 0) (hb : Below w.heap.size w w') (he : e = .returned (.tuple #[.slice va ts.length cap, .int .i64 0])) (h1 : rd w' (.slice va ts.length cap) ts.length ((idsL ts).flatten.map vB)) : IdsPost ts w e w' := ⟨hb, .inr ⟨hf, va, cap, he, h1⟩⟩
set_option maxHeartbeats 4000000 in
set_option maxRecDepth 100000 in
theorem ids_any (ts : List TxD) (ta : Option Addr) (tc : Nat) (w : World) (h : rdSl txR 3 w (.slice ta ts.length tc) ts) :
    Calls Tryz.prog 17 #[.slice ta ts.length tc] w (IdsPost ts w) := by
  obtain ⟨_, _, e, k1, k2⟩ := sl_bounds h
  cases e
  unfold maxLen at k2
  have HS := Lib.hid h
  clear h
  go_enter Tryz.func17, Tryz.ntmps17
  by_cases hbig : 100 < ts.length
  · have HE : Hid (idsE ts = 4) := Lib.hid (by unfold idsE; rw [if_pos hbig])
    go_wp2
    go_ret2
    exact idsPost_no 4 HE.out (by decide) (Below.refl _ _) rfl
  have HE : Hid (idsE ts = firstT ts) := Lib.hid (by unfold idsE; rw [if_neg hbig])
  go_wp2_with fail
  go_loopw [4, 5] (fun s c wr => ∃ (j : Nat) (v : Value), j ≤ ts.length ∧ v = s ∧ c = .int .i64 j ∧ Hid (Dgs w [] v (idsL (ts.take j)) wr) ∧ Hid (firstT ts = firstT (ts.drop j))) (fun _ c _ => ts.length - (intOf c).toNat)
  case atStart => exact ⟨0, _, by omega, rfl, rfl, Lib.hid (Dgs.nil (Kept.refl w)), Lib.hid rfl⟩
  case round =>
    obtain ⟨j, v, hj, rfl, rfl, HD, HF⟩ := hrel
    by_cases hlt : j < ts.length
    · obtain ⟨g, off, ai, ci, bo, co, rfl, -, hi, ho, hrow⟩ := tx_at (txR_stays.slB HS.out HD.out.kept.below (Nat.le_refl _)) j hlt
      have HST := Lib.hid (firstT_step ts j hlt)
      have HTK := Lib.hid (idsL_take ts j hlt)
      have hlen : (idsL (ts.take j)).length ≤ 1000 := by unfold idsL; rw [List.length_map, List.length_take]; omega
      obtain ⟨t, ht⟩ : ∃ t, ts[j] = t := ⟨_, rfl⟩
      rw [ht] at hi ho hrow HST HTK
      have HI := Lib.hid hi; have HO := Lib.hid ho
      obtain ⟨S, hS⟩ : ∃ S, idsL (ts.take j) = S := ⟨_, rfl⟩
      rw [hS] at HD HTK hlen
      have hgl := rowAt_lt hrow
      have HROW := Lib.hid hrow
      clear ht hi ho hS
      go_wp2_with fail
      refine (txFault_any t ai bo ci co _ HI.out HO.out).mono ?_
      rintro e w1 ⟨rfl, hb⟩
      have HD1 := Lib.hid (HD.out.on hb)
      have HI1 := Lib.hid (inR_stays.slB HI.out hb (Nat.le_refl _))
      have HO1 := Lib.hid (outR_stays.slB HO.out hb (Nat.le_refl _))
      have hrow1 : rowAt w1 g (off + j * 3) 3 = some #[.slice ai t.ins.length ci, .slice bo t.outs.length co, .int .i64 t.time] := (rowAt_below hb hgl _ _).trans HROW.out
      obtain ⟨f, hf⟩ : ∃ f, txF t = f := ⟨_, rfl⟩
      have HFF := Lib.hid hf
      rw [hf] at HST ⊢
      clear hf hb hrow
      by_cases hz : f = 0
      rotate_left
      · have HE2 : Hid (idsE ts = f) := Lib.hid (by rw [HE.out, HF.out, HST.out.2 hz])
        have HNZ := Lib.hid hz
        have x2 : (f != 0) = true := bne_iff_ne.2 hz
        clear hz hrow1
        go_wp2
        go_ret2
        exact idsPost_no f HE2.out HNZ.out HD1.out.kept.below rfl
      have HF2 := Lib.hid (HF.out.trans (HST.out.1 hz))
      have HTF : Hid (txF t = 0) := Lib.hid (HFF.out.trans hz)
      subst hz
      have hle : Hid ((bareM t).length ≤ 1000000) := Lib.hid (bareM_le (txOk_of HTF.out) (fun x hx => by
        obtain ⟨i, hi', rfl⟩ := List.getElem_of_mem hx
        obtain ⟨_, _, _, _, _, _, h32', -⟩ := in_at HI1.out i hi'
        exact h32'))
      go_wp2_with fail
      refine (idText_any t ai bo ci co w1 HI1.out HO1.out HTF.out).mono ?_
      rintro e w2 ⟨v2, rfl, hv, hb⟩
      have HD2 := Lib.hid (HD1.out.on hb)
      have HRD := Lib.hid (own_rd hv)
      clear hv hb hrow1
      go_wp2_with fail
      refine (rsum_any (21 :: bareM t) v2 _ w2 HRD.out rfl (by have := hle.out; simp only [List.length_cons]; omega)).mono ?_
      rintro e w3 ⟨rfl, hb⟩
      have HD3 := Lib.hid (HD2.out.on hb)
      clear hb HRD
      have hid32 : (shaM (21 :: bareM t)).length = 32 := shaM_length _
      obtain ⟨id, hid⟩ : ∃ id, shaM (21 :: bareM t) = id := ⟨_, rfl⟩
      have HID : Hid (idD t = id) := Lib.hid (by unfold idD; exact hid)
      rw [hid] at hid32 ⊢
      clear hid
      have hds : (dgV id).size = 32 := by rw [dgV_size, hid32]
      have HD4 := Lib.hid ((HD3.out.alloc (dgV id) 23).tail)
      have hid32' := Lib.hid hid32
      clear hid32
      go_wp2_with (at_builtin; refine wpList_dgs rfl (.tmp 24) (.tmp 31) rfl id HD4.out rfl (fun b hb => by cases hb) hid32'.out (rd_new_dg w3 id _ rfl) (by omega) ?_)
      intro va vcap w5 HD5
      go_wp2_with fail
      go_roundw
      case rel => exact ⟨j + 1, _, by omega, rfl, by go_num, Lib.hid (by rw [HTK.out, HID.out]; exact HD5.out), HF2⟩
      case measure => simp [intOf]; omega
    · have HE2 : Hid (idsE ts = 0) := Lib.hid (by rw [HE.out, HF.out, List.drop_eq_nil_of_le (by omega)]; rfl)
      have hl : (idsL (ts.take j)).length = ts.length := by unfold idsL; rw [List.length_map, List.length_take]; omega
      have hoc := HD.out.row
      rw [hl] at hoc
      have hoc2 := hoc
      obtain ⟨-, va, cap, rfl, -, -, -⟩ := hoc2
      have HR : Hid (rd wr (.slice va ts.length cap) ts.length ((idsL ts).flatten.map vB)) := Lib.hid (by
        have := own_rd hoc
        rwa [List.take_of_length_le (show ts.length ≤ j by omega)] at this)
      clear hl hoc
      go_wp2
      go_ret2
      exact idsPost_yes va cap HE2.out HD.out.kept.below rfl HR.out
def rootE (ts : List TxD) : List UInt8 := if idsE ts = 0 then rootM (idsL ts) else List.replicate 32 0
theorem rootE_length (ts : List TxD) : (rootE ts).length = 32 := by
  unfold rootE
  split
  · exact rootM_length _ (idsL_32 ts)
  · simp
def RootPost (ts : List TxD) (w : World) (e : Ending) (w' : World) : Prop := e = .returned (.tuple #[.agg (dgV (rootE ts)), errV (idsE ts)]) ∧ Below w.heap.size w w'
theorem rootPost_no {ts : List TxD} {w w' : World} (f : Int) (hf : idsE ts = f) (hz : f ≠ 0) (hb : Below w.heap.size w w') : RootPost ts w (.returned (.tuple #[.agg zD, .iface 30 (.int .i64 f)])) w' :=
  ⟨by unfold rootE; rw [hf, if_neg hz, errV_ne hz, zD_eq], hb⟩
set_option maxHeartbeats 8000000 in
set_option maxRecDepth 100000 in
theorem blockRoot_any (ts : List TxD) (ta : Option Addr) (tc : Nat) (w : World) (h : rdSl txR 3 w (.slice ta ts.length tc) ts) (hT : tabAt w) :
    Calls Tryz.prog 19 #[.slice ta ts.length tc] w (RootPost ts w) := by
  obtain ⟨_, _, e, k1, k2⟩ := sl_bounds h
  cases e
  unfold maxLen at k2
  have hgT := rowAt_lt hT
  have HTB := Lib.hid hT
  have HS := Lib.hid h
  have k0 := (Kept.refl w).alloc zD 23
  have K0 := Lib.hid k0
  clear h hT k0
  go_enter Tryz.func19, Tryz.ntmps19
  go_upto_region 1 with fail
  change Code.wp _ _ _ _ (w.alloc (.cells zD 23))
  obtain ⟨D, hD⟩ : ∃ D, w.heap.size = D := ⟨_, rfl⟩
  have HDG : Hid (w.heap.size ≤ D) := Lib.hid (by omega)
  have HDL : Hid (D < (w.alloc (.cells zD 23)).heap.size) := Lib.hid (by rw [← hD]; simp)
  have K0' : Hid (∃ w0, w.alloc (.cells zD 23) = w0 ∧ Kept w [(D, zD, 23)] w0 ∧ D < w0.heap.size) := Lib.hid ⟨_, rfl, by rw [← hD]; exact K0.out, HDL.out⟩
  rw [hD] at ⊢
  clear hD K0 HDL
  obtain ⟨w0, hw0, k0, hdl⟩ := K0'.out
  rw [hw0]
  have K0 := Lib.hid k0
  clear hw0 k0 K0'
  by_cases hbig : 100 < ts.length
  · have HE : Hid (idsE ts = 4) := Lib.hid (by unfold idsE; rw [if_pos hbig])
    have s1 : (rowAt w0 D 0 32).isSome = true := by rw [K0.out.row 0 _ 32 rfl rfl]; rfl
    have s2 : wrAt w0 D = true := wrAt_of_heap (K0.out.get 0 _ rfl)
    have s3 : plainCells zD = true := rfl
    have s4 : zD.size = 32 := zD_size
    go_wp2
    refine bodyPost_ret (v := .tuple #[.agg zD, .iface 30 (.int .i64 4)]) (results_cell_tmp_at rfl _ _ D 0 _ _ rfl rfl agg_digest ?_) rfl ?_
    · rw [cells_digest]; exact rowAt_put_same (K0.out.get 0 _ rfl) zD rfl 32 rfl
    · exact rootPost_no 4 HE.out (by decide) (putAt_below K0.out.below HDG.out _ _)
  have HE : Hid (idsE ts = firstT ts) := Lib.hid (by unfold idsE; rw [if_neg hbig])
  have HQ0 : Hid (Dgs w0 [(D, zD, 23)] (.slice none 0 0) [] w0) := Lib.hid (Dgs.nil K0.out.self)
  go_wp2_with fail
  go_loopw [4, 16] (fun s c wr => ∃ (j : Nat) (v : Value), j ≤ ts.length ∧ v = s ∧ c = .int .i64 j ∧ Hid (Dgs w0 [(D, zD, 23)] v (idsL (ts.take j)) wr) ∧ Hid (firstT ts = firstT (ts.drop j))) (fun _ c _ => ts.length - (intOf c).toNat)
  case atStart => exact ⟨0, _, by omega, rfl, rfl, HQ0, Lib.hid rfl⟩
  case round =>
    obtain ⟨j, v, hj, rfl, rfl, HD, HF⟩ := hrel
    have KD := Lib.hid (K0.out.from_ HD.out.kept)
    by_cases hlt : j < ts.length
    · obtain ⟨g, off, ai, ci, bo, co, rfl, -, hi, ho, hrow⟩ := tx_at (txR_stays.slB HS.out KD.out.below (Nat.le_refl _)) j hlt
      have HST := Lib.hid (firstT_step ts j hlt)
      have HTK := Lib.hid (idsL_take ts j hlt)
      have hlen : (idsL (ts.take j)).length ≤ 1000 := by unfold idsL; rw [List.length_map, List.length_take]; omega
      obtain ⟨t, ht⟩ : ∃ t, ts[j] = t := ⟨_, rfl⟩
      rw [ht] at hi ho hrow HST HTK
      have HI := Lib.hid hi; have HO := Lib.hid ho
      obtain ⟨S, hS⟩ : ∃ S, idsL (ts.take j) = S := ⟨_, rfl⟩
      rw [hS] at HD HTK hlen
      clear ht hi ho hS
      obtain ⟨n1, n2, n3⟩ := new_tx wr ai bo t.ins.length t.outs.length ci co t.time
      unfold zTx at n1 n2
      go_upto_region 7 with fail
      clear n1 n2 n3 hrow
      have K2' : Hid (∃ X w2, wr.heap.size = X ∧ wr.alloc (.cells (txV t ai bo ci co) 59) = w2 ∧ Dgs w0 [(X, txV t ai bo ci co, 59), (D, zD, 23)] v S w2 ∧ Below wr.heap.size wr w2) := Lib.hid ⟨_, _, rfl, rfl, HD.out.alloc _ _, (Below.refl _ _).alloc (Nat.le_refl _) _⟩
      change Code.wp _ _ _ _ (wr.alloc (.cells (txV t ai bo ci co) 59))
      obtain ⟨X, w2, hx, hw, d2, hb⟩ := K2'.out
      rw [hx, hw]
      have HD2 := Lib.hid d2
      have HI2 := Lib.hid (inR_stays.slB HI.out hb (Nat.le_refl _))
      have HO2 := Lib.hid (outR_stays.slB HO.out hb (Nat.le_refl _))
      have r1 : rowAt w2 X 0 3 = some #[.slice ai t.ins.length ci, .slice bo t.outs.length co, .int .i64 t.time] := d2.kept.row 0 _ 3 rfl rfl
      have KD2 := Lib.hid (K0.out.from_ d2.kept)
      clear hx hw d2 hb K2' HI HO
      go_wp2_with fail
      refine (txID_any t ai bo ci co w2 HI2.out HO2.out ((rowAt_below KD2.out.below hgT 0 64).trans HTB.out)).mono ?_
      rintro e w3 ⟨rfl, hb⟩
      have HD3 := Lib.hid (HD2.out.on hb)
      clear hb r1 HD2
      unfold idV
      obtain ⟨f, hf⟩ : ∃ f, txF t = f := ⟨_, rfl⟩
      rw [hf] at HST ⊢
      clear hf
      have hq32 : (if f = 0 then idD t else List.replicate 32 0).length = 32 := by
        split
        · exact idD_length t
        · simp
      obtain ⟨q, hq⟩ : ∃ q, (if f = 0 then idD t else List.replicate 32 0) = q := ⟨_, rfl⟩
      rw [hq] at hq32 ⊢
      have HQ := Lib.hid hq
      clear hq
      obtain ⟨p1, p2, p3, p4⟩ := new_dg w3 q hq32
      unfold zD at p1 p2
      have K4' : Hid (∃ Y w4, w3.heap.size = Y ∧ w3.alloc (.cells (dgV q) 23) = w4 ∧ Dgs w0 [(Y, dgV q, 23), (X, txV t ai bo ci co, 59), (D, zD, 23)] v S w4) := Lib.hid ⟨_, _, rfl, rfl, HD3.out.alloc _ _⟩
      by_cases hz : f = 0
      rotate_left
      · have HE2 : Hid (idsE ts = f) := Lib.hid (by rw [HE.out, HF.out, HST.out.2 hz])
        have HNZ := Lib.hid hz
        rw [errV_ne hz]
        clear hz
        go_upto_region 8 with fail
        clear p1 p2 p3 p4
        change Code.wp _ _ _ _ (w3.alloc (.cells (dgV q) 23))
        obtain ⟨Y, w4, hy, hw, d4⟩ := K4'.out
        rw [hy, hw]
        have K4 := Lib.hid (K0.out.from_ d4.kept)
        have s1 : (rowAt w4 D 0 32).isSome = true := by rw [K4.out.row 2 _ 32 rfl rfl]; rfl
        have s2 : wrAt w4 D = true := wrAt_of_heap (K4.out.get 2 _ rfl)
        have s3 : plainCells zD = true := rfl
        have s4 : zD.size = 32 := zD_size
        clear hy hw d4 K4'
        go_wp2
        refine bodyPost_ret (v := .tuple #[.agg zD, .iface 30 (.int .i64 f)]) (results_cell_tmp_at rfl _ _ D 0 _ _ rfl rfl agg_digest ?_) rfl ?_
        · rw [cells_digest]; exact rowAt_put_same (K4.out.get 2 _ rfl) zD rfl 32 rfl
        · exact rootPost_no f HE2.out HNZ.out (putAt_below K4.out.below HDG.out _ _)
      have HF2 := Lib.hid (HF.out.trans (HST.out.1 hz))
      have HID : Hid (idD t = q) := Lib.hid (by rw [← HQ.out, if_pos hz])
      subst hz
      rw [errV_0]
      go_upto_region 8 with fail
      clear p1 p2 p3
      change Code.wp _ _ _ _ (w3.alloc (.cells (dgV q) 23))
      obtain ⟨Y, w4, hy, hw, d4⟩ := K4'.out
      rw [hy, hw]
      have HD4 := Lib.hid d4
      have HD5 := Lib.hid ((d4.alloc (dgV q) 23).tail.tail.tail)
      have HBX : Hid (∀ b ∈ [(D, zD, 23)], wrow v ≠ some b.1) := Lib.hid (fun b hb e => by
        rw [List.mem_singleton.1 hb] at e
        have l1 := (own_lt HD.out.row e).1
        change w0.heap.size ≤ D at l1
        omega)
      have r2 : rowAt w4 Y 0 32 = some (dgV q) := d4.kept.row 0 _ 32 rfl (by rw [dgV_size]; exact hq32)
      have hq32' := Lib.hid hq32
      clear hy hw d4 K4' hq32
      go_wp2_with (at_builtin; refine wpList_dgs rfl (.tmp 29) (.tmp 31) rfl q HD5.out rfl HBX.out hq32'.out (rd_new_dg w4 q _ rfl) (by omega) ?_)
      intro va vcap w5 HD6
      clear r2
      go_wp2_with fail
      go_roundw
      case rel => exact ⟨j + 1, _, by omega, rfl, by go_num, Lib.hid (by rw [HTK.out, HID.out]; exact HD6.out), HF2⟩
      case measure => simp [intOf]; omega
    · have HE2 : Hid (idsE ts = 0) := Lib.hid (by rw [HE.out, HF.out, List.drop_eq_nil_of_le (by omega)]; rfl)
      have hl : (idsL (ts.take j)).length = ts.length := by unfold idsL; rw [List.length_map, List.length_take]; omega
      have hoc := HD.out.row
      rw [hl] at hoc
      have hoc2 := hoc
      obtain ⟨-, va, cap, rfl, -, -, -⟩ := hoc2
      have HR : Hid (rd wr (.slice va ts.length cap) ts.length ((idsL ts).flatten.map vB)) := Lib.hid (by
        have := own_rd hoc
        rwa [List.take_of_length_le (show ts.length ≤ j by omega)] at this)
      clear hl hoc
      go_wp2_with fail
      refine (Root_small (idsL ts) (idsL_32 ts) _ ts.length wr HR.out (by unfold idsL; simp) (by omega) ((rowAt_below KD.out.below hgT 0 64).trans HTB.out)).mono ?_
      rintro e w3 ⟨rfl, hb⟩
      have K4 := Lib.hid (KD.out.on hb)
      clear hb
      have hz32 : (rootM (idsL ts)).length = 32 := rootM_length _ (idsL_32 ts)
      have HRE : Hid (rootE ts = rootM (idsL ts)) := Lib.hid (by unfold rootE; rw [if_pos HE2.out])
      obtain ⟨q, hq⟩ : ∃ q, rootM (idsL ts) = q := ⟨_, rfl⟩
      rw [hq] at hz32 HRE ⊢
      have s1 : (rowAt w3 D 0 32).isSome = true := by rw [K4.out.row 0 _ 32 rfl rfl]; rfl
      have s2 : wrAt w3 D = true := wrAt_of_heap (K4.out.get 0 _ rfl)
      have s3 : plainCells (dgV q) = true := dgV_plain _
      have s4 : (dgV q).size = 32 := by rw [dgV_size, hz32]
      clear hq
      go_wp2
      refine bodyPost_ret (v := .tuple #[.agg (dgV q), .nilIface]) (results_cell_tmp_at rfl _ _ D 0 _ _ rfl rfl agg_digest ?_) rfl ⟨?_, ?_⟩
      · rw [cells_digest]; exact rowAt_put_same (K4.out.get 0 _ rfl) (dgV q) (by rw [s4]; rfl) 32 s4.symm
      · rw [HRE.out, HE2.out]; rfl
      · exact putAt_below K4.out.below HDG.out _ _
end Go.Proofs.YtljcdkfafknnpaaGreatDoor
