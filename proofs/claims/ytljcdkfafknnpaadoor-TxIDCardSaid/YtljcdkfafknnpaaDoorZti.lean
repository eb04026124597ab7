/- Merged: Txi RTxi ClTi. Conditions: none beyond each theorem's own. -/
import Derived.Test.YtljcdkfafknnpaaDoorMf
import Derived.Test.YtljcdkfafknnpaaDoorMc
import Derived.Test.YtljcdkfafknnpaaDoorMa
namespace Go.Proofs.YtljcdkfafknnpaaDoor
set_option linter.unusedVariables false
set_option linter.unusedSimpArgs false
open Go.RowKit
attribute [local go_sem ↓] run_load_agg run_store_agg run_load_any

theorem id' {P : Prop} (h : P) : P := h
theorem Kept.tl {w w1 : World} {b : BoxD} {bs : List BoxD} (h : Kept w (b :: bs) w1) : Kept w bs w1 := ⟨h.below, fun x hx => h.at_ x (List.mem_cons_of_mem _ hx)⟩
theorem Kept.put {w w1 : World} {X : Nat} {cs : Array Value} {T : TypeId} {bs : List BoxD} (h : Kept w ((X, cs, T) :: bs) w1) (i : Nat) (v : Value) (hX : w.heap.size ≤ X) (hn : ∀ b ∈ bs, b.1 ≠ X) : Kept w ((X, cs.setIfInBounds i v, T) :: bs) (w1.setCell ⟨X, i, none⟩ v) :=
  ⟨h.below.setCell hX _, fun b hb => by
    rcases List.mem_cons.1 hb with rfl | hb
    · exact heap_setCell_same _ _ _ _ _ _ (h.get 0 _ rfl)
    · exact (Below.heap_setCell _ _ _ _ (hn b hb)).trans (h.at_ b (List.mem_cons_of_mem _ hb))⟩
theorem Kept.other {w w1 : World} {bs : List BoxD} (h : Kept w bs w1) {base n sz : Nat} {v u : Value} {xs : List Value} {g i : Nat} (hu : own w1 base 37 sz u n xs) (hr : wrow u = some g) (hb : w.heap.size ≤ base) (ht : bs.all (fun x => decide (x.2.2 ≠ 37)) = true) : Kept w bs (w1.setCell ⟨g, i, none⟩ v) :=
  ⟨h.below.setCell (Nat.le_trans hb (own_lt hu hr).1) _, fun b hm => by
    have h1 := List.all_eq_true.1 ht b hm
    have hne : b.1 ≠ g := fun e => own_ne hu (h.at_ b hm) (by simp at h1; exact fun e => h1 e.symm) (by rw [hr, e])
    exact (Below.heap_setCell _ _ _ _ hne).trans (h.at_ b hm)⟩
theorem Kept.lt {w w1 : World} {bs : List BoxD} (h : Kept w bs w1) : ∀ b ∈ bs, b.1 < w1.heap.size := fun b hb => (Array.getElem?_eq_some_iff.1 (h.at_ b hb)).1
theorem Kept.grew {w w1 w2 : World} {bs : List BoxD} (h : Kept w bs w1) (hg : w1.grownBy w2 none) : Kept w bs w2 :=
  ⟨h.below.grown hg h.below.size (fun q hq => by cases hq), fun b hb => (hg.block b.1 (Array.getElem?_eq_some_iff.1 (h.at_ b hb)).1 (by intro e; cases e)).trans (h.at_ b hb)⟩
set_option maxHeartbeats 8000000 in
set_option maxRecDepth 100000 in
theorem txid_law (t : TxD) (ai : Option Addr) (ci : Nat) (ao : Option Addr) (co : Nat) (ks : List (List UInt8)) (ak : Option Addr) (ck : Nat) (u : TxD) (bi : Option Addr) (di : Nat) (bo : Option Addr) (eo : Nat) (w : World)
    (hi : rdSl inR 34 w (.slice ai t.ins.length ci) t.ins) (ho : rdSl outR 2 w (.slice ao t.outs.length co) t.outs) (hk : rdSl bsR 1 w (.slice ak ks.length ck) ks) (ki : rdSl inR 34 w (.slice bi u.ins.length di) u.ins) (ko : rdSl outR 2 w (.slice bo u.outs.length eo) u.outs) (hT : tabAt w) :
    Calls Tryd.prog 3 #[.agg #[.slice ai t.ins.length ci, .slice ao t.outs.length co, .int .i64 t.time], .slice ak ks.length ck, .agg #[.slice bi u.ins.length di, .slice bo u.outs.length eo, .int .i64 u.time]] w fun e w' => e = .returned (.bool true) ∧ Below w.heap.size w w' := by
  obtain ⟨n1, n2, n3⟩ := new_tx w ai ao t.ins.length t.outs.length ci co t.time
  obtain ⟨m1, m2, m3⟩ := new_tx (w.alloc (.cells (txV t ai ao ci co) 25)) bi bo u.ins.length u.outs.length di eo u.time
  have k0 := ((Kept.refl w).alloc (txV t ai ao ci co) 25).alloc (txV u bi bo di eo) 25
  rw [show (w.alloc (.cells (txV t ai ao ci co) 25)).heap.size = w.heap.size + 1 from by simp] at k0
  unfold zTx at n1 n2 m1 m2
  unfold txV at m1 m2
  have hgT := rowAt_lt hT
  have HI := Lib.hid hi; have HO := Lib.hid ho; have HT := Lib.hid hT; have KI := Lib.hid ki; have KO := Lib.hid ko; have HK := Lib.hid hk
  have K0 := Lib.hid k0
  clear hi ho hT ki ko k0 hk
  go_enter Tryd.func3, Tryd.ntmps3
  go_upto_region 1 with fail
  clear n1 n2 n3 m1 m2 m3
  change Code.wp _ _ _ _ ((w.alloc (.cells (txV t ai ao ci co) 25)).alloc (.cells (txV u bi bo di eo) 25))
  obtain ⟨G2, hG2⟩ : ∃ G, w.heap.size + 1 = G := ⟨_, rfl⟩
  rw [hG2] at K0 ⊢
  clear hG2
  obtain ⟨G1, hG1⟩ : ∃ G, w.heap.size = G := ⟨_, rfl⟩
  have K0' : Hid (∃ w0, (w.alloc (.cells (txV t ai ao ci co) 25)).alloc (.cells (txV u bi bo di eo) 25) = w0 ∧ Kept w [(G2, txV u bi bo di eo, 25), (G1, txV t ai ao ci co, 25)] w0) := Lib.hid ⟨_, rfl, by rw [← hG1]; exact K0.out⟩
  rw [hG1] at ⊢
  clear hG1 K0
  obtain ⟨w0, hw0, k0⟩ := K0'.out
  rw [hw0]
  have K0 := Lib.hid k0
  clear hw0 k0 K0'
  go_wp2_with fail
  refine (sent_law w0).mono ?_
  rintro e w1 ⟨rfl, hb⟩
  have K1 := Lib.hid (K0.out.on hb)
  clear hb
  have r1 : rowAt w1 G1 0 3 = some #[.slice ai t.ins.length ci, .slice ao t.outs.length co, .int .i64 t.time] := K1.out.row 1 _ 3 rfl rfl
  go_wp2_with fail
  refine (txID_any t ai ao ci co w1 (inR_stays.slB HI.out K1.out.below (Nat.le_refl _)) (outR_stays.slB HO.out K1.out.below (Nat.le_refl _)) ((rowAt_below K1.out.below hgT 0 64).trans HT.out)).mono ?_
  rintro e w2 ⟨rfl, hb⟩
  have K2 := Lib.hid (K1.out.on hb)
  clear hb r1
  by_cases hz : txF t = 0
  rotate_left
  · unfold idV
    rw [if_neg hz, errV_ne hz]
    clear hz
    obtain ⟨p1, p2, p3, p4⟩ := new_dg w2 (List.replicate 32 0) (by simp)
    unfold zD at p1 p2
    obtain ⟨Z, hZ⟩ : ∃ Z, dgV (List.replicate 32 0) = Z := ⟨_, rfl⟩
    rw [hZ] at p3 p4 ⊢
    clear hZ
    have K3 := Lib.hid (K2.out.alloc Z 29)
    go_upto_region 5 with fail
    clear p1 p2 p3 p4
    change Code.wp _ _ _ _ (w2.alloc (.cells Z 29))
    generalize w2.alloc (.cells Z 29) = w3 at K3 ⊢
    go_wp2
    go_ret
    exact ⟨rfl, K3.out.below⟩
  unfold idV
  rw [if_pos hz, hz, errV_0]
  have HFT := Lib.hid hz
  have hol := (txOk_of hz).ins
  obtain ⟨id, hid⟩ : ∃ id, idD t = id := ⟨_, rfl⟩
  have hid32 : id.length = 32 := by rw [← hid]; exact idD_length t
  have HID := Lib.hid hid
  rw [hid]
  clear hid hz
  obtain ⟨p1, p2, p3, p4⟩ := new_dg w2 id hid32
  unfold zD at p1 p2
  go_upto_region 5 with fail
  clear p1 p2 p3 p4
  have K3' : Hid (∃ D w3, w2.heap.size = D ∧ w2.alloc (.cells (dgV id) 29) = w3 ∧ Kept w [(D, dgV id, 29), (G2, txV u bi bo di eo, 25), (G1, txV t ai ao ci co, 25)] w3) := Lib.hid ⟨_, _, rfl, rfl, K2.out.alloc _ _⟩
  change Code.wp _ _ _ _ (w2.alloc (.cells (dgV id) 29))
  obtain ⟨D, w3, hd, hw, k3⟩ := K3'.out
  rw [hd, hw]
  have K3 := Lib.hid k3
  clear hd hw k3 K3'
  have r1 : rowAt w3 G1 0 3 = some #[.slice ai t.ins.length ci, .slice ao t.outs.length co, .int .i64 t.time] := K3.out.row 2 _ 3 rfl rfl
  obtain ⟨n1, n2, n3⟩ := new_tx w3 ai ao t.ins.length t.outs.length ci co t.time
  unfold zTx at n1 n2
  go_upto_region 8 with fail
  clear n1 n2 n3 r1
  have HLT := Lib.hid K3.out.lt
  have hXw := K3.out.below.size
  have K4' : Hid (∃ X w4, w3.heap.size = X ∧ w3.alloc (.cells (txV t ai ao ci co) 25) = w4 ∧ Kept w [(X, txV t ai ao ci co, 25), (D, dgV id, 29), (G2, txV u bi bo di eo, 25), (G1, txV t ai ao ci co, 25)] w4) := Lib.hid ⟨_, _, rfl, rfl, K3.out.alloc _ _⟩
  change Code.wp _ _ _ _ (w3.alloc (.cells (txV t ai ao ci co) 25))
  obtain ⟨X, w4, hd, hw, k4⟩ := K4'.out
  rw [hd, hw]
  rw [hd] at hXw
  have HNX : Hid (∀ b ∈ [(D, dgV id, 29), (G2, txV u bi bo di eo, 25), (G1, txV t ai ao ci co, 25)], b.1 ≠ X) := Lib.hid fun b hb e => by have := HLT.out b hb; omega
  clear HLT
  have K4 := Lib.hid k4
  clear hd hw k4 K4'
  have K5 := Lib.hid (K4.out.alloc #[] 37)
  have c0 : (w4.alloc (.cells #[] 37)).cell? ⟨G1, 0, none⟩ = some (.slice ai t.ins.length ci) := K5.out.cell 4 0 _ _ rfl rfl
  obtain ⟨xs, hrd, hea⟩ := HI.out
  obtain ⟨L, hL1, hL2, hL3⟩ := ins_cells _ _ hea
  subst hL2
  have hLl : L.length = t.ins.length := by rw [← hL1, List.length_map]
  have HGD := Lib.hid hL3; have HLM := Lib.hid hL1; have HLL := Lib.hid hLl
  have HRD := Lib.hid (rd_belowB hrd K5.out.below (Nat.le_refl _))
  have HLC := Lib.hid (show (cellsIn L).length = t.ins.length * 34 by rw [cellsIn_length L hL3, hLl])
  have HPL := Lib.hid (cellsIn_plain L hL3)
  have HOE : Hid (own (w4.alloc (.cells #[] 37)) (w4.alloc (.cells #[] 37)).heap.size 37 34 (.slice (some ⟨w4.heap.size, 0, none⟩) 0 0) 0 []) := Lib.hid ⟨by simp, _, 0, rfl, Nat.le_refl _, Nat.zero_le _, .inl rfl⟩
  clear hrd hea hL1 hL3 hLl
  obtain ⟨i0, hi0, hz0, hz1, hz2⟩ := info_parts' info_in
  go_wp2_with (at_builtin; refine wpList_append_row rfl (.tmp 30) (.tmp 32) 22 rfl 37 i0 (.agg zIn) 34 64 Tryd.underlying22 hi0 hz0 hz1 hz2 rfl (by decide) (w4.alloc (.cells #[] 37)).heap.size 0 [] HOE.out t.ins.length (cellsIn L) HLC.out HRD.out HPL.out ?c2 ?c3 (Nat.le_refl _) ?_)
  case c2 => unfold maxLen; omega
  case c3 => omega
  intro v6 w6 ho6 hg6 hr6
  have K6 := Lib.hid (Kept.grew K5.out hg6).tl
  have HW6 := Lib.hid (own_base ho6 (show w4.heap.size ≤ w4.heap.size + 1 by omega))
  have ho7 := ho6
  obtain ⟨-, vo, vcap, rfl, v1, v2, -⟩ := ho7
  unfold maxLen at v2
  have d0 : w6.cell? ⟨X, 0, none⟩ = some (.slice ai t.ins.length ci) := K6.out.cell 0 0 _ _ rfl rfl
  have d1 : w6.frozen? ⟨X, 0, none⟩ = false := frozen_of_row _ _ _ _ _ (K6.out.get 0 _ rfl)
  have hXl : X < w4.heap.size := K4.out.lt (X, txV t ai ao ci co, 25) (List.mem_cons_self ..)
  have HW7 := Lib.hid (own_setCell HW6.out ⟨X, 0, none⟩ (.slice vo t.ins.length vcap) (fun hk => by have h := (own_lt HW6.out hk).1; change w4.heap.size ≤ X at h; omega))
  have K7 := Lib.hid (K6.out.put 0 (.slice vo t.ins.length vcap) hXw HNX.out)
  clear ho6 hg6 hr6 HOE c0
  go_upto_region 9 with fail
  change Code.wp _ _ _ _ (w6.setCell ⟨X, 0, none⟩ (.slice vo t.ins.length vcap))
  have K7' : Hid (∃ w7, w6.setCell ⟨X, 0, none⟩ (.slice vo t.ins.length vcap) = w7 ∧ Kept w [(X, #[.slice vo t.ins.length vcap, .slice ao t.outs.length co, .int .i64 t.time], 25), (D, dgV id, 29), (G2, txV u bi bo di eo, 25), (G1, txV t ai ao ci co, 25)] w7 ∧ own w7 w4.heap.size 37 34 (.slice vo t.ins.length vcap) t.ins.length (cellsIn L)) := Lib.hid ⟨_, rfl, K7.out, HW7.out⟩
  obtain ⟨w7, hw7, k7, hw8⟩ := K7'.out
  rw [hw7]
  have KA := Lib.hid k7
  clear hw7 k7 K7' K7 HW7 HW6 K6 d0 d1
  obtain ⟨KV, hKV⟩ : ∃ KV : Value, KV = .slice ak ks.length ck := ⟨_, rfl⟩
  have HKV := Lib.hid hKV
  obtain ⟨K, hK⟩ : ∃ K : List (InD × Value), K = L.map fun p => (p.1, KV) := ⟨_, rfl⟩
  have HKK := Lib.hid hK
  have hKl : K.length = L.length := by rw [hK, List.length_map]
  have HKL := Lib.hid hKl
  have HGK : Hid (goodIn K) := Lib.hid (by
    rw [hK]
    intro p hp
    obtain ⟨q, hq, rfl⟩ := List.mem_map.1 hp
    exact ⟨(HGD.out q hq).1, _, _, _, hKV⟩)
  have HW0 : Hid (own w7 w4.heap.size 37 34 (.slice vo t.ins.length vcap) t.ins.length (cellsIn (mixK 0 L K))) := Lib.hid (by rw [mixK_zero]; exact hw8)
  have hB4 := K4.out.below.size
  clear hK hKl hKV hw8
  go_wp2_with fail
  go_loopw [11] (fun c wr => ∃ j : Nat, j ≤ t.ins.length ∧ c = .int .i64 j ∧ Hid (Kept w [(X, #[.slice vo t.ins.length vcap, .slice ao t.outs.length co, .int .i64 t.time], 25), (D, dgV id, 29), (G2, txV u bi bo di eo, 25), (G1, txV t ai ao ci co, 25)] wr) ∧ Hid (own wr w4.heap.size 37 34 (.slice vo t.ins.length vcap) t.ins.length (cellsIn (mixK j L K)))) (fun c _ => t.ins.length - (intOf c).toNat)
  case atStart => exact ⟨0, by omega, rfl, KA, HW0⟩
  case round =>
    obtain ⟨j, hj, rfl, HKr, HW⟩ := hrel
    have c0 : wr.cell? ⟨X, 0, none⟩ = some (.slice vo t.ins.length vcap) := HKr.out.cell 0 0 _ _ rfl rfl
    by_cases hlt : j < t.ins.length
    · obtain ⟨g, off, rfl⟩ := own_ptr HW.out (by omega)
      obtain ⟨q1, q2, q3, q4⟩ := own_cellN HW.out (j * 34 + 33) (by omega)
      have hjl : j < L.length := by rw [HLL.out]; exact hlt
      have hjk : j < K.length := by rw [HKL.out]; exact hjl
      have hKj : (K[j]'hjk).1 = L[j].1 ∧ (K[j]'hjk).2 = .slice ak ks.length ck := by
        have := HKK.out
        subst this
        simp [HKV.out]
      obtain ⟨hjn, hst⟩ := mixK_step j L K hjl HKL.out hKj.1
      rw [hKj.2] at hst
      obtain ⟨s1, s2⟩ := cells_set (mixK j L K) j hjn (.slice ak ks.length ck) (mixK_good HGD.out HGK.out)
      rw [s2, ← Nat.add_assoc] at q1
      rw [← Nat.add_assoc] at q2
      have hso := own_setN HW.out (j * 34 + 33) (by omega) (.slice ak ks.length ck)
      rw [s1, hst, ← Nat.add_assoc] at hso
      have HW5 := Lib.hid hso
      have KB := Lib.hid (HKr.out.other (v := .slice ak ks.length ck) (i := off + j * 34 + 33) HW.out q4 hB4 rfl)
      clear hso s1 s2 hst q3 q4 hKj
      go_wp2
      go_roundw
      case rel => exact ⟨j + 1, by omega, by go_num, KB, HW5⟩
      case measure => simp [intOf]; omega
    · have hj2 : j = L.length := by rw [HLL.out]; omega
      have HIN : Hid (rdSl inR 34 wr (.slice vo (keyed ks t).ins.length vcap) (keyed ks t).ins) := Lib.hid (by
        have hkr := bsR_stays.slB HK.out HKr.out.below (Nat.le_refl _)
        have h := keyed_read ks t L (.slice ak ks.length ck) HLM.out HGD.out hkr
        have hr := own_rd HW.out
        rw [hj2, mixK_end L K HKL.out, HKK.out, HKV.out] at hr
        refine ⟨_, ?_, h⟩
        rw [keyed_length]; exact hr)
      have HTX := Lib.hid (txID_any (keyed ks t) vo ao vcap co wr HIN.out (outR_stays.slB HO.out HKr.out.below (Nat.le_refl _)) ((rowAt_below HKr.out.below hgT 0 64).trans HT.out))
      unfold idV at HTX
      rw [keyed_length, keyed_id, HID.out] at HTX
      obtain ⟨F, hF⟩ : ∃ F, txF (keyed ks t) = F := ⟨_, rfl⟩
      obtain ⟨ZD, hZD⟩ : ∃ ZD, (if F = 0 then id else List.replicate 32 0) = ZD := ⟨_, rfl⟩
      rw [hF, hZD] at HTX
      have HZD := Lib.hid hZD
      have hzd32 : ZD.length = 32 := by rw [← hZD]; split <;> simp [hid32]
      clear hj2 hF hZD
      go_upto_region 13 with fail
      clear c0
      have r1 : rowAt wr X 0 3 = some #[.slice vo t.ins.length vcap, .slice ao t.outs.length co, .int .i64 t.time] := HKr.out.row 0 _ 3 rfl rfl
      go_wp2_with fail
      refine Calls.mono HTX.out ?_
      rintro e wb ⟨rfl, hb⟩
      have KC := Lib.hid (HKr.out.on hb)
      clear hb r1 HTX
      obtain ⟨p1, p2, p3, p4⟩ := new_dg wb ZD hzd32
      unfold zD at p1 p2
      go_upto_region 14 with fail
      clear p1 p2 p3 p4
      have KD' : Hid (∃ D2 w9, wb.heap.size = D2 ∧ wb.alloc (.cells (dgV ZD) 29) = w9 ∧ Kept w [(D2, dgV ZD, 29), (X, #[.slice vo t.ins.length vcap, .slice ao t.outs.length co, .int .i64 t.time], 25), (D, dgV id, 29), (G2, txV u bi bo di eo, 25), (G1, txV t ai ao ci co, 25)] w9) := Lib.hid ⟨_, _, rfl, rfl, KC.out.alloc _ _⟩
      change Code.wp _ _ _ _ (wb.alloc (.cells (dgV ZD) 29))
      obtain ⟨D2, w9, hd, hw, kd⟩ := KD'.out
      rw [hd, hw]
      have KD := Lib.hid kd
      clear hd hw kd KD' KC HKr HW
      have r1 : rowAt w9 D2 0 32 = some (dgV ZD) := KD.out.row 0 _ 32 rfl (by rw [dgV_size, hzd32])
      have r2 : rowAt w9 D 0 32 = some (dgV id) := KD.out.row 2 _ 32 rfl (by rw [dgV_size, hid32])
      go_cut [13, 59] (fun a b wx => a = errV F ∧ b = .bool false ∧ wx = w9)
      case first =>
        by_cases hz : F = 0
        · have hzi : ZD = id := by rw [← HZD.out, if_pos hz]
          have he := run_eql_dig ZD id hzd32 hid32
          rw [decide_eq_true hzi] at he
          have HEF := Lib.hid (show errV F = .nilIface by rw [hz, errV_0])
          rw [hz, errV_0]
          clear hzi hz
          go_wp2_with fail
          go_meet
          exact ⟨HEF.out.symm, rfl, rfl⟩
        · have HEF := Lib.hid (errV_ne hz)
          rw [errV_ne hz]
          clear hz
          go_wp2_with fail
          go_meet
          exact ⟨HEF.out.symm, rfl, rfl⟩
      case rest =>
        obtain ⟨rfl, rfl, rfl⟩ := hcut
        clear r1 r2
        go_upto_region 16 with fail
        have r1 : rowAt wc G2 0 3 = some #[.slice bi u.ins.length di, .slice bo u.outs.length eo, .int .i64 u.time] := KD.out.row 3 _ 3 rfl rfl
        go_wp2_with fail
        refine (txID_any u bi bo di eo wc (inR_stays.slB KI.out KD.out.below (Nat.le_refl _)) (outR_stays.slB KO.out KD.out.below (Nat.le_refl _)) ((rowAt_below KD.out.below hgT 0 64).trans HT.out)).mono ?_
        rintro e wd ⟨rfl, hb⟩
        have KE := Lib.hid (KD.out.on hb)
        clear hb r1
        by_cases hzu : txF u = 0
        rotate_left
        · unfold idV
          rw [if_neg hzu, errV_ne hzu]
          clear hzu
          obtain ⟨p1, p2, p3, p4⟩ := new_dg wd (List.replicate 32 0) (by simp)
          unfold zD at p1 p2
          obtain ⟨Z, hZ⟩ : ∃ Z, dgV (List.replicate 32 0) = Z := ⟨_, rfl⟩
          rw [hZ] at p3 p4 ⊢
          clear hZ
          have KF := Lib.hid (KE.out.alloc Z 29)
          go_upto_region 17 with fail
          clear p1 p2 p3 p4
          change Code.wp _ _ _ _ (wd.alloc (.cells Z 29))
          generalize wd.alloc (.cells Z 29) = w3 at KF ⊢
          go_wp2
          go_ret
          exact ⟨rfl, KF.out.below⟩
        unfold idV
        rw [if_pos hzu, hzu, errV_0]
        have HFU := Lib.hid hzu
        obtain ⟨jd, hjd⟩ : ∃ jd, idD u = jd := ⟨_, rfl⟩
        have hjd32 : jd.length = 32 := by rw [← hjd]; exact idD_length u
        have HJD := Lib.hid hjd
        rw [hjd]
        clear hjd hzu
        obtain ⟨p1, p2, p3, p4⟩ := new_dg wd jd hjd32
        unfold zD at p1 p2
        go_upto_region 17 with fail
        clear p1 p2 p3 p4
        have KF' : Hid (∃ D3 w9, wd.heap.size = D3 ∧ wd.alloc (.cells (dgV jd) 29) = w9 ∧ Kept w [(D3, dgV jd, 29), (D2, dgV ZD, 29), (X, #[.slice vo t.ins.length vcap, .slice ao t.outs.length co, .int .i64 t.time], 25), (D, dgV id, 29), (G2, txV u bi bo di eo, 25), (G1, txV t ai ao ci co, 25)] w9) := Lib.hid ⟨_, _, rfl, rfl, KE.out.alloc _ _⟩
        change Code.wp _ _ _ _ (wd.alloc (.cells (dgV jd) 29))
        obtain ⟨D3, wf, hd, hw, kf⟩ := KF'.out
        rw [hd, hw]
        have KF := Lib.hid kf
        clear hd hw kf KF' KE KD
        have r1 : rowAt wf D3 0 32 = some (dgV jd) := KF.out.row 0 _ 32 rfl (by rw [dgV_size, hjd32])
        have r2 : rowAt wf D 0 32 = some (dgV id) := KF.out.row 3 _ 32 rfl (by rw [dgV_size, hid32])
        have he := run_eql_dig jd id hjd32 hid32
        by_cases hji : jd = id
        rotate_left
        · rw [decide_eq_false hji] at he
          clear hji
          go_wp2
          go_ret
          exact ⟨rfl, KF.out.below⟩
        rw [decide_eq_true hji] at he
        have HJI := Lib.hid hji
        clear hji
        go_upto_region 19 with fail
        clear r1 r2 he
        have JD := Lib.hid KF.out.self.drew
        go_region_held3 (fun w' => rowAt w' G1 0 3 = some #[.slice ai t.ins.length ci, .slice ao t.outs.length co, .int .i64 t.time] ∧ rowAt w' G2 0 3 = some #[.slice bi u.ins.length di, .slice bo u.outs.length eo, .int .i64 u.time])
          (exact ⟨JD.out.row 5 _ 3 rfl rfl, JD.out.row 4 _ 3 rfl rfl⟩)
          (first
            | (go_at_call 12
               refine (idText_any t ai ao ci co _ (inR_stays.slB HI.out (KF.out.from_ JD.out).below (Nat.le_refl _)) (outR_stays.slB HO.out (KF.out.from_ JD.out).below (Nat.le_refl _)) HFT.out).mono ?_
               rintro e w' ⟨v1, rfl, ho, hb⟩
               have hr1 := own_rd ho
               obtain ⟨va1, vc1, rfl, -, -, -⟩ := id' hr1
               have HV1 := Lib.hid hr1
               replace JD := Lib.hid (JD.out.on hb)
               clear ho hb hr1)
            | (go_at_call 12
               refine (idText_any u bi bo di eo _ (inR_stays.slB KI.out (KF.out.from_ JD.out).below (Nat.le_refl _)) (outR_stays.slB KO.out (KF.out.from_ JD.out).below (Nat.le_refl _)) HFU.out).mono ?_
               rintro e w' ⟨v2, rfl, ho, hb⟩
               have hr2 := own_rd ho
               obtain ⟨va2, vc2, rfl, -, -, -⟩ := id' hr2
               replace HV1 := Lib.hid (rd_below HV1.out hb)
               have HV2 := Lib.hid hr2
               replace JD := Lib.hid (JD.out.on hb)
               clear ho hb hr2)
            | (go_at_call 11
               refine (bytes_tell (21 :: bareM t) (21 :: bareM u) _ _ _ _ _ HV1.out HV2.out).mono ?_
               rintro e w' ⟨rfl, hd⟩
               replace JD := Lib.hid (JD.out.on hd.below)
               clear hd))
        have KG := Lib.hid (KF.out.from_ JD.out)
        clear JD HV1 HV2 KF
        obtain ⟨wg, hwg⟩ : ∃ wg, w' = wg := ⟨_, rfl⟩
        rw [hwg] at KG ⊢
        clear hwg
        by_cases hsame : bareM t = bareM u
        rotate_left
        · rw [decide_eq_false hsame]
          clear hsame
          have hlt : (21 :: bareM t).length ≤ 1000001 := by
            have := bareM_le (txOk_of HFT.out) (fun x hx => by
              obtain ⟨i, hi', rfl⟩ := List.getElem_of_mem hx
              obtain ⟨_, _, _, _, _, _, h32', -⟩ := in_at HI.out i hi'
              exact h32')
            simp only [List.length_cons]; omega
          have hlu : (21 :: bareM u).length ≤ 1000001 := by
            have := bareM_le (txOk_of HFU.out) (fun x hx => by
              obtain ⟨i, hi', rfl⟩ := List.getElem_of_mem hx
              obtain ⟨_, _, _, _, _, _, h32', -⟩ := in_at KI.out i hi'
              exact h32')
            simp only [List.length_cons]; omega
          have HS1 := Lib.hid (fun (v : Value) (W : World) (h : rd W v (21 :: bareM t).length ((21 :: bareM t).map vB)) => rsum_any (21 :: bareM t) v _ W h rfl (by omega))
          have HS2 := Lib.hid (fun (v : Value) (W : World) (h : rd W v (21 :: bareM u).length ((21 :: bareM u).map vB)) => rsum_any (21 :: bareM u) v _ W h rfl (by omega))
          go_upto_region 21 with fail
          have e1 : shaM (21 :: bareM t) = id := HID.out
          have e2 : shaM (21 :: bareM u) = id := HJD.out.trans HJI.out
          rw [e1] at HS1
          rw [e2] at HS2
          have he := run_eql_dig id id hid32 hid32
          rw [decide_eq_true rfl] at he
          clear e1 e2 hlt hlu
          have JD := Lib.hid KG.out.self.drew
          go_region_held3 (fun w' => rowAt w' G1 0 3 = some #[.slice ai t.ins.length ci, .slice ao t.outs.length co, .int .i64 t.time] ∧ rowAt w' G2 0 3 = some #[.slice bi u.ins.length di, .slice bo u.outs.length eo, .int .i64 u.time])
            (exact ⟨JD.out.row 5 _ 3 rfl rfl, JD.out.row 4 _ 3 rfl rfl⟩)
            (first
              | (go_at_call 12
                 refine (idText_any t ai ao ci co _ (inR_stays.slB HI.out (KG.out.from_ JD.out).below (Nat.le_refl _)) (outR_stays.slB HO.out (KG.out.from_ JD.out).below (Nat.le_refl _)) HFT.out).mono ?_
                 rintro e w' ⟨v1, rfl, ho, hb⟩
                 have HV := Lib.hid (own_rd ho)
                 replace JD := Lib.hid (JD.out.on hb)
                 clear ho hb)
              | (go_at_call 13
                 refine (HS1.out _ _ HV.out).mono ?_
                 rintro e w' ⟨rfl, hb⟩
                 replace JD := Lib.hid (JD.out.on hb)
                 clear hb HV)
              | (go_at_call 12
                 refine (idText_any u bi bo di eo _ (inR_stays.slB KI.out (KG.out.from_ JD.out).below (Nat.le_refl _)) (outR_stays.slB KO.out (KG.out.from_ JD.out).below (Nat.le_refl _)) HFU.out).mono ?_
                 rintro e w' ⟨v2, rfl, ho, hb⟩
                 have HV := Lib.hid (own_rd ho)
                 replace JD := Lib.hid (JD.out.on hb)
                 clear ho hb)
              | (go_at_call 13
                 refine (HS2.out _ _ HV.out).mono ?_
                 rintro e w' ⟨rfl, hb⟩
                 replace JD := Lib.hid (JD.out.on hb)
                 clear hb HV))
          go_wp2
          go_ret
          exact ⟨rfl, (KG.out.from_ JD.out).below⟩
        · rw [decide_eq_true hsame]
          obtain ⟨xs1, hrd1, hea1⟩ := HI.out
          obtain ⟨LT, lt1, lt2, lt3⟩ := ins_cells _ _ hea1
          obtain ⟨xs2, hrd2, hea2⟩ := KI.out
          obtain ⟨LU, lu1, lu2, lu3⟩ := ins_cells _ _ hea2
          subst lu2
          subst lt2
          have HRT := Lib.hid hrd1
          have HRK := Lib.hid (ins_read _ _ lt1 lt3 hea1)
          have h32t : ∀ x ∈ t.ins, x.tx.length = 32 := fun x hx => by
            obtain ⟨i, hi', rfl⟩ := List.getElem_of_mem hx
            obtain ⟨_, _, _, _, _, _, h32', -⟩ := in_at HI.out i hi'
            exact h32'
          have h32u : ∀ x ∈ u.ins, x.tx.length = 32 := fun x hx => by
            obtain ⟨i, hi', rfl⟩ := List.getElem_of_mem hx
            obtain ⟨_, _, _, _, _, _, h32', -⟩ := in_at KI.out i hi'
            exact h32'
          obtain ⟨j1, j2, j3⟩ := bareM_inj (txOk_of HFT.out) (txOk_of HFU.out) h32t h32u hsame
          have hlen : u.ins.length = t.ins.length := by have := congrArg List.length j1; simpa using this.symm
          have HJ1 := Lib.hid j1; have HJ2 := Lib.hid j2; have HJ3 := Lib.hid j3; have HLE := Lib.hid hlen
          have HLT1 := Lib.hid lt1; have HLT3 := Lib.hid lt3; have HLU1 := Lib.hid lu1; have HLU3 := Lib.hid lu3
          have hlu : LU.length = u.ins.length := by rw [← lu1, List.length_map]
          have HLUL := Lib.hid hlu
          have hul := (txOk_of HFU.out).ins
          have HUC := Lib.hid (show (cellsIn LU).length = u.ins.length * 34 by rw [cellsIn_length LU lu3, hlu])
          have HUP := Lib.hid (cellsIn_plain LU lu3)
          have HUR := Lib.hid hrd2
          clear hrd1 hea1 lt1 lt3 hrd2 hea2 lu1 lu3 h32t h32u hsame j1 j2 j3 hlen hlu
          have r1 : rowAt wg G2 0 3 = some #[.slice bi u.ins.length di, .slice bo u.outs.length eo, .int .i64 u.time] := KG.out.row 4 _ 3 rfl rfl
          obtain ⟨n1, n2, n3⟩ := new_tx wg bi bo u.ins.length u.outs.length di eo u.time
          unfold zTx at n1 n2
          go_upto_region 23 with fail
          clear n1 n2 n3 r1
          have KH := Lib.hid KG.out.tl.tl.tl.tl
          have HLTY := Lib.hid KH.out.lt
          have hYw := KH.out.below.size
          have KI' : Hid (∃ Y wi, wg.heap.size = Y ∧ wg.alloc (.cells (txV u bi bo di eo) 25) = wi ∧ Kept w [(Y, txV u bi bo di eo, 25), (G2, txV u bi bo di eo, 25), (G1, txV t ai ao ci co, 25)] wi) := Lib.hid ⟨_, _, rfl, rfl, KH.out.alloc _ _⟩
          change Code.wp _ _ _ _ (wg.alloc (.cells (txV u bi bo di eo) 25))
          obtain ⟨Y, wi, hd, hw, kk⟩ := KI'.out
          rw [hd, hw]
          rw [hd] at hYw
          have HNY : Hid (∀ b ∈ [(G2, txV u bi bo di eo, 25), (G1, txV t ai ao ci co, 25)], b.1 ≠ Y) := Lib.hid fun b hb e => by have := HLTY.out b hb; omega
          have KJ := Lib.hid kk
          clear hd hw kk KI' HLTY KH KG
          have KL := Lib.hid (KJ.out.alloc #[] 37)
          have c0 : (wi.alloc (.cells #[] 37)).cell? ⟨G2, 0, none⟩ = some (.slice bi u.ins.length di) := KL.out.cell 2 0 _ _ rfl rfl
          have HRU := Lib.hid (rd_belowB HUR.out KL.out.below (Nat.le_refl _))
          have HOE2 : Hid (own (wi.alloc (.cells #[] 37)) (wi.alloc (.cells #[] 37)).heap.size 37 34 (.slice (some ⟨wi.heap.size, 0, none⟩) 0 0) 0 []) := Lib.hid ⟨by simp, _, 0, rfl, Nat.le_refl _, Nat.zero_le _, .inl rfl⟩
          go_wp2_with (at_builtin; refine wpList_append_row rfl (.tmp 87) (.tmp 89) 22 rfl 37 i0 (.agg zIn) 34 64 Tryd.underlying22 hi0 hz0 hz1 hz2 rfl (by decide) (wi.alloc (.cells #[] 37)).heap.size 0 [] HOE2.out u.ins.length (cellsIn LU) HUC.out HRU.out HUP.out ?c2 ?c3 (Nat.le_refl _) ?_)
          case c2 => unfold maxLen; omega
          case c3 => omega
          intro v6 wj ho6 hg6 hr6
          have KM := Lib.hid (Kept.grew KL.out hg6).tl
          have HWM := Lib.hid (own_base ho6 (show wi.heap.size ≤ wi.heap.size + 1 by omega))
          have ho7 := ho6
          obtain ⟨-, vu, ucap, rfl, u1, u2, -⟩ := ho7
          unfold maxLen at u2
          have d0 : wj.cell? ⟨Y, 0, none⟩ = some (.slice bi u.ins.length di) := KM.out.cell 0 0 _ _ rfl rfl
          have d1 : wj.frozen? ⟨Y, 0, none⟩ = false := frozen_of_row _ _ _ _ _ (KM.out.get 0 _ rfl)
          have hYl : Y < wi.heap.size := KJ.out.lt (Y, txV u bi bo di eo, 25) (List.mem_cons_self ..)
          have HWN := Lib.hid (own_setCell HWM.out ⟨Y, 0, none⟩ (.slice vu u.ins.length ucap) (fun hk => by have h := (own_lt HWM.out hk).1; change wi.heap.size ≤ Y at h; omega))
          have KN := Lib.hid (KM.out.put 0 (.slice vu u.ins.length ucap) hYw HNY.out)
          clear ho6 hg6 hr6 HOE2 c0
          go_upto_region 24 with fail
          change Code.wp _ _ _ _ (wj.setCell ⟨Y, 0, none⟩ (.slice vu u.ins.length ucap))
          have KN' : Hid (∃ wk, wj.setCell ⟨Y, 0, none⟩ (.slice vu u.ins.length ucap) = wk ∧ Kept w [(Y, #[.slice vu u.ins.length ucap, .slice bo u.outs.length eo, .int .i64 u.time], 25), (G2, txV u bi bo di eo, 25), (G1, txV t ai ao ci co, 25)] wk ∧ own wk wi.heap.size 37 34 (.slice vu u.ins.length ucap) u.ins.length (cellsIn LU)) := Lib.hid ⟨_, rfl, KN.out, HWN.out⟩
          obtain ⟨wk, hwk, kk, hwo⟩ := KN'.out
          rw [hwk]
          have KO2 := Lib.hid kk
          clear hwk kk KN' KN HWN HWM KM d0 d1
          have hltl : LT.length = t.ins.length := by have := congrArg List.length HLT1.out; simpa using this
          obtain ⟨KZ, hKZ⟩ : ∃ KZ, KZ = List.zipWith (fun (p q : InD × Value) => ((p.1, q.2) : InD × Value)) LU LT := ⟨_, rfl⟩
          have hkzl : KZ.length = LU.length := by rw [hKZ, List.length_zipWith, hltl, HLUL.out, HLE.out]; omega
          have HKZ : Hid (∀ (i : Nat) (h : i < KZ.length) (h1 : i < LU.length) (h2 : i < LT.length), KZ[i] = (LU[i].1, LT[i].2)) := Lib.hid (by
            intro i h h1 h2
            subst hKZ
            rw [List.getElem_zipWith])
          have HKZL := Lib.hid hkzl
          have HLTL := Lib.hid hltl
          have HGZ : Hid (goodIn KZ) := Lib.hid (by
            intro p hp
            obtain ⟨i, hi, rfl⟩ := List.getElem_of_mem hp
            have h1 : i < LU.length := by omega
            have h2 : i < LT.length := by rw [hltl, ← HLE.out, ← HLUL.out]; exact h1
            rw [HKZ.out i hi h1 h2]
            exact ⟨(HLU3.out _ (List.getElem_mem h1)).1, (HLT3.out _ (List.getElem_mem h2)).2⟩)
          have HWP : Hid (own wk wi.heap.size 37 34 (.slice vu u.ins.length ucap) u.ins.length (cellsIn (mixK 0 LU KZ))) := Lib.hid (by rw [mixK_zero]; exact hwo)
          have hBi := KJ.out.below.size
          clear hKZ hkzl hltl hwo
          go_wp2_with fail
          go_loopw [17] (fun c wr => ∃ j : Nat, j ≤ u.ins.length ∧ c = .int .i64 j ∧ Hid (Kept w [(Y, #[.slice vu u.ins.length ucap, .slice bo u.outs.length eo, .int .i64 u.time], 25), (G2, txV u bi bo di eo, 25), (G1, txV t ai ao ci co, 25)] wr) ∧ Hid (own wr wi.heap.size 37 34 (.slice vu u.ins.length ucap) u.ins.length (cellsIn (mixK j LU KZ)))) (fun c _ => u.ins.length - (intOf c).toNat)
          case atStart => exact ⟨0, by omega, rfl, KO2, HWP⟩
          case round =>
            obtain ⟨j, hj, rfl, HKr, HW⟩ := hrel
            have c0 : wr.cell? ⟨Y, 0, none⟩ = some (.slice vu u.ins.length ucap) := HKr.out.cell 0 0 _ _ rfl rfl
            have c1 : wr.cell? ⟨G1, 0, none⟩ = some (.slice ai t.ins.length ci) := HKr.out.cell 2 0 _ _ rfl rfl
            by_cases hlt : j < u.ins.length
            · have hlt2 : j < t.ins.length := by have := HLE.out; omega
              obtain ⟨g, off, rfl⟩ := own_ptr HW.out (by omega)
              obtain ⟨q1, q2, q3, q4⟩ := own_cellN HW.out (j * 34 + 33) (by omega)
              have hjl : j < LU.length := by rw [HLUL.out]; exact hlt
              have hjt : j < LT.length := by rw [HLTL.out]; exact hlt2
              have hjz : j < KZ.length := by rw [HKZL.out]; exact hjl
              have hz := HKZ.out j hjz hjl hjt
              obtain ⟨so, sn, sc, hso⟩ := (HLT3.out _ (List.getElem_mem hjt)).2
              obtain ⟨_, _, e, -, -, hr3⟩ := HRT.out
              cases e
              have hlc : (cellsIn LT).length = LT.length * 34 := cellsIn_length LT HLT3.out
              rcases hr3 with h0 | ⟨gt, ot, rfl, hc⟩
              · rw [h0] at hlc; simp at hlc; omega
              have ct := hc _ _ (cells_set LT j hjt (.slice none 0 0) HLT3.out).2
              rw [hso] at ct
              have hgl := World.block_lt_of_cell? w _ ct
              have ctr : wr.cell? ⟨gt, ot + j * 34 + 33, none⟩ = some (.slice so sn sc) := by rw [Nat.add_assoc]; exact (HKr.out.below.cell (p := ⟨gt, ot + (j * 34 + 33), none⟩) hgl).trans ct
              obtain ⟨hjn, hst⟩ := mixK_step j LU KZ hjl HKZL.out (by rw [hz])
              rw [hz] at hst
              simp only [hso] at hst
              obtain ⟨s1, s2⟩ := cells_set (mixK j LU KZ) j hjn (.slice so sn sc) (mixK_good HLU3.out HGZ.out)
              rw [s2, ← Nat.add_assoc] at q1
              rw [← Nat.add_assoc] at q2
              have hsx := own_setN (own_drew HW.out) (j * 34 + 33) (by omega) (.slice so sn sc)
              rw [s1, hst, ← Nat.add_assoc] at hsx
              have HW5 := Lib.hid hsx
              have KB := Lib.hid (HKr.out.drew.other (v := .slice so sn sc) (i := off + j * 34 + 33) (own_drew HW.out) q4 hBi rfl)
              clear hsx s1 s2 hst q3 q4 hz hc ct hlc hso hgl
              go_wp2_with fail
              go_region
              all_goals
                go_wp2
                go_roundw
                case rel => exact ⟨j + 1, by omega, by go_num, KB, HW5⟩
                case measure => simp [intOf]; omega
            · have hj2 : j = LU.length := by rw [HLUL.out]; omega
              have HIN2 : Hid (rdSl inR 34 wr (.slice vu t.ins.length ucap) t.ins) := Lib.hid (by
                have hr := own_rd HW.out
                rw [hj2, mixK_end LU KZ HKZL.out, HLE.out] at hr
                refine ⟨_, hr, cells_read KZ t.ins (by rw [HKZL.out, HLUL.out, HLE.out]) fun i h h2 => ?_⟩
                have h1 : i < LU.length := by rw [← HKZL.out]; exact h
                have h3 : i < LT.length := by rw [HLTL.out]; exact h2
                have hu : i < u.ins.length := by rw [HLE.out]; exact h2
                have hz := HKZ.out i h h1 h3
                have e1 : t.ins[i].place = u.ins[i].place := by
                  have := congrArg (fun l => l[i]?) HJ1.out
                  simp only [List.getElem?_map, List.getElem?_eq_getElem h2, List.getElem?_eq_getElem hu, Option.map_some, Option.some.injEq] at this
                  exact this
                have e2 : u.ins[i] = LU[i].1 := by
                  have := congrArg (fun l => l[i]?) HLU1.out
                  simp only [List.getElem?_map, List.getElem?_eq_getElem h1, List.getElem?_eq_getElem hu, Option.map_some, Option.some.injEq] at this
                  exact this.symm
                have hrk := HRK.out i h2 h3
                rw [hz, ← e2]
                refine ⟨congrArg PlaceD.tx e1, congrArg PlaceD.ix e1, ?_, bsR_stays.slB hrk HKr.out.below (Nat.le_refl _)⟩
                obtain ⟨_, _, _, _, _, _, h32', -⟩ := in_at HI.out i h2
                exact h32')
              have HTS : Hid (Calls Tryd.prog 14 #[.agg #[.slice vu u.ins.length ucap, .slice bo u.outs.length eo, .int .i64 u.time], .agg #[.slice ai t.ins.length ci, .slice ao t.outs.length co, .int .i64 t.time]] wr fun e w' => e = .returned (.bool true) ∧ Below wr.heap.size wr w') := Lib.hid (by
                have ho2 : rdSl outR 2 wr (.slice bo t.outs.length eo) t.outs := by rw [HJ2.out]; exact outR_stays.slB KO.out HKr.out.below (Nat.le_refl _)
                have := tx_same t vu ai bo ao ucap ci eo co wr HIN2.out ho2 (inR_stays.slB HI.out HKr.out.below (Nat.le_refl _)) (outR_stays.slB HO.out HKr.out.below (Nat.le_refl _))
                rw [HLE.out, ← HJ2.out, ← HJ3.out]
                exact this)
              clear hj2
              go_upto_region 28 with fail
              clear c0 c1
              have r1 : rowAt wr Y 0 3 = some #[.slice vu u.ins.length ucap, .slice bo u.outs.length eo, .int .i64 u.time] := HKr.out.row 0 _ 3 rfl rfl
              have r2 : rowAt wr G1 0 3 = some #[.slice ai t.ins.length ci, .slice ao t.outs.length co, .int .i64 t.time] := HKr.out.row 2 _ 3 rfl rfl
              go_wp2_with fail
              refine Calls.mono HTS.out ?_
              rintro e wl ⟨rfl, hb⟩
              have KZZ := Lib.hid (HKr.out.on hb)
              clear hb r1 r2
              go_wp2
              go_ret
              exact ⟨rfl, KZZ.out.below⟩
end Go.Proofs.YtljcdkfafknnpaaDoor
namespace Go.Proofs.YtljcdkfafknnpaaDoor.txID
set_option linter.unusedVariables false
set_option linter.unusedSimpArgs false
open Go.ChangeShapes Go.WideShapes Go.ChangeAt Go.RowKit
open Go.Proofs.YtljcdkfafknnpaaDoor

theorem okWide_arr {P : Program} {w : World} {r : Reach} {base : Nat} {n : Nat} {t e : TypeId} {v : Value} (ht : P.underlying t = some (.array n e)) (h : Value.okWide P w r base t v) : ∃ cs, v = .agg cs ∧ cs.size = P.cellsOf t := by
  simp only [Value.okWide, ht] at h
  obtain ⟨cs, h1, h2, -⟩ := h
  exact ⟨cs, h1, h2⟩
def witP : Value := .agg ((Array.replicate 32 (Value.int .u8 0)).push (Value.int .i64 0))
theorem okWide_st {P : Program} {w : World} {r : Reach} {base : Nat} {t : TypeId} {fs : Array Field} {v : Value} (ht : P.underlying t = some (.struct fs)) (h : Value.okWide P w r base t v) : ∃ cs, v = .agg cs ∧ cs.size = P.cellsOf t := by
  simp only [Value.okWide, ht] at h
  obtain ⟨cs, h1, h2, -⟩ := h
  exact ⟨cs, h1, h2⟩
theorem trodAll_cons_mk2 {H : Type} {enc : TypeId × Value → H} {P : Program} {w : World} {sp : Nat → Bool} {t : TypeId} {ts : List TypeId} {v : Value} {vs : List Value} {d : DataW H} {ds : List (DataW H)} {p q : List MemPlace}
    (h : DataW.Trod enc P w 0 sp true t v d p) (r : DataW.TrodAll enc P w 0 sp true ts vs ds q) : DataW.TrodAll enc P w 0 sp true (t :: ts) (v :: vs) (d :: ds) (p ++ q) := ⟨p, q, h, r, rfl⟩
set_option maxRecDepth 100000 in
theorem contract (walk : ∀ (t0 : TxD) (ai0 : Option Addr) (ci0 : Nat) (ao0 : Option Addr) (co0 : Nat) (ks1 : List (List UInt8)) (ak1 : Option Addr) (ck1 : Nat) (t2 : TxD) (ai2 : Option Addr) (ci2 : Nat) (ao2 : Option Addr) (co2 : Nat) (w : World) (_ : rdSl inR 34 w (.slice ai0 t0.ins.length ci0) t0.ins) (_ : rdSl outR 2 w (.slice ao0 t0.outs.length co0) t0.outs) (_ : rdSl bsR 1 w (.slice ak1 ks1.length ck1) ks1) (_ : rdSl inR 34 w (.slice ai2 t2.ins.length ci2) t2.ins) (_ : rdSl outR 2 w (.slice ao2 t2.outs.length co2) t2.outs) (_ : tabAt w),
      Calls Tryd.prog 3 #[.agg #[.slice ai0 t0.ins.length ci0, .slice ao0 t0.outs.length co0, .int .i64 t0.time], .slice ak1 ks1.length ck1, .agg #[.slice ai2 t2.ins.length ci2, .slice ao2 t2.outs.length co2, .int .i64 t2.time]] w fun e w' => e = .returned (.bool true) ∧ Below w.heap.size w w')
    (H : Type) (enc : TypeId × Value → H) (W : World) (base : Nat) (args : Array Value) (ds gs : List (DataW H)) (before : List MemPlace)
    (hval : ∀ (j : Nat) t v, Tryd.f3.params[j]? = some t → args[j]? = some v → Value.okWide Tryd.prog W .any base t v)
    (hW : DataW.Whole enc Tryd.prog Tryd.f3.params.toList Rows.txIDSpec.vars false W args.toList ds gs before) (hL : laidMetH Tryd.prog Rows.txIDRow.laid W) :
    Calls Tryd.prog 3 args W fun e W' => ∃ v, e = .returned v ∧ Rows.txIDSpec.post enc Tryd.prog Tryd.f3 false true false false W args v W' := by
  have hW' := hW
  obtain ⟨p, q, hA0, hV, rfl, hfz, hnd⟩ := hW
  have hA : DataW.TrodAll enc Tryd.prog W 0 (fun _ => true) true Tryd.f3.params.toList args.toList ds p := hA0
  rw [Tryd.params3] at hA hval
  obtain ⟨x0, vs0, d0, ds0, p0, q0, hargs, rfl, rfl, h0, r0⟩ := trodAll_cons hA
  obtain ⟨x1, vs1, d1, ds1, p1, q1, rfl, rfl, rfl, h1, r1⟩ := trodAll_cons r0
  obtain ⟨x2, vs2, d2, ds2, p2, q2, rfl, rfl, rfl, h2, r2⟩ := trodAll_cons r1
  obtain ⟨rfl, rfl, rfl⟩ := trodAll_nil r2
  obtain rfl : args = #[x0, x1, x2] := by cases args; simp_all
  obtain ⟨rfl, rfl⟩ := trodVars_none hV
  obtain ⟨cs0, rfl, hz0⟩ := okWide_st Tryd.underlying25 (hval 0 25 x0 rfl rfl)
  have g0 := h0
  obtain ⟨fu0, hf0⟩ := g0
  obtain ⟨t0, sa0, sb0, e0, hi0, ho0⟩ := open_tx hf0
  obtain ⟨ai0, ci0, rfl, -, -⟩ := sl_bounds hi0
  obtain ⟨ao0, co0, rfl, -, -⟩ := sl_bounds ho0
  obtain rfl : cs0 = #[.slice ai0 t0.ins.length ci0, .slice ao0 t0.outs.length co0, .int .i64 t0.time] := by apply Array.ext'; simpa [Value.cells] using e0
  obtain ⟨sa1, sl1, sc1, rfl⟩ := okWide_slice Tryd.underlying26 (hval 1 26 x1 rfl rfl)
  have g1 := h1
  obtain ⟨fu1, hf1⟩ := g1
  obtain ⟨ks1, hr1⟩ := open_keys hf1
  obtain ⟨ak1, ck1, hx1, -, -⟩ := sl_bounds hr1
  cases hx1
  obtain ⟨cs2, rfl, hz2⟩ := okWide_st Tryd.underlying25 (hval 2 25 x2 rfl rfl)
  have g2 := h2
  obtain ⟨fu2, hf2⟩ := g2
  obtain ⟨t2, sa2, sb2, e2, hi2, ho2⟩ := open_tx hf2
  obtain ⟨ai2, ci2, rfl, -, -⟩ := sl_bounds hi2
  obtain ⟨ao2, co2, rfl, -, -⟩ := sl_bounds ho2
  obtain rfl : cs2 = #[.slice ai2 t2.ins.length ci2, .slice ao2 t2.outs.length co2, .int .i64 t2.time] := by apply Array.ext'; simpa [Value.cells] using e2
  clear hA0
  simp only [List.append_nil] at hW'
  refine (walk t0 _ _ _ _ ks1 _ _ t2 _ _ _ _ W hi0 ho0 hr1 hi2 ho2 (tab_of hL)).mono fun e W' ⟨he, hg⟩ => ?_
  subst he
  have hlt := fun x hx => hW'.lt x hx
  refine ⟨_, rfl, post_of_below (pa := (p0 ++ (p1 ++ (p2 ++ [])))) (pv := []) hW' (fun _ _ _ => trodAll_cons_mk (shut_bool Tryd.underlying4 _) trodAll_mk0)
    (fun sp hsp => (trodAll_cons_mk2 (WideElems.Trod_stays (sp' := sp) (by kernel_rfl) (by kernel_rfl) (of_decide_eq_true (by kernel_rfl)) h0 (fun x hx => hg.same (hlt x (by first | (cases hx; done) | simp [hx]))) (fun x hx => hsp x (by first | (cases hx; done) | simp [hx]))) (trodAll_cons_mk2 (WideElems.Trod_stays (sp' := sp) (by kernel_rfl) (by kernel_rfl) (of_decide_eq_true (by kernel_rfl)) h1 (fun x hx => hg.same (hlt x (by first | (cases hx; done) | simp [hx]))) (fun x hx => hsp x (by first | (cases hx; done) | simp [hx]))) (trodAll_cons_mk2 (WideElems.Trod_stays (sp' := sp) (by kernel_rfl) (by kernel_rfl) (of_decide_eq_true (by kernel_rfl)) h2 (fun x hx => hg.same (hlt x (by first | (cases hx; done) | simp [hx]))) (fun x hx => hsp x (by first | (cases hx; done) | simp [hx]))) trodAll_mk0))))
    (fun _ _ => rfl) (by simp) hg (ok_one (by kernel_rfl) rfl (okWide_bool_mk Tryd.underlying4 _))⟩

set_option maxRecDepth 100000 in
theorem laid_met (os : Os) : laidMet Tryd.prog Rows.txIDRow.laid ((laidWorld os).forCall (fun _ _ => 0) ⟨#[], #[.agg #[.slice none 0 0, .slice none 0 0, .int .i64 0], .slice none 0 0, .agg #[.slice none 0 0, .slice none 0 0, .int .i64 0]], []⟩).memory :=
  laidMet_of_run' 8 (by kernel_rfl) (by kernel_rfl)
set_option maxRecDepth 100000 in
theorem reads (os : Os) {H : Type} (enc : TypeId × Value → H) : ∃ places, DataW.whole enc Tryd.prog ((laidWorld os).forCall (fun _ _ => 0) ⟨#[], #[.agg #[.slice none 0 0, .slice none 0 0, .int .i64 0], .slice none 0 0, .agg #[.slice none 0 0, .slice none 0 0, .int .i64 0]], []⟩).memory Tryd.f3.params.toList Rows.txIDSpec.vars false (#[.agg #[.slice none 0 0, .slice none 0 0, .int .i64 0], .slice none 0 0, .agg #[.slice none 0 0, .slice none 0 0, .int .i64 0]] : Array Value).toList 8 = some ([.agg [.nil, .nil, .lit (.int .i64 0)], .nil, .agg [.nil, .nil, .lit (.int .i64 0)]], [], places) :=
  ⟨[], by kernel_rfl⟩

set_option maxRecDepth 100000 in
theorem lifted (walk : ∀ (t0 : TxD) (ai0 : Option Addr) (ci0 : Nat) (ao0 : Option Addr) (co0 : Nat) (ks1 : List (List UInt8)) (ak1 : Option Addr) (ck1 : Nat) (t2 : TxD) (ai2 : Option Addr) (ci2 : Nat) (ao2 : Option Addr) (co2 : Nat) (w : World) (_ : rdSl inR 34 w (.slice ai0 t0.ins.length ci0) t0.ins) (_ : rdSl outR 2 w (.slice ao0 t0.outs.length co0) t0.outs) (_ : rdSl bsR 1 w (.slice ak1 ks1.length ck1) ks1) (_ : rdSl inR 34 w (.slice ai2 t2.ins.length ci2) t2.ins) (_ : rdSl outR 2 w (.slice ao2 t2.outs.length co2) t2.outs) (_ : tabAt w),
      Calls Tryd.prog 3 #[.agg #[.slice ai0 t0.ins.length ci0, .slice ao0 t0.outs.length co0, .int .i64 t0.time], .slice ak1 ks1.length ck1, .agg #[.slice ai2 t2.ins.length ci2, .slice ao2 t2.outs.length co2, .int .i64 t2.time]] w fun e w' => e = .returned (.bool true) ∧ Below w.heap.size w w') (os : Os) (started : os.Started) (H : Type) (enc : TypeId × Value → H) (F : Stop.Interp) :
    ReturnsInHanded {} Tryd.checked os 3 .any ((OpenSpec.ofChange Rows.txIDSpec).preRow enc Tryd.prog Tryd.f3 Rows.txIDRow.domain false Rows.txIDRow.laid) (((OpenSpec.ofChange Rows.txIDSpec).at F).post enc Tryd.prog Tryd.f3 false true false false) := by
  obtain ⟨places, hx⟩ := reads os enc
  refine returnsInHanded_of_row (C := Tryd.checked) (s := OpenSpec.ofChange Rows.txIDSpec) own_knob started (by kernel_rfl) Tryd.func3
    (witness_row_at (enc := enc) (C := Tryd.checked) false (laidWorld os) #[.agg #[.slice none 0 0, .slice none 0 0, .int .i64 0], .slice none 0 0, .agg #[.slice none 0 0, .slice none 0 0, .int .i64 0]] rfl (by kernel_rfl) (by kernel_rfl) (by kernel_rfl)
      (OpenSpec.preRow_of_cond 8 hx (by kernel_rfl) (fun k hk => by cases hk) (by kernel_rfl) (laid_met os))) ?_
  intro W base args ds gs before hval hW _ _ _ hL _ _
  exact contract walk H enc W base args ds gs before hval hW hL
theorem said_of (walk : ∀ (t0 : TxD) (ai0 : Option Addr) (ci0 : Nat) (ao0 : Option Addr) (co0 : Nat) (ks1 : List (List UInt8)) (ak1 : Option Addr) (ck1 : Nat) (t2 : TxD) (ai2 : Option Addr) (ci2 : Nat) (ao2 : Option Addr) (co2 : Nat) (w : World) (_ : rdSl inR 34 w (.slice ai0 t0.ins.length ci0) t0.ins) (_ : rdSl outR 2 w (.slice ao0 t0.outs.length co0) t0.outs) (_ : rdSl bsR 1 w (.slice ak1 ks1.length ck1) ks1) (_ : rdSl inR 34 w (.slice ai2 t2.ins.length ci2) t2.ins) (_ : rdSl outR 2 w (.slice ao2 t2.outs.length co2) t2.outs) (_ : tabAt w),
      Calls Tryd.prog 3 #[.agg #[.slice ai0 t0.ins.length ci0, .slice ao0 t0.outs.length co0, .int .i64 t0.time], .slice ak1 ks1.length ck1, .agg #[.slice ai2 t2.ins.length ci2, .slice ao2 t2.outs.length co2, .int .i64 t2.time]] w fun e w' => e = .returned (.bool true) ∧ Below w.heap.size w w') : Rows.TxIDSaid :=
  OpenClaim.holds_of_cond 3 Tryd.f3 rfl rfl rfl rfl rfl rfl rfl ⟨rfl, rfl, rfl, rfl, rfl⟩ rfl rfl rfl rfl rfl (by kernel_rfl) Tryd.func3 (by kernel_rfl)
    (of_decide_eq_true (by kernel_rfl)) (by unfold Func.isWrapper; first | (rw [if_pos (by decide +kernel)]; kernel_rfl) | (rw [if_neg (by decide +kernel)]; exact ⟨rfl, rfl⟩))
    (fun os started H enc _ F => by rw [OpenClaim.pre_eq_preRow]; exact lifted walk os started H enc F)
theorem plain (f : FuncId) (fn : Func) (hf : Tryd.pinned.checked.prog.funcNamed "moneyer/moneyerlaw2.TxID" = some f) (hfn : Tryd.pinned.checked.prog.funcs[f]? = some fn) :
    true = Tryd.pinned.checked.prog.looks [] ∧ ∀ (j : Nat) t, fn.params[j]? = some t → Tryd.pinned.checked.prog.wantsStandIn t = false := by
  obtain rfl : f = 3 := Option.some.inj ((show Tryd.prog.funcNamed "moneyer/moneyerlaw2.TxID" = some 3 by kernel_rfl).symm.trans hf) |>.symm
  obtain rfl : fn = Tryd.f3 := (Option.some.inj (Tryd.func3.symm.trans hfn)).symm
  refine ⟨by kernel_rfl, fun j t ht => ?_⟩
  rw [Tryd.params3] at ht
  have hm := Array.mem_of_getElem? ht
  simp only [List.mem_toArray, List.mem_cons, List.not_mem_nil, or_false] at hm
  rcases hm with rfl | rfl | rfl
  · exact (show Tryd.prog.wantsStandIn 25 = false by kernel_rfl)
  · exact (show Tryd.prog.wantsStandIn 26 = false by kernel_rfl)
  · exact (show Tryd.prog.wantsStandIn 25 = false by kernel_rfl)
theorem card_of (walk : ∀ (t0 : TxD) (ai0 : Option Addr) (ci0 : Nat) (ao0 : Option Addr) (co0 : Nat) (ks1 : List (List UInt8)) (ak1 : Option Addr) (ck1 : Nat) (t2 : TxD) (ai2 : Option Addr) (ci2 : Nat) (ao2 : Option Addr) (co2 : Nat) (w : World) (_ : rdSl inR 34 w (.slice ai0 t0.ins.length ci0) t0.ins) (_ : rdSl outR 2 w (.slice ao0 t0.outs.length co0) t0.outs) (_ : rdSl bsR 1 w (.slice ak1 ks1.length ck1) ks1) (_ : rdSl inR 34 w (.slice ai2 t2.ins.length ci2) t2.ins) (_ : rdSl outR 2 w (.slice ao2 t2.outs.length co2) t2.outs) (_ : tabAt w),
      Calls Tryd.prog 3 #[.agg #[.slice ai0 t0.ins.length ci0, .slice ao0 t0.outs.length co0, .int .i64 t0.time], .slice ak1 ks1.length ck1, .agg #[.slice ai2 t2.ins.length ci2, .slice ao2 t2.outs.length co2, .int .i64 t2.time]] w fun e w' => e = .returned (.bool true) ∧ Below w.heap.size w w') : Rows.TxIDCardSaid :=
  Claim7.holds_tied_plain_at .later [] _ _ _ _ (said_of walk) (fun _ h => by cases h) (by kernel_rfl) (fun _ h => by cases h) txID_row_tie rfl ⟨rfl, rfl⟩ (by kernel_rfl) rfl plain (by kernel_rfl)
end Go.Proofs.YtljcdkfafknnpaaDoor.txID
namespace Go.Proofs.YtljcdkfafknnpaaDoor.txID
set_option linter.unusedVariables false
set_option linter.unusedSimpArgs false
open Go.Proofs.YtljcdkfafknnpaaDoor
theorem proved : Rows.TxIDCardSaid := card_of fun t ai ci ao co ks ak ck u bi di bo eo w hi ho hk ki ko hT => txid_law t ai ci ao co ks ak ck u bi di bo eo w hi ho hk ki ko hT
#print axioms proved
end Go.Proofs.YtljcdkfafknnpaaDoor.txID
