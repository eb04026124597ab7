/- Merged: Hdb. Conditions: none beyond each theorem's own. -/
import Derived.Test.YtljcdkfafknnpaaGreatDoorHdd
import Derived.Test.YtljcdkfafknnpaaGreatDoorMf
namespace Go.Proofs.YtljcdkfafknnpaaGreatDoor
set_option linter.unusedVariables false
set_option linter.unusedSimpArgs false
open Go.RowKit
attribute [local go_sem ↓] run_load_agg run_store_agg run_load_any

/-- What is ahead of the nonce, and the whole. -/
def aheadM (h : HeadD) : List UInt8 := h.prev ++ h.root ++ szM h.height.toNat ++ szM h.time.toNat ++ szM h.bits.toNat
def headB (h : HeadD) : List UInt8 := aheadM h ++ szM h.nonce.toNat
def hashD (h : HeadD) : List UInt8 := shaM (headB h)
theorem rangeF_zero {h : HeadD} (hr : rangeF h = 0) : (0 ≤ h.height ∧ h.height ≤ 1073741824) ∧ (0 ≤ h.time ∧ h.time ≤ 1073741824) ∧ (0 ≤ h.nonce ∧ h.nonce ≤ 1073741824) ∧ (0 ≤ h.bits ∧ h.bits ≤ 40) := by
  unfold rangeF at hr
  split at hr
  · assumption
  · cases hr
theorem headB_le {h : HeadD} (k : HdOk h) : (headB h).length ≤ 1000 := by
  have h1 := szM_le h.height.toNat; have h2 := szM_le h.time.toNat; have h3 := szM_le h.bits.toNat; have h4 := szM_le h.nonce.toNat
  unfold headB aheadM
  simp only [List.length_append, k.p, k.r]; omega
def BytesPost (b : List UInt8) (w : World) (e : Ending) (w' : World) : Prop := ∃ v, e = .returned v ∧ own w' w.heap.size 5 1 v b.length (b.map vB) ∧ Below w.heap.size w w'
theorem bytesPost_mk {b : List UInt8} {w w' : World} {e : Ending} (v : Value) (he : e = .returned v) (h1 : own w' w.heap.size 5 1 v b.length (b.map vB)) (h2 : Below w.heap.size w w') : BytesPost b w e w' := ⟨v, he, h1, h2⟩
set_option maxHeartbeats 4000000 in
set_option maxRecDepth 100000 in
theorem headBytes_any (h : HeadD) (k : HdOk h) (hr : rangeF h = 0) (w : World) :
    Calls Tryz.prog 7 #[.agg (hdV h)] w (BytesPost (headB h) w) := by
  obtain ⟨n1, n2, n3, n4⟩ := new_hd w h k
  have k0 := (Kept.refl w).alloc (hdV h) 25
  unfold zHd at n1 n2
  obtain ⟨⟨a0, a1⟩, ⟨b0, b1⟩, ⟨d0, d1⟩, ⟨e0, e1⟩⟩ := rangeF_zero hr
  obtain ⟨na, hna⟩ : ∃ n : Nat, h.height = (n : Int) := ⟨h.height.toNat, by omega⟩
  obtain ⟨nb, hnb⟩ : ∃ n : Nat, h.time = (n : Int) := ⟨h.time.toNat, by omega⟩
  obtain ⟨nc, hnc⟩ : ∃ n : Nat, h.bits = (n : Int) := ⟨h.bits.toNat, by omega⟩
  obtain ⟨nd, hnd⟩ : ∃ n : Nat, h.nonce = (n : Int) := ⟨h.nonce.toNat, by omega⟩
  have HB : Hid (headB h = h.prev ++ h.root ++ szM na ++ szM nb ++ szM nc ++ szM nd) := Lib.hid (by unfold headB aheadM; rw [hna, hnb, hnc, hnd]; rfl)
  have ht := hdV_tail h k
  rw [hna, hnb, hnc, hnd] at ht
  have HT := Lib.hid ht
  have va : na < 4611686018427387904 := by omega
  have vb : nb < 4611686018427387904 := by omega
  have vc : nc < 4611686018427387904 := by omega
  have vd : nd < 4611686018427387904 := by omega
  have K0 := Lib.hid k0
  have HK := Lib.hid k
  have la := szM_le na; have lb := szM_le nb; have lc := szM_le nc; have ld := szM_le nd
  have lp := k.p; have lr := k.r
  clear k0 k hr hna hnb hnc hnd ht a0 a1 b0 b1 d0 d1 e0 e1
  go_enter Tryz.func7, Tryz.ntmps7
  go_upto_region 1 with fail
  clear n1 n2 n3 n4
  change Code.wp _ _ _ _ (w.alloc (.cells (hdV h) 25))
  obtain ⟨G, hG⟩ : ∃ G, w.heap.size = G := ⟨_, rfl⟩
  have K0' : Hid (∃ w0, w.alloc (.cells (hdV h) 25) = w0 ∧ Kept w [(G, hdV h, 25)] w0) := Lib.hid ⟨_, rfl, by rw [← hG]; exact K0.out⟩
  rw [hG] at ⊢
  clear hG K0
  obtain ⟨w0, hw0, k0⟩ := K0'.out
  rw [hw0]
  have HG0 : Hid (Grow w [(G, hdV h, 25)] (.slice none 0 0) [] w0) := Lib.hid ⟨k0, own_nil _ _ _ _⟩
  clear hw0 k0 K0'
  go_wp2_with (at_builtin; refine wpList_grow rfl (.tmp 4) (.tmp 6) rfl h.prev HG0.out rfl rfl (rd_dig (hd_prev (HG0.out.kept.row 0 _ 68 rfl (hdV_size h HK.out)) HK.out) lp) (by simp only [List.length_nil]; omega) ?_)
  intro v1 w1 HG1
  clear HG0
  have HR1 : Hid (rd w1 (.slice (some ⟨G, 32, none⟩) 32 32) h.root.length (h.root.map vB)) := Lib.hid (by
    have := hd_root (HG1.out.kept.row 0 _ 68 rfl (hdV_size h HK.out)) HK.out
    rw [Nat.zero_add] at this
    exact rd_dig this lr)
  go_wp2_with (at_builtin; refine wpList_grow rfl (.tmp 8) (.tmp 10) rfl h.root HG1.out rfl rfl HR1.out (by first | omega | (simp only [List.length_append, List.length_nil]; omega)) ?_)
  intro v2 w2 HG2
  clear HG1 HR1
  have c : w2.cell? ⟨G, 64, none⟩ = some (.int .i64 (na : Int)) := HG2.out.kept.cell 0 64 _ _ rfl HT.out.1
  go_wp2_with fail
  refine (rsize_any na va w2).mono ?_
  rintro e w3 ⟨s, rfl, ho, hb⟩
  have HG3 := Lib.hid (HG2.out.on hb)
  have HR := Lib.hid (own_rd ho)
  clear ho hb c HG2
  go_wp2_with (at_builtin; refine wpList_grow rfl (.tmp 12) (.tmp 15) rfl (szM na) HG3.out rfl rfl HR.out (by first | omega | (simp only [List.length_append, List.length_nil]; omega)) ?_)
  intro v4 w4 HG4
  clear HG3 HR
  have c : w4.cell? ⟨G, 65, none⟩ = some (.int .i64 (nb : Int)) := HG4.out.kept.cell 0 65 _ _ rfl HT.out.2.1
  go_wp2_with fail
  refine (rsize_any nb vb w4).mono ?_
  rintro e w5 ⟨s, rfl, ho, hb⟩
  have HG5 := Lib.hid (HG4.out.on hb)
  have HR := Lib.hid (own_rd ho)
  clear ho hb c HG4
  go_wp2_with (at_builtin; refine wpList_grow rfl (.tmp 17) (.tmp 20) rfl (szM nb) HG5.out rfl rfl HR.out (by first | omega | (simp only [List.length_append, List.length_nil]; omega)) ?_)
  intro v6 w6 HG6
  clear HG5 HR
  have c : w6.cell? ⟨G, 66, none⟩ = some (.int .i64 (nc : Int)) := HG6.out.kept.cell 0 66 _ _ rfl HT.out.2.2.1
  go_wp2_with fail
  refine (rsize_any nc vc w6).mono ?_
  rintro e w7 ⟨s, rfl, ho, hb⟩
  have HG7 := Lib.hid (HG6.out.on hb)
  have HR := Lib.hid (own_rd ho)
  clear ho hb c HG6
  go_wp2_with (at_builtin; refine wpList_grow rfl (.tmp 22) (.tmp 25) rfl (szM nc) HG7.out rfl rfl HR.out (by first | omega | (simp only [List.length_append, List.length_nil]; omega)) ?_)
  intro v8 w8 HG8
  clear HG7 HR
  have c : w8.cell? ⟨G, 67, none⟩ = some (.int .i64 (nd : Int)) := HG8.out.kept.cell 0 67 _ _ rfl HT.out.2.2.2
  go_wp2_with fail
  refine (rsize_any nd vd w8).mono ?_
  rintro e w9 ⟨s, rfl, ho, hb⟩
  have HG9 := Lib.hid (HG8.out.on hb)
  have HR := Lib.hid (own_rd ho)
  clear ho hb c HG8
  go_wp2_with (at_builtin; refine wpList_grow rfl (.tmp 27) (.tmp 30) rfl (szM nd) HG9.out rfl rfl HR.out (by first | omega | (simp only [List.length_append, List.length_nil]; omega)) ?_)
  intro va2 wa HGA
  clear HG9 HR
  have HF : Hid (own wa w.heap.size 5 1 va2 (headB h).length ((headB h).map vB)) := Lib.hid (by
    rw [HB.out]
    have := HGA.out.own_
    simpa only [List.nil_append, List.append_assoc] using this)
  have HBF := Lib.hid HGA.out.kept.below
  clear HGA HB
  go_wp2
  go_ret
  exact bytesPost_mk _ rfl HF.out HBF.out
theorem hashD_length (h : HeadD) : (hashD h).length = 32 := shaM_length _
set_option maxHeartbeats 4000000 in
set_option maxRecDepth 100000 in
theorem hashOf_any (h : HeadD) (k : HdOk h) (hr : rangeF h = 0) (w : World) :
    Calls Tryz.prog 8 #[.agg (hdV h)] w fun e w' => e = .returned (.agg (dgV (hashD h))) ∧ Below w.heap.size w w' := by
  obtain ⟨n1, n2, n3, n4⟩ := new_hd w h k
  have k0 := ((Kept.refl w).alloc (hdV h) 25).alloc zD 23
  rw [show (w.alloc (.cells (hdV h) 25)).heap.size = w.heap.size + 1 from by simp] at k0
  unfold zHd at n1 n2
  have K0 := Lib.hid k0
  have HK := Lib.hid k; have HRF := Lib.hid hr
  clear k0 k hr
  go_enter Tryz.func8, Tryz.ntmps8
  go_upto_region 1 with fail
  clear n1 n2 n3 n4
  change Code.wp _ _ _ _ ((w.alloc (.cells (hdV h) 25)).alloc (.cells zD 23))
  obtain ⟨D, hD⟩ : ∃ D, w.heap.size + 1 = D := ⟨_, rfl⟩
  have HDG : Hid (w.heap.size ≤ D) := Lib.hid (by omega)
  rw [hD] at K0 ⊢
  clear hD
  obtain ⟨G, hG⟩ : ∃ G, w.heap.size = G := ⟨_, rfl⟩
  have K0' : Hid (∃ w0, (w.alloc (.cells (hdV h) 25)).alloc (.cells zD 23) = w0 ∧ Kept w [(D, zD, 23), (G, hdV h, 25)] w0) := Lib.hid ⟨_, rfl, by rw [← hG]; exact K0.out⟩
  rw [hG] at ⊢
  clear hG K0
  obtain ⟨w0, hw0, k0⟩ := K0'.out
  rw [hw0]
  have K0 := Lib.hid k0
  clear hw0 k0 K0'
  have r1 : rowAt w0 G 0 68 = some (hdV h) := K0.out.row 1 _ 68 rfl (hdV_size h HK.out)
  go_wp2_with fail
  refine (headBytes_any h HK.out HRF.out w0).mono ?_
  rintro e w1 ⟨v, rfl, ho, hb⟩
  have K1 := Lib.hid (K0.out.on hb)
  have HR := Lib.hid (own_rd ho)
  clear ho hb r1
  go_wp2_with fail
  refine (rsum_any (headB h) v _ w1 HR.out rfl (by have := headB_le HK.out; omega)).mono ?_
  rintro e w2 ⟨rfl, hb⟩
  have K2 := Lib.hid (K1.out.on hb)
  clear hb HR
  have hz32 : (shaM (headB h)).length = 32 := shaM_length _
  have s1 : (rowAt w2 D 0 32).isSome = true := by rw [K2.out.row 0 _ 32 rfl rfl]; rfl
  have s2 : wrAt w2 D = true := wrAt_of_heap (K2.out.get 0 _ rfl)
  have s3 : plainCells (dgV (shaM (headB h))) = true := dgV_plain _
  have s4 : (dgV (shaM (headB h))).size = 32 := by rw [dgV_size, hz32]
  go_wp2
  refine bodyPost_ret (v := .agg (dgV (shaM (headB h)))) (results_cell_at rfl _ _ D 0 _ rfl agg_digest ?_) rfl ⟨rfl, ?_⟩
  · rw [cells_digest]; exact rowAt_put_same (K2.out.get 0 _ rfl) (dgV (shaM (headB h))) (by rw [s4]; rfl) 32 s4.symm
  · exact putAt_below K2.out.below HDG.out _ _
def headF (h : HeadD) : Int := if rangeF h ≠ 0 then rangeF h else if ((zerosM (hashD h) : Nat) : Int) < h.bits then 10 else 0
set_option maxHeartbeats 4000000 in
set_option maxRecDepth 100000 in
theorem headFault_any (h : HeadD) (k : HdOk h) (w : World) :
    Calls Tryz.prog 14 #[.agg (hdV h)] w fun e w' => e = .returned (.int .i64 (headF h)) ∧ Below w.heap.size w w' := by
  obtain ⟨n1, n2, n3, n4⟩ := new_hd w h k
  have k0 := (Kept.refl w).alloc (hdV h) 25
  unfold zHd at n1 n2
  have K0 := Lib.hid k0
  have HT := Lib.hid (hdV_tail h k)
  have HK := Lib.hid k
  clear k0 k
  go_enter Tryz.func14, Tryz.ntmps14
  go_upto_region 1 with fail
  clear n1 n2 n3 n4
  change Code.wp _ _ _ _ (w.alloc (.cells (hdV h) 25))
  obtain ⟨G, hG⟩ : ∃ G, w.heap.size = G := ⟨_, rfl⟩
  have K0' : Hid (∃ w0, w.alloc (.cells (hdV h) 25) = w0 ∧ Kept w [(G, hdV h, 25)] w0) := Lib.hid ⟨_, rfl, by rw [← hG]; exact K0.out⟩
  rw [hG] at ⊢
  clear hG K0
  obtain ⟨w0, hw0, k0⟩ := K0'.out
  rw [hw0]
  have K0 := Lib.hid k0
  clear hw0 k0 K0'
  have r1 : rowAt w0 G 0 68 = some (hdV h) := K0.out.row 0 _ 68 rfl (hdV_size h HK.out)
  go_wp2_with fail
  refine (rangeOf_any h HK.out w0).mono ?_
  rintro e w1 ⟨rfl, hb⟩
  have K1 := Lib.hid (K0.out.on hb)
  clear hb r1
  obtain ⟨f, hf⟩ : ∃ f, rangeF h = f := ⟨_, rfl⟩
  have HF := Lib.hid hf
  rw [hf]
  clear hf
  by_cases hz : f = 0
  rotate_left
  · have HE : Hid (headF h = f) := Lib.hid (by unfold headF; rw [HF.out, if_pos hz])
    have q1 : (f == 0) = false := by simp; exact hz
    clear hz
    go_wp2_with fail
    go_region
    all_goals
      go_wp2
      go_ret
      exact ⟨by rw [HE.out]; rfl, K1.out.drew.below⟩
  subst hz
  have HE : Hid (headF h = if ((zerosM (hashD h) : Nat) : Int) < h.bits then 10 else 0) := Lib.hid (by unfold headF; rw [HF.out, if_neg (by simp)])
  have HL32 := Lib.hid (hashD_length h)
  have HCA := Lib.hid (fun W => hashOf_any h HK.out HF.out W)
  have HCB := Lib.hid (fun W => zerosOf_any (hashD h) (hashD_length h) W)
  obtain ⟨D, hD⟩ : ∃ D, hashD h = D := ⟨_, rfl⟩
  rw [hD] at HE HCA HCB
  obtain ⟨z, hzz⟩ : ∃ z, zerosM D = z := ⟨_, rfl⟩
  rw [hzz] at HE HCB
  clear hD hzz
  have HB8 := Lib.hid ((Below.refl w1.heap.size w1).drew)
  go_wp2_with fail
  go_region_held3 (fun w' => rowAt w' G 0 68 = some (hdV h) ∧ w'.cell? ⟨G, 66, none⟩ = some (.int .i64 h.bits))
    (exact ⟨(K1.out.on HB8.out).row 0 _ 68 rfl (hdV_size h HK.out), (K1.out.on HB8.out).cell 0 66 _ _ rfl HT.out.2.2.1⟩)
    (first
      | (go_at_call 8
         refine (HCA.out _).mono ?_
         rintro e w' ⟨rfl, hd⟩
         replace HB8 := Lib.hid (HB8.out.trans (hd.mono HB8.out.size))
         clear hd)
      | (go_at_call 37
         refine (HCB.out _).mono ?_
         rintro e w' ⟨rfl, hd⟩
         replace HB8 := Lib.hid (HB8.out.trans (hd.mono HB8.out.size))
         clear hd))
  have K2 := Lib.hid (K1.out.on HB8.out)
  by_cases hlt : ((z : Nat) : Int) < h.bits
  · have HE2 : Hid (headF h = 10) := Lib.hid (by rw [HE.out, if_pos hlt])
    go_wp2
    go_ret
    exact ⟨by rw [HE2.out]; rfl, K2.out.below⟩
  · have HE2 : Hid (headF h = 0) := Lib.hid (by rw [HE.out, if_neg hlt])
    go_wp2
    go_ret
    exact ⟨by rw [HE2.out]; rfl, K2.out.below⟩
end Go.Proofs.YtljcdkfafknnpaaGreatDoor
