/- Merged: Btl. Conditions: none beyond each theorem's own. -/
import Derived.Test.YtljcdkfafknnpaaGreatDoorHeq
import Derived.Test.YtljcdkfafknnpaaGreatDoorBlk
import Derived.Test.YtljcdkfafknnpaaGreatDoorTld
namespace Go.Proofs.YtljcdkfafknnpaaGreatDoor
set_option linter.unusedVariables false
set_option linter.unusedSimpArgs false
open Go.RowKit
theorem quiet_loadN {C : World → Prop} {K : Act → Prop} {a : Act} {dst : Option Tmp} {x : Operand} {type : TypeId} {pos : String} {after : Array Edge} {guard : Option (Nat × Bool)} (T : TypeId) (n : Nat) (hT : aggOf Tryz.prog T = true) (hn : Tryz.prog.cellsOf T = n) (g off : Nat) (cs : Array Value)
    (hx : a.eval x = .pointer (some ⟨g, off, none⟩)) (h : ∀ w, C w → rowAt w g off n = some cs) (hK : K (a.put dst (.agg cs))) :
    Oper.quiet Tryz.prog ⟨dst, .load T x, type, pos, after, guard⟩ a C K := by
  refine ⟨.agg cs, fun w hw => ?_, hK⟩
  have hr : rowOf w (a.eval x) (Tryz.prog.cellsOf T) = some cs := by rw [hx, rowOf_ptr, hn]; exact h w hw
  unfold Oper.quietAt
  rw [run_load_agg a.eval w dst _ x type pos after guard hT (by rw [hr]; rfl), hr]
  exact ⟨rfl, rfl⟩
theorem kept_store {w w1 : World} {X : Nat} {cs : Array Value} {T : TypeId} {bs : List BoxD} (h : Kept w ((X, cs, T) :: bs) w1) (cs' : Array Value) (hs : cs.size = cs'.size) (hX : w.heap.size ≤ X) (hn : ∀ b ∈ bs, b.1 ≠ X) : Kept w ((X, cs', T) :: bs) (putAt w1 X 0 cs') :=
  ⟨putAt_below h.below hX _ _, fun b hb => by
    rcases List.mem_cons.1 hb with rfl | hb
    · exact putAt_heap (h.get 0 _ rfl) cs' hs
    · exact (putAt_other w1 X 0 cs' b.1 (hn b hb)).trans (h.at_ b (List.mem_cons_of_mem _ hb))⟩
theorem kept_lt {w w1 : World} {bs : List BoxD} (h : Kept w bs w1) : ∀ b ∈ bs, b.1 < w1.heap.size := fun b hb => (Array.getElem?_eq_some_iff.1 (h.at_ b hb)).1
attribute [local go_sem ↓] run_load_agg run_store_agg run_load_any exec_build_hd0
set_option maxHeartbeats 16000000 in
set_option maxRecDepth 100000 in
theorem blockTells_any (h hk : HeadD) (oh : HdOk h) (ok : HdOk hk) (b : List UInt8) (n : Nat) (ao : Option Addr) (cap : Nat) (ts : List TxD) (ta : Option Addr) (tc : Nat) (w : World)
    (hb : rd w (.slice ao n cap) n (b.map vB)) (hl : b.length = n) (hn : n ≤ 140737488351232) (hts : rdSl txR 3 w (.slice ta ts.length tc) ts) (hT : tabAt w) (hE : errAt w) :
    Calls Tryz.prog 3 #[.agg (hdV h), .slice ao n cap, .agg (blV hk (.slice ta ts.length tc))] w fun e w' => e = .returned (.bool true) ∧ Below w.heap.size w w' := by
  obtain ⟨_, _, e, k1, k2⟩ := sl_bounds hts
  cases e
  unfold maxLen at k2
  obtain ⟨n1, n2, n3, n4⟩ := new_hd w h oh
  obtain ⟨m1, m2, m3, m4⟩ := new_bl (w.alloc (.cells (hdV h) 25)) hk ta ts.length tc ok
  have hgT := rowAt_lt hT
  have HT := Lib.hid hT; have HE := Lib.hid hE; have HS := Lib.hid hts; have HB := Lib.hid hb; have HL := Lib.hid hl
  have OH := Lib.hid oh; have OK := Lib.hid ok
  have HZ69 := Lib.hid (blV_size hk (.slice ta ts.length tc) ok)
  have k0 := ((Kept.refl w).alloc (hdV h) 25).alloc (blV hk (.slice ta ts.length tc)) 29
  rw [show (w.alloc (.cells (hdV h) 25)).heap.size = w.heap.size + 1 from by simp] at k0 m1 m2
  unfold zHd at n1 n2
  unfold zBl at m1 m2
  have K0 := Lib.hid k0
  have HHT := Lib.hid (hdV_tail h oh)
  clear k0 hT hE hts hb hl oh ok
  go_enter Tryz.func3, Tryz.ntmps3
  go_upto_region 1 with fail
  clear n1 n2 n3 n4 m1 m2 m3 m4
  change Code.wp _ _ _ _ ((w.alloc (.cells (hdV h) 25)).alloc (.cells (blV hk (.slice ta ts.length tc)) 29))
  obtain ⟨B, hB⟩ : ∃ B, w.heap.size + 1 = B := ⟨_, rfl⟩
  have HGB : Hid (w.heap.size < B) := Lib.hid (by omega)
  rw [hB] at K0 ⊢
  clear hB
  obtain ⟨H, hH⟩ : ∃ H, w.heap.size = H := ⟨_, rfl⟩
  have K0' : Hid (∃ w0, (w.alloc (.cells (hdV h) 25)).alloc (.cells (blV hk (.slice ta ts.length tc)) 29) = w0 ∧ Kept w [(B, blV hk (.slice ta ts.length tc), 29), (H, hdV h, 25)] w0) := Lib.hid ⟨_, rfl, by rw [← hH]; exact K0.out⟩
  rw [hH] at ⊢
  clear hH K0
  obtain ⟨w0, hw0, k0⟩ := K0'.out
  rw [hw0]
  have K0 := Lib.hid k0
  clear hw0 k0 K0'
  have rh : rowAt w0 H 0 68 = some (hdV h) := K0.out.row 1 _ 68 rfl (hdV_size _ OH.out)
  go_wp2_with fail
  refine Calls.mono (rangeOf_any h OH.out w0) ?_
  rintro e x1 ⟨rfl, hb⟩
  clear rh
  have K2 := Lib.hid (K0.out.on hb)
  clear hb
  clear K0
  obtain ⟨F, hF⟩ : ∃ F, rangeF h = F := ⟨_, rfl⟩
  rw [hF]
  have HF := Lib.hid hF
  clear hF
  go_upto_region 4 with fail
  change Code.wp _ _ _ _ (x1.alloc (.cells (zD) 23))
  have K3 := Lib.hid (K2.out.alloc (zD) 23)
  obtain ⟨Z, hA⟩ : ∃ Z, x1.heap.size = Z := ⟨_, rfl⟩
  have HGZ : Hid (w.heap.size ≤ Z) := Lib.hid (by rw [← hA]; exact K2.out.below.size)
  have HNZ : Hid (∀ b ∈ ([(B, blV hk (.slice ta ts.length tc), 29), (H, hdV h, 25)] : List BoxD), b.1 ≠ Z) := Lib.hid (by rw [← hA]; exact fun b hb => Nat.ne_of_lt (kept_lt K2.out b hb))
  rw [hA] at K3 ⊢
  clear hA
  obtain ⟨x4, hw⟩ : ∃ x4, x1.alloc (.cells (zD) 23) = x4 := ⟨_, rfl⟩
  rw [hw] at K3  ⊢
  clear hw
  clear K2
  obtain ⟨E, hE⟩ : ∃ E, hashE h = E := ⟨_, rfl⟩
  have E32 : Hid (E.length = 32) := Lib.hid (by rw [← hE]; exact hashE_length h)
  have HEE := Lib.hid hE
  clear hE
  have he1 := eql_self E E32.out
  have HE1 := Lib.hid he1
  clear he1
  obtain ⟨hd, hhd⟩ : ∃ hd, (headM b).getD hZero = hd := ⟨_, rfl⟩
  have OKD : Hid (HdOk hd) := Lib.hid (by rw [← hhd]; exact headM_ok b)
  have HHD := Lib.hid hhd
  clear hhd
  have HE2 := Lib.hid (eql_hd hd OKD.out)
  obtain ⟨RE, hRE⟩ : ∃ RE, rootE ts = RE := ⟨_, rfl⟩
  have R32 : Hid (RE.length = 32) := Lib.hid (by rw [← hRE]; exact rootE_length ts)
  have HRE := Lib.hid hRE
  clear hRE
  have HE3 := Lib.hid (eql_self RE R32.out)
  by_cases hF0 : F = 0
  · subst hF0
    have rh : rowAt x4 H 0 68 = some (hdV h) := K3.out.row 2 _ 68 rfl (hdV_size _ OH.out)
    go_wp2_with fail
    refine Calls.mono (headBytes_any h OH.out HF.out x4) ?_
    rintro e x5 ⟨v1, rfl, ho, hb⟩
    clear rh
    have HO1 := Lib.hid ho
    clear ho
    have K6 := Lib.hid (K3.out.on hb)
    clear hb
    clear K3
    have rh : rowAt x5 H 0 68 = some (hdV h) := K6.out.row 2 _ 68 rfl (hdV_size _ OH.out)
    go_wp2_with fail
    refine Calls.mono (hashOf_any h OH.out HF.out x5) ?_
    rintro e x7 ⟨rfl, hb⟩
    clear rh
    have HO2 := Lib.hid (own_below hb HO1.out (Nat.le_refl _))
    clear HO1
    have K8 := Lib.hid (K6.out.on hb)
    clear hb
    clear K6
    rw [show hashD h = E from by rw [← HEE.out]; unfold hashE; rw [if_pos HF.out]]
    have s1 : (rowAt x7 Z 0 32).isSome = true := by rw [K8.out.row 0 _ 32 rfl (rfl)]; rfl
    have s2 : wrAt x7 Z = true := wrAt_of_heap (K8.out.get 0 _ rfl)
    have s3 : plainCells (dgV E) = true := dgV_plain _
    have s4 : (dgV E).size = 32 := by rw [dgV_size, E32.out]
    have K9 := Lib.hid (kept_store K8.out (dgV E) (by rw [s4]; exact rfl) HGZ.out HNZ.out)
    have HO3 := Lib.hid (own_kept (w' := putAt x7 Z 0 (dgV E)) HO2.out (fun k hk _ _ => putAt_other x7 Z 0 _ k (fun e => own_ne HO2.out (K8.out.get 0 _ rfl) (by show (_ : Nat) ≠ _; simp only []; decide) (by rw [hk, e]))))
    go_upto_region 7 with fail
    clear s1 s2 s3 s4
    obtain ⟨x10, hw⟩ : ∃ x10, putAt x7 Z 0 (dgV E) = x10 := ⟨_, rfl⟩
    rw [hw] at K9 HO3 ⊢
    clear hw
    clear K8
    obtain ⟨wa, wc, hv1, -, -, -⟩ := own_rd HO3.out
    subst hv1
    have RDW := Lib.hid (own_rd HO3.out)
    clear HO3 HO2
    have rh : rowAt x10 H 0 68 = some (hdV h) := K9.out.row 2 _ 68 rfl (hdV_size _ OH.out)
    go_wp2_with fail
    refine Calls.mono (blockBytes_any h OH.out x10) ?_
    rintro e x11 ⟨hb, hcase⟩
    clear rh
    have K12 := Lib.hid (K9.out.on hb)
    have RD13 := Lib.hid (rd_below RDW.out hb)
    clear RDW
    clear hb
    clear K9
    rcases hcase with ⟨hf2, -⟩ | ⟨-, v2, rfl, ho⟩
    · exact absurd HF.out hf2
    obtain ⟨ga, gc, hv2, -, -, -⟩ := own_rd ho
    subst hv2
    have RDG := Lib.hid (own_rd ho)
    clear ho
    have HTE := Lib.hid (told_eq 0 x11 (errAt_below HE.out K12.out.below (Nat.le_refl _)))
    rw [errV_0] at HTE
    go_wp2_with fail
    refine Calls.mono (HTE.out) ?_
    rintro e x14 ⟨rfl, hb⟩
    clear HTE
    have K15 := Lib.hid (K12.out.on hb)
    have RD16 := Lib.hid (rd_below RD13.out hb)
    have RD17 := Lib.hid (rd_below RDG.out hb)
    clear RD13
    clear RDG
    clear hb
    clear K12
    go_wp2_with fail
    refine Calls.mono (bytes_same (headB h) ga wa _ gc wc x14 RD17.out RD16.out rfl) ?_
    rintro e x18 ⟨rfl, hdr⟩
    have hb := hdr.below
    clear hdr
    have K19 := Lib.hid (K15.out.on hb)
    have RD20 := Lib.hid (rd_below RD16.out hb)
    have RD21 := Lib.hid (rd_below RD17.out hb)
    clear RD16
    clear RD17
    clear hb
    clear K15
    clear RD20
    clear RD21
    have rh : rowAt x18 H 0 68 = some (hdV h) := K19.out.row 2 _ 68 rfl (hdV_size _ OH.out)
    go_wp2_with fail
    refine Calls.mono (blockHash_any h OH.out x18 ((rowAt_below K19.out.below hgT 0 64).trans HT.out)) ?_
    rintro e x22 ⟨rfl, hb⟩
    clear rh
    have K23 := Lib.hid (K19.out.on hb)
    clear hb
    clear K19
    rw [HEE.out, HF.out]; rw [errV_0]
    obtain ⟨n1, n2, n3, n4⟩ := new_dg x22 E E32.out
    unfold zD at n1 n2
    go_upto_region 11 with fail
    clear n1 n2 n3 n4
    change Code.wp _ _ _ _ (x22.alloc (.cells (dgV E) 23))
    have K24 := Lib.hid (K23.out.alloc (dgV E) 23)
    obtain ⟨D, hA⟩ : ∃ D, x22.heap.size = D := ⟨_, rfl⟩
    have HGD : Hid (w.heap.size ≤ D) := Lib.hid (by rw [← hA]; exact K23.out.below.size)
    have HND : Hid (∀ b ∈ ([(Z, dgV E, 23), (B, blV hk (.slice ta ts.length tc), 29), (H, hdV h, 25)] : List BoxD), b.1 ≠ D) := Lib.hid (by rw [← hA]; exact fun b hb => Nat.ne_of_lt (kept_lt K23.out b hb))
    rw [hA] at K24 ⊢
    clear hA
    obtain ⟨x25, hw⟩ : ∃ x25, x22.alloc (.cells (dgV E) 23) = x25 := ⟨_, rfl⟩
    rw [hw] at K24  ⊢
    clear hw
    clear K23
    have HTE := Lib.hid (told_eq 0 x25 (errAt_below HE.out K24.out.below (Nat.le_refl _)))
    rw [errV_0] at HTE
    go_wp2_with fail
    refine Calls.mono (HTE.out) ?_
    rintro e x26 ⟨rfl, hb⟩
    clear HTE
    have K27 := Lib.hid (K24.out.on hb)
    clear hb
    clear K24
    go_wp2_with fail
    refine wp_region_quiet (C := Kept w [(D, dgV E, 23), (Z, dgV E, 23), (B, blV hk (.slice ta ts.length tc), 29), (H, hdV h, 25)]) (by kernel_rfl) (by kernel_rfl) K27.out.drew ?_
    refine wpQuiet_step (fun K hK => ?_)
    rw [if_pos (by rfl)]
    refine quiet_loadN 25 68 agg_head cells_head H 0 _ rfl (fun W h => h.row 3 _ 68 rfl (hdV_size _ OH.out)) (hK _ ?_)
    clear hK K
    quiet_step ((intro hC; refine Calls.mono (checkHead_any h OH.out _ ((rowAt_below hC.below hgT 0 64).trans HT.out)) ?_; rintro e w9 ⟨rfl, hb9⟩; exact ⟨rfl, hC.on hb9⟩))
    refine wpQuiet_step (fun K hK => ?_)
    rw [if_pos (by rfl)]
    refine quiet_loadN 25 68 agg_head cells_head H 0 _ rfl (fun W h => h.row 3 _ 68 rfl (hdV_size _ OH.out)) (hK _ ?_)
    clear hK K
    quiet_step ((intro hC; refine Calls.mono (headFault_any h OH.out _) ?_; rintro e w9 ⟨rfl, hb9⟩; exact ⟨rfl, hC.on hb9⟩))
    quiet_step ((intro hC; refine Calls.mono (told_eq (headF h) _ (errAt_below HE.out hC.below (Nat.le_refl _))) ?_; rintro e w9 ⟨rfl, hb9⟩; exact ⟨rfl, hC.on hb9⟩))
    repeat quiet_step ((intro _; with_reducible rfl))
    refine wpQuiet_nil ?_
    intro x28 hw
    have K29 := Lib.hid hw
    clear hw K27
    have r1 : rowAt x28 D 0 32 = some (dgV E) := K29.out.row 0 _ 32 rfl (by rw [dgV_size, E32.out])
    have r2 : rowAt x28 Z 0 32 = some (dgV E) := K29.out.row 1 _ 32 rfl (by rw [dgV_size, E32.out])
    have he1 := HE1.out
    go_wp2_with fail
    refine Calls.mono (headOf_any b n ao cap x28 (rd_below HB.out K29.out.below) HL.out hn) ?_
    rintro e x30 ⟨rfl, hb⟩
    clear r1 r2 he1
    have K31 := Lib.hid (K29.out.on hb)
    clear hb
    clear K29
    rw [HHD.out]
    cases hsome : (headM b).isSome
    · have HZE : Hid (zHd = hdV hd) := Lib.hid (by rw [← HHD.out, zHd_eq]; cases hq : headM b with | none => rfl | some y => rw [hq] at hsome; cases hsome)
      have HRV : Hid (readV b = .tuple #[.agg (hdV hd), errV 1]) := Lib.hid (by unfold readV; rw [HHD.out, hsome]; rfl)
      clear hsome
      obtain ⟨n1, n2, n3, n4⟩ := new_hd x30 hd OKD.out
      unfold zHd at n1 n2
      go_upto_region 17 with fail
      clear n1 n2 n3 n4
      change Code.wp _ _ _ _ (x30.alloc (.cells (hdV hd) 25))
      have K32 := Lib.hid (K31.out.alloc (hdV hd) 25)
      obtain ⟨X, hA⟩ : ∃ X, x30.heap.size = X := ⟨_, rfl⟩
      have HGX : Hid (w.heap.size ≤ X) := Lib.hid (by rw [← hA]; exact K31.out.below.size)
      have HNX : Hid (∀ b ∈ ([(D, dgV E, 23), (Z, dgV E, 23), (B, blV hk (.slice ta ts.length tc), 29), (H, hdV h, 25)] : List BoxD), b.1 ≠ X) := Lib.hid (by rw [← hA]; exact fun b hb => Nat.ne_of_lt (kept_lt K31.out b hb))
      rw [hA] at K32 ⊢
      clear hA
      obtain ⟨x33, hw⟩ : ∃ x33, x30.alloc (.cells (hdV hd) 25) = x33 := ⟨_, rfl⟩
      rw [hw] at K32  ⊢
      clear hw
      clear K31
      have s1 : (rowAt x33 X 0 68).isSome = true := by rw [K32.out.row 0 _ 68 rfl (hdV_size _ OKD.out)]; rfl
      have s2 : wrAt x33 X = true := wrAt_of_heap (K32.out.get 0 _ rfl)
      have s3 : plainCells (zHd) = true := rfl
      have s4 : (zHd).size = 68 := rfl
      have K34 := Lib.hid (kept_store K32.out (zHd) (by rw [s4]; exact hdV_size _ OKD.out) HGX.out HNX.out)
      go_upto_region 20 with fail
      clear s1 s2 s3 s4
      obtain ⟨x35, hw⟩ : ∃ x35, putAt x33 X 0 (zHd) = x35 := ⟨_, rfl⟩
      rw [hw] at K34 ⊢
      clear hw
      clear K32
      rw [HZE.out] at K34
      go_wp2_with fail
      refine Calls.mono (blockRead_any b n ao cap x35 (rd_below HB.out K34.out.below) HL.out hn) ?_
      rintro e x36 ⟨rfl, hb⟩
      have K37 := Lib.hid (K34.out.on hb)
      clear hb
      clear K34
      rw [HRV.out]
      obtain ⟨n1, n2, n3, n4⟩ := new_hd x36 hd OKD.out
      unfold zHd at n1 n2
      go_upto_region 21 with fail
      clear n1 n2 n3 n4
      change Code.wp _ _ _ _ (x36.alloc (.cells (hdV hd) 25))
      have K38 := Lib.hid (K37.out.alloc (hdV hd) 25)
      obtain ⟨Y, hA⟩ : ∃ Y, x36.heap.size = Y := ⟨_, rfl⟩
      have HGY : Hid (w.heap.size ≤ Y) := Lib.hid (by rw [← hA]; exact K37.out.below.size)
      have HNY : Hid (∀ b ∈ ([(X, hdV hd, 25), (D, dgV E, 23), (Z, dgV E, 23), (B, blV hk (.slice ta ts.length tc), 29), (H, hdV h, 25)] : List BoxD), b.1 ≠ Y) := Lib.hid (by rw [← hA]; exact fun b hb => Nat.ne_of_lt (kept_lt K37.out b hb))
      rw [hA] at K38 ⊢
      clear hA
      obtain ⟨x39, hw⟩ : ∃ x39, x36.alloc (.cells (hdV hd) 25) = x39 := ⟨_, rfl⟩
      rw [hw] at K38  ⊢
      clear hw
      clear K37
      have HTE := Lib.hid (told_eq 1 x39 (errAt_below HE.out K38.out.below (Nat.le_refl _)))
      go_wp2_with fail
      refine Calls.mono (HTE.out) ?_
      rintro e x40 ⟨rfl, hb⟩
      clear HTE
      have K41 := Lib.hid (K38.out.on hb)
      clear hb
      clear K38
      have r1 : rowAt x40 Y 0 68 = some (hdV hd) := K41.out.row 0 _ 68 rfl (hdV_size _ OKD.out)
      have r2 : rowAt x40 X 0 68 = some (hdV hd) := K41.out.row 1 _ 68 rfl (hdV_size _ OKD.out)
      have he2 := HE2.out
      go_upto_region 24 with fail
      clear r1 r2 he2
      have cB : x40.cell? ⟨B, 68, none⟩ = some (.slice ta ts.length tc) := K41.out.cell 4 68 _ _ rfl (blV_txs hk _ OK.out)
      go_wp2_with fail
      refine Calls.mono (ids_any ts ta tc x40 (txR_stays.slB HS.out K41.out.below (Nat.le_refl _))) ?_
      rintro e x42 ⟨hb, hcase⟩
      clear cB
      have K43 := Lib.hid (K41.out.on hb)
      clear hb
      clear K41
      rcases hcase with ⟨hi, rfl⟩ | ⟨hi, va, vcap, rfl, hr⟩
      · obtain ⟨I, hI⟩ : ∃ I, idsE ts = I := ⟨_, rfl⟩
        rw [hI] at hi ⊢
        have HI := Lib.hid hI
        have HNI := Lib.hid hi
        have q7 : (I == 0) = false := by simp; exact hi
        clear hI hi
        go_upto_region 26 with fail
        change Code.wp _ _ _ _ (x42.alloc (.cells (zD) 23))
        have K44 := Lib.hid (K43.out.alloc (zD) 23)
        obtain ⟨Q, hA⟩ : ∃ Q, x42.heap.size = Q := ⟨_, rfl⟩
        have HGQ : Hid (w.heap.size ≤ Q) := Lib.hid (by rw [← hA]; exact K43.out.below.size)
        have HNQ : Hid (∀ b ∈ ([(Y, hdV hd, 25), (X, hdV hd, 25), (D, dgV E, 23), (Z, dgV E, 23), (B, blV hk (.slice ta ts.length tc), 29), (H, hdV h, 25)] : List BoxD), b.1 ≠ Q) := Lib.hid (by rw [← hA]; exact fun b hb => Nat.ne_of_lt (kept_lt K43.out b hb))
        rw [hA] at K44 ⊢
        clear hA
        obtain ⟨x45, hw⟩ : ∃ x45, x42.alloc (.cells (zD) 23) = x45 := ⟨_, rfl⟩
        rw [hw] at K44  ⊢
        clear hw
        clear K43
        go_upto_region 28 with fail
        rw [show zD = dgV RE from by rw [← HRE.out]; unfold rootE; rw [if_neg (by rw [HI.out]; exact HNI.out), zD_eq]] at K44
        have cB : x45.cell? ⟨B, 68, none⟩ = some (.slice ta ts.length tc) := K44.out.cell 5 68 _ _ rfl (blV_txs hk _ OK.out)
        go_wp2_with fail
        refine Calls.mono (blockRoot_any ts ta tc x45 (txR_stays.slB HS.out K44.out.below (Nat.le_refl _)) ((rowAt_below K44.out.below hgT 0 64).trans HT.out)) ?_
        rintro e x46 ⟨rfl, hb⟩
        clear cB
        have K47 := Lib.hid (K44.out.on hb)
        clear hb
        clear K44
        rw [HRE.out, HI.out]
        obtain ⟨n1, n2, n3, n4⟩ := new_dg x46 RE R32.out
        unfold zD at n1 n2
        go_upto_region 29 with fail
        clear n1 n2 n3 n4
        change Code.wp _ _ _ _ (x46.alloc (.cells (dgV RE) 23))
        have K48 := Lib.hid (K47.out.alloc (dgV RE) 23)
        obtain ⟨T, hA⟩ : ∃ T, x46.heap.size = T := ⟨_, rfl⟩
        have HGT : Hid (w.heap.size ≤ T) := Lib.hid (by rw [← hA]; exact K47.out.below.size)
        have HNT : Hid (∀ b ∈ ([(Q, dgV RE, 23), (Y, hdV hd, 25), (X, hdV hd, 25), (D, dgV E, 23), (Z, dgV E, 23), (B, blV hk (.slice ta ts.length tc), 29), (H, hdV h, 25)] : List BoxD), b.1 ≠ T) := Lib.hid (by rw [← hA]; exact fun b hb => Nat.ne_of_lt (kept_lt K47.out b hb))
        rw [hA] at K48 ⊢
        clear hA
        obtain ⟨x49, hw⟩ : ∃ x49, x46.alloc (.cells (dgV RE) 23) = x49 := ⟨_, rfl⟩
        rw [hw] at K48  ⊢
        clear hw
        clear K47
        have HTE := Lib.hid (told_eq I x49 (errAt_below HE.out K48.out.below (Nat.le_refl _)))
        go_wp2_with fail
        refine Calls.mono (HTE.out) ?_
        rintro e x50 ⟨rfl, hb⟩
        clear HTE
        have K51 := Lib.hid (K48.out.on hb)
        clear hb
        clear K48
        go_wp2_with fail
        refine wp_region_quiet (C := Kept w [(T, dgV RE, 23), (Q, dgV RE, 23), (Y, hdV hd, 25), (X, hdV hd, 25), (D, dgV E, 23), (Z, dgV E, 23), (B, blV hk (.slice ta ts.length tc), 29), (H, hdV h, 25)]) (by kernel_rfl) (by kernel_rfl) K51.out.drew ?_
        refine wpQuiet_step (fun K hK => ?_)
        rw [if_pos (by rfl)]
        refine quiet_loadN 29 69 agg_block cells_block B 0 _ rfl (fun W h => h.row 6 _ 69 rfl (HZ69.out)) (hK _ ?_)
        clear hK K
        quiet_step ((intro hC; refine Calls.mono (blockCheck_any hk OK.out ts ta tc _ (txR_stays.slB HS.out hC.below (Nat.le_refl _)) ((rowAt_below hC.below hgT 0 64).trans HT.out)) ?_; rintro e w9 ⟨rfl, hb9⟩; exact ⟨rfl, hC.on hb9⟩))
        refine wpQuiet_step (fun K hK => ?_)
        rw [if_pos (by rfl)]
        refine quiet_loadN 29 69 agg_block cells_block B 0 _ rfl (fun W h => h.row 6 _ 69 rfl (HZ69.out)) (hK _ ?_)
        clear hK K
        quiet_step ((intro hC; refine Calls.mono (blockFault_any hk OK.out ts ta tc _ (txR_stays.slB HS.out hC.below (Nat.le_refl _)) ((rowAt_below hC.below hgT 0 64).trans HT.out)) ?_; rintro e w9 ⟨rfl, hb9⟩; exact ⟨rfl, hC.on hb9⟩))
        quiet_step ((intro hC; refine Calls.mono (told_eq (blockF hk ts) _ (errAt_below HE.out hC.below (Nat.le_refl _))) ?_; rintro e w9 ⟨rfl, hb9⟩; exact ⟨rfl, hC.on hb9⟩))
        repeat quiet_step ((intro _; with_reducible rfl))
        refine wpQuiet_nil ?_
        intro x52 hw
        have K53 := Lib.hid hw
        clear hw K51
        have r1 : rowAt x52 T 0 32 = some (dgV RE) := K53.out.row 0 _ 32 rfl (by rw [dgV_size, R32.out])
        have r2 : rowAt x52 Q 0 32 = some (dgV RE) := K53.out.row 1 _ 32 rfl (by rw [dgV_size, R32.out])
        have he3 := HE3.out
        go_wp2
        go_ret
        exact ⟨rfl, K53.out.below⟩
      · have RDI := Lib.hid hr
        clear hr
        have HI := Lib.hid hi
        clear hi
        go_upto_region 26 with fail
        change Code.wp _ _ _ _ (x42.alloc (.cells (zD) 23))
        have K54 := Lib.hid (K43.out.alloc (zD) 23)
        have RD56 := Lib.hid (rd_below RDI.out ((Below.refl _ _).alloc (Nat.le_refl _) (.cells (zD) 23)))
        obtain ⟨Q, hA⟩ : ∃ Q, x42.heap.size = Q := ⟨_, rfl⟩
        have HGQ : Hid (w.heap.size ≤ Q) := Lib.hid (by rw [← hA]; exact K43.out.below.size)
        have HNQ : Hid (∀ b ∈ ([(Y, hdV hd, 25), (X, hdV hd, 25), (D, dgV E, 23), (Z, dgV E, 23), (B, blV hk (.slice ta ts.length tc), 29), (H, hdV h, 25)] : List BoxD), b.1 ≠ Q) := Lib.hid (by rw [← hA]; exact fun b hb => Nat.ne_of_lt (kept_lt K43.out b hb))
        rw [hA] at K54 ⊢
        clear hA
        obtain ⟨x55, hw⟩ : ∃ x55, x42.alloc (.cells (zD) 23) = x55 := ⟨_, rfl⟩
        rw [hw] at K54 RD56 ⊢
        clear hw
        clear RDI
        clear K43
        go_wp2_with fail
        refine Calls.mono (rroot_any ts.length (idsL ts) (idsL_32 ts) _ ts.length x55 (Nat.le_refl _) RD56.out (by simp [idsL]) (by have := HI.out; unfold idsE at this; split at this <;> first | omega | (cases this)) ((rowAt_below K54.out.below hgT 0 64).trans HT.out)) ?_
        rintro e x57 ⟨rfl, hb⟩
        have K58 := Lib.hid (K54.out.on hb)
        have RD59 := Lib.hid (rd_below RD56.out hb)
        clear RD56
        clear hb
        clear K54
        clear RD59
        rw [show rootM (idsL ts) = RE from by rw [← HRE.out]; unfold rootE; rw [if_pos HI.out]]
        have s1 : (rowAt x57 Q 0 32).isSome = true := by rw [K58.out.row 0 _ 32 rfl (rfl)]; rfl
        have s2 : wrAt x57 Q = true := wrAt_of_heap (K58.out.get 0 _ rfl)
        have s3 : plainCells (dgV RE) = true := dgV_plain _
        have s4 : (dgV RE).size = 32 := by rw [dgV_size, R32.out]
        have K60 := Lib.hid (kept_store K58.out (dgV RE) (by rw [s4]; exact rfl) HGQ.out HNQ.out)
        go_upto_region 28 with fail
        clear s1 s2 s3 s4
        obtain ⟨x61, hw⟩ : ∃ x61, putAt x57 Q 0 (dgV RE) = x61 := ⟨_, rfl⟩
        rw [hw] at K60 ⊢
        clear hw
        clear K58
        have cB : x61.cell? ⟨B, 68, none⟩ = some (.slice ta ts.length tc) := K60.out.cell 5 68 _ _ rfl (blV_txs hk _ OK.out)
        go_wp2_with fail
        refine Calls.mono (blockRoot_any ts ta tc x61 (txR_stays.slB HS.out K60.out.below (Nat.le_refl _)) ((rowAt_below K60.out.below hgT 0 64).trans HT.out)) ?_
        rintro e x62 ⟨rfl, hb⟩
        clear cB
        have K63 := Lib.hid (K60.out.on hb)
        clear hb
        clear K60
        rw [HRE.out, HI.out]; rw [errV_0]
        obtain ⟨n1, n2, n3, n4⟩ := new_dg x62 RE R32.out
        unfold zD at n1 n2
        go_upto_region 29 with fail
        clear n1 n2 n3 n4
        change Code.wp _ _ _ _ (x62.alloc (.cells (dgV RE) 23))
        have K64 := Lib.hid (K63.out.alloc (dgV RE) 23)
        obtain ⟨T, hA⟩ : ∃ T, x62.heap.size = T := ⟨_, rfl⟩
        have HGT : Hid (w.heap.size ≤ T) := Lib.hid (by rw [← hA]; exact K63.out.below.size)
        have HNT : Hid (∀ b ∈ ([(Q, dgV RE, 23), (Y, hdV hd, 25), (X, hdV hd, 25), (D, dgV E, 23), (Z, dgV E, 23), (B, blV hk (.slice ta ts.length tc), 29), (H, hdV h, 25)] : List BoxD), b.1 ≠ T) := Lib.hid (by rw [← hA]; exact fun b hb => Nat.ne_of_lt (kept_lt K63.out b hb))
        rw [hA] at K64 ⊢
        clear hA
        obtain ⟨x65, hw⟩ : ∃ x65, x62.alloc (.cells (dgV RE) 23) = x65 := ⟨_, rfl⟩
        rw [hw] at K64  ⊢
        clear hw
        clear K63
        have HTE := Lib.hid (told_eq 0 x65 (errAt_below HE.out K64.out.below (Nat.le_refl _)))
        rw [errV_0] at HTE
        go_wp2_with fail
        refine Calls.mono (HTE.out) ?_
        rintro e x66 ⟨rfl, hb⟩
        clear HTE
        have K67 := Lib.hid (K64.out.on hb)
        clear hb
        clear K64
        go_wp2_with fail
        refine wp_region_quiet (C := Kept w [(T, dgV RE, 23), (Q, dgV RE, 23), (Y, hdV hd, 25), (X, hdV hd, 25), (D, dgV E, 23), (Z, dgV E, 23), (B, blV hk (.slice ta ts.length tc), 29), (H, hdV h, 25)]) (by kernel_rfl) (by kernel_rfl) K67.out.drew ?_
        refine wpQuiet_step (fun K hK => ?_)
        rw [if_pos (by rfl)]
        refine quiet_loadN 29 69 agg_block cells_block B 0 _ rfl (fun W h => h.row 6 _ 69 rfl (HZ69.out)) (hK _ ?_)
        clear hK K
        quiet_step ((intro hC; refine Calls.mono (blockCheck_any hk OK.out ts ta tc _ (txR_stays.slB HS.out hC.below (Nat.le_refl _)) ((rowAt_below hC.below hgT 0 64).trans HT.out)) ?_; rintro e w9 ⟨rfl, hb9⟩; exact ⟨rfl, hC.on hb9⟩))
        refine wpQuiet_step (fun K hK => ?_)
        rw [if_pos (by rfl)]
        refine quiet_loadN 29 69 agg_block cells_block B 0 _ rfl (fun W h => h.row 6 _ 69 rfl (HZ69.out)) (hK _ ?_)
        clear hK K
        quiet_step ((intro hC; refine Calls.mono (blockFault_any hk OK.out ts ta tc _ (txR_stays.slB HS.out hC.below (Nat.le_refl _)) ((rowAt_below hC.below hgT 0 64).trans HT.out)) ?_; rintro e w9 ⟨rfl, hb9⟩; exact ⟨rfl, hC.on hb9⟩))
        quiet_step ((intro hC; refine Calls.mono (told_eq (blockF hk ts) _ (errAt_below HE.out hC.below (Nat.le_refl _))) ?_; rintro e w9 ⟨rfl, hb9⟩; exact ⟨rfl, hC.on hb9⟩))
        repeat quiet_step ((intro _; with_reducible rfl))
        refine wpQuiet_nil ?_
        intro x68 hw
        have K69 := Lib.hid hw
        clear hw K67
        have r1 : rowAt x68 T 0 32 = some (dgV RE) := K69.out.row 0 _ 32 rfl (by rw [dgV_size, R32.out])
        have r2 : rowAt x68 Q 0 32 = some (dgV RE) := K69.out.row 1 _ 32 rfl (by rw [dgV_size, R32.out])
        have he3 := HE3.out
        go_wp2
        go_ret
        exact ⟨rfl, K69.out.below⟩
    · have HRV : Hid (readV b = .tuple #[.agg (hdV hd), .nilIface]) := Lib.hid (by unfold readV; rw [HHD.out, hsome]; rfl)
      clear hsome
      obtain ⟨n1, n2, n3, n4⟩ := new_hd x30 hd OKD.out
      unfold zHd at n1 n2
      go_upto_region 17 with fail
      clear n1 n2 n3 n4
      change Code.wp _ _ _ _ (x30.alloc (.cells (hdV hd) 25))
      have K70 := Lib.hid (K31.out.alloc (hdV hd) 25)
      obtain ⟨X, hA⟩ : ∃ X, x30.heap.size = X := ⟨_, rfl⟩
      have HGX : Hid (w.heap.size ≤ X) := Lib.hid (by rw [← hA]; exact K31.out.below.size)
      have HNX : Hid (∀ b ∈ ([(D, dgV E, 23), (Z, dgV E, 23), (B, blV hk (.slice ta ts.length tc), 29), (H, hdV h, 25)] : List BoxD), b.1 ≠ X) := Lib.hid (by rw [← hA]; exact fun b hb => Nat.ne_of_lt (kept_lt K31.out b hb))
      rw [hA] at K70 ⊢
      clear hA
      obtain ⟨x71, hw⟩ : ∃ x71, x30.alloc (.cells (hdV hd) 25) = x71 := ⟨_, rfl⟩
      rw [hw] at K70  ⊢
      clear hw
      clear K31
      go_wp2_with fail
      refine Calls.mono (blockRead_any b n ao cap x71 (rd_below HB.out K70.out.below) HL.out hn) ?_
      rintro e x72 ⟨rfl, hb⟩
      have K73 := Lib.hid (K70.out.on hb)
      clear hb
      clear K70
      rw [HRV.out]
      obtain ⟨n1, n2, n3, n4⟩ := new_hd x72 hd OKD.out
      unfold zHd at n1 n2
      go_upto_region 21 with fail
      clear n1 n2 n3 n4
      change Code.wp _ _ _ _ (x72.alloc (.cells (hdV hd) 25))
      have K74 := Lib.hid (K73.out.alloc (hdV hd) 25)
      obtain ⟨Y, hA⟩ : ∃ Y, x72.heap.size = Y := ⟨_, rfl⟩
      have HGY : Hid (w.heap.size ≤ Y) := Lib.hid (by rw [← hA]; exact K73.out.below.size)
      have HNY : Hid (∀ b ∈ ([(X, hdV hd, 25), (D, dgV E, 23), (Z, dgV E, 23), (B, blV hk (.slice ta ts.length tc), 29), (H, hdV h, 25)] : List BoxD), b.1 ≠ Y) := Lib.hid (by rw [← hA]; exact fun b hb => Nat.ne_of_lt (kept_lt K73.out b hb))
      rw [hA] at K74 ⊢
      clear hA
      obtain ⟨x75, hw⟩ : ∃ x75, x72.alloc (.cells (hdV hd) 25) = x75 := ⟨_, rfl⟩
      rw [hw] at K74  ⊢
      clear hw
      clear K73
      have HTE := Lib.hid (told_eq 0 x75 (errAt_below HE.out K74.out.below (Nat.le_refl _)))
      rw [errV_0] at HTE
      go_wp2_with fail
      refine Calls.mono (HTE.out) ?_
      rintro e x76 ⟨rfl, hb⟩
      clear HTE
      have K77 := Lib.hid (K74.out.on hb)
      clear hb
      clear K74
      have r1 : rowAt x76 Y 0 68 = some (hdV hd) := K77.out.row 0 _ 68 rfl (hdV_size _ OKD.out)
      have r2 : rowAt x76 X 0 68 = some (hdV hd) := K77.out.row 1 _ 68 rfl (hdV_size _ OKD.out)
      have he2 := HE2.out
      go_upto_region 24 with fail
      clear r1 r2 he2
      have cB : x76.cell? ⟨B, 68, none⟩ = some (.slice ta ts.length tc) := K77.out.cell 4 68 _ _ rfl (blV_txs hk _ OK.out)
      go_wp2_with fail
      refine Calls.mono (ids_any ts ta tc x76 (txR_stays.slB HS.out K77.out.below (Nat.le_refl _))) ?_
      rintro e x78 ⟨hb, hcase⟩
      clear cB
      have K79 := Lib.hid (K77.out.on hb)
      clear hb
      clear K77
      rcases hcase with ⟨hi, rfl⟩ | ⟨hi, va, vcap, rfl, hr⟩
      · obtain ⟨I, hI⟩ : ∃ I, idsE ts = I := ⟨_, rfl⟩
        rw [hI] at hi ⊢
        have HI := Lib.hid hI
        have HNI := Lib.hid hi
        have q7 : (I == 0) = false := by simp; exact hi
        clear hI hi
        go_upto_region 26 with fail
        change Code.wp _ _ _ _ (x78.alloc (.cells (zD) 23))
        have K80 := Lib.hid (K79.out.alloc (zD) 23)
        obtain ⟨Q, hA⟩ : ∃ Q, x78.heap.size = Q := ⟨_, rfl⟩
        have HGQ : Hid (w.heap.size ≤ Q) := Lib.hid (by rw [← hA]; exact K79.out.below.size)
        have HNQ : Hid (∀ b ∈ ([(Y, hdV hd, 25), (X, hdV hd, 25), (D, dgV E, 23), (Z, dgV E, 23), (B, blV hk (.slice ta ts.length tc), 29), (H, hdV h, 25)] : List BoxD), b.1 ≠ Q) := Lib.hid (by rw [← hA]; exact fun b hb => Nat.ne_of_lt (kept_lt K79.out b hb))
        rw [hA] at K80 ⊢
        clear hA
        obtain ⟨x81, hw⟩ : ∃ x81, x78.alloc (.cells (zD) 23) = x81 := ⟨_, rfl⟩
        rw [hw] at K80  ⊢
        clear hw
        clear K79
        go_upto_region 28 with fail
        rw [show zD = dgV RE from by rw [← HRE.out]; unfold rootE; rw [if_neg (by rw [HI.out]; exact HNI.out), zD_eq]] at K80
        have cB : x81.cell? ⟨B, 68, none⟩ = some (.slice ta ts.length tc) := K80.out.cell 5 68 _ _ rfl (blV_txs hk _ OK.out)
        go_wp2_with fail
        refine Calls.mono (blockRoot_any ts ta tc x81 (txR_stays.slB HS.out K80.out.below (Nat.le_refl _)) ((rowAt_below K80.out.below hgT 0 64).trans HT.out)) ?_
        rintro e x82 ⟨rfl, hb⟩
        clear cB
        have K83 := Lib.hid (K80.out.on hb)
        clear hb
        clear K80
        rw [HRE.out, HI.out]
        obtain ⟨n1, n2, n3, n4⟩ := new_dg x82 RE R32.out
        unfold zD at n1 n2
        go_upto_region 29 with fail
        clear n1 n2 n3 n4
        change Code.wp _ _ _ _ (x82.alloc (.cells (dgV RE) 23))
        have K84 := Lib.hid (K83.out.alloc (dgV RE) 23)
        obtain ⟨T, hA⟩ : ∃ T, x82.heap.size = T := ⟨_, rfl⟩
        have HGT : Hid (w.heap.size ≤ T) := Lib.hid (by rw [← hA]; exact K83.out.below.size)
        have HNT : Hid (∀ b ∈ ([(Q, dgV RE, 23), (Y, hdV hd, 25), (X, hdV hd, 25), (D, dgV E, 23), (Z, dgV E, 23), (B, blV hk (.slice ta ts.length tc), 29), (H, hdV h, 25)] : List BoxD), b.1 ≠ T) := Lib.hid (by rw [← hA]; exact fun b hb => Nat.ne_of_lt (kept_lt K83.out b hb))
        rw [hA] at K84 ⊢
        clear hA
        obtain ⟨x85, hw⟩ : ∃ x85, x82.alloc (.cells (dgV RE) 23) = x85 := ⟨_, rfl⟩
        rw [hw] at K84  ⊢
        clear hw
        clear K83
        have HTE := Lib.hid (told_eq I x85 (errAt_below HE.out K84.out.below (Nat.le_refl _)))
        go_wp2_with fail
        refine Calls.mono (HTE.out) ?_
        rintro e x86 ⟨rfl, hb⟩
        clear HTE
        have K87 := Lib.hid (K84.out.on hb)
        clear hb
        clear K84
        go_wp2_with fail
        refine wp_region_quiet (C := Kept w [(T, dgV RE, 23), (Q, dgV RE, 23), (Y, hdV hd, 25), (X, hdV hd, 25), (D, dgV E, 23), (Z, dgV E, 23), (B, blV hk (.slice ta ts.length tc), 29), (H, hdV h, 25)]) (by kernel_rfl) (by kernel_rfl) K87.out.drew ?_
        refine wpQuiet_step (fun K hK => ?_)
        rw [if_pos (by rfl)]
        refine quiet_loadN 29 69 agg_block cells_block B 0 _ rfl (fun W h => h.row 6 _ 69 rfl (HZ69.out)) (hK _ ?_)
        clear hK K
        quiet_step ((intro hC; refine Calls.mono (blockCheck_any hk OK.out ts ta tc _ (txR_stays.slB HS.out hC.below (Nat.le_refl _)) ((rowAt_below hC.below hgT 0 64).trans HT.out)) ?_; rintro e w9 ⟨rfl, hb9⟩; exact ⟨rfl, hC.on hb9⟩))
        refine wpQuiet_step (fun K hK => ?_)
        rw [if_pos (by rfl)]
        refine quiet_loadN 29 69 agg_block cells_block B 0 _ rfl (fun W h => h.row 6 _ 69 rfl (HZ69.out)) (hK _ ?_)
        clear hK K
        quiet_step ((intro hC; refine Calls.mono (blockFault_any hk OK.out ts ta tc _ (txR_stays.slB HS.out hC.below (Nat.le_refl _)) ((rowAt_below hC.below hgT 0 64).trans HT.out)) ?_; rintro e w9 ⟨rfl, hb9⟩; exact ⟨rfl, hC.on hb9⟩))
        quiet_step ((intro hC; refine Calls.mono (told_eq (blockF hk ts) _ (errAt_below HE.out hC.below (Nat.le_refl _))) ?_; rintro e w9 ⟨rfl, hb9⟩; exact ⟨rfl, hC.on hb9⟩))
        repeat quiet_step ((intro _; with_reducible rfl))
        refine wpQuiet_nil ?_
        intro x88 hw
        have K89 := Lib.hid hw
        clear hw K87
        have r1 : rowAt x88 T 0 32 = some (dgV RE) := K89.out.row 0 _ 32 rfl (by rw [dgV_size, R32.out])
        have r2 : rowAt x88 Q 0 32 = some (dgV RE) := K89.out.row 1 _ 32 rfl (by rw [dgV_size, R32.out])
        have he3 := HE3.out
        go_wp2
        go_ret
        exact ⟨rfl, K89.out.below⟩
      · have RDI := Lib.hid hr
        clear hr
        have HI := Lib.hid hi
        clear hi
        go_upto_region 26 with fail
        change Code.wp _ _ _ _ (x78.alloc (.cells (zD) 23))
        have K90 := Lib.hid (K79.out.alloc (zD) 23)
        have RD92 := Lib.hid (rd_below RDI.out ((Below.refl _ _).alloc (Nat.le_refl _) (.cells (zD) 23)))
        obtain ⟨Q, hA⟩ : ∃ Q, x78.heap.size = Q := ⟨_, rfl⟩
        have HGQ : Hid (w.heap.size ≤ Q) := Lib.hid (by rw [← hA]; exact K79.out.below.size)
        have HNQ : Hid (∀ b ∈ ([(Y, hdV hd, 25), (X, hdV hd, 25), (D, dgV E, 23), (Z, dgV E, 23), (B, blV hk (.slice ta ts.length tc), 29), (H, hdV h, 25)] : List BoxD), b.1 ≠ Q) := Lib.hid (by rw [← hA]; exact fun b hb => Nat.ne_of_lt (kept_lt K79.out b hb))
        rw [hA] at K90 ⊢
        clear hA
        obtain ⟨x91, hw⟩ : ∃ x91, x78.alloc (.cells (zD) 23) = x91 := ⟨_, rfl⟩
        rw [hw] at K90 RD92 ⊢
        clear hw
        clear RDI
        clear K79
        go_wp2_with fail
        refine Calls.mono (rroot_any ts.length (idsL ts) (idsL_32 ts) _ ts.length x91 (Nat.le_refl _) RD92.out (by simp [idsL]) (by have := HI.out; unfold idsE at this; split at this <;> first | omega | (cases this)) ((rowAt_below K90.out.below hgT 0 64).trans HT.out)) ?_
        rintro e x93 ⟨rfl, hb⟩
        have K94 := Lib.hid (K90.out.on hb)
        have RD95 := Lib.hid (rd_below RD92.out hb)
        clear RD92
        clear hb
        clear K90
        clear RD95
        rw [show rootM (idsL ts) = RE from by rw [← HRE.out]; unfold rootE; rw [if_pos HI.out]]
        have s1 : (rowAt x93 Q 0 32).isSome = true := by rw [K94.out.row 0 _ 32 rfl (rfl)]; rfl
        have s2 : wrAt x93 Q = true := wrAt_of_heap (K94.out.get 0 _ rfl)
        have s3 : plainCells (dgV RE) = true := dgV_plain _
        have s4 : (dgV RE).size = 32 := by rw [dgV_size, R32.out]
        have K96 := Lib.hid (kept_store K94.out (dgV RE) (by rw [s4]; exact rfl) HGQ.out HNQ.out)
        go_upto_region 28 with fail
        clear s1 s2 s3 s4
        obtain ⟨x97, hw⟩ : ∃ x97, putAt x93 Q 0 (dgV RE) = x97 := ⟨_, rfl⟩
        rw [hw] at K96 ⊢
        clear hw
        clear K94
        have cB : x97.cell? ⟨B, 68, none⟩ = some (.slice ta ts.length tc) := K96.out.cell 5 68 _ _ rfl (blV_txs hk _ OK.out)
        go_wp2_with fail
        refine Calls.mono (blockRoot_any ts ta tc x97 (txR_stays.slB HS.out K96.out.below (Nat.le_refl _)) ((rowAt_below K96.out.below hgT 0 64).trans HT.out)) ?_
        rintro e x98 ⟨rfl, hb⟩
        clear cB
        have K99 := Lib.hid (K96.out.on hb)
        clear hb
        clear K96
        rw [HRE.out, HI.out]; rw [errV_0]
        obtain ⟨n1, n2, n3, n4⟩ := new_dg x98 RE R32.out
        unfold zD at n1 n2
        go_upto_region 29 with fail
        clear n1 n2 n3 n4
        change Code.wp _ _ _ _ (x98.alloc (.cells (dgV RE) 23))
        have K100 := Lib.hid (K99.out.alloc (dgV RE) 23)
        obtain ⟨T, hA⟩ : ∃ T, x98.heap.size = T := ⟨_, rfl⟩
        have HGT : Hid (w.heap.size ≤ T) := Lib.hid (by rw [← hA]; exact K99.out.below.size)
        have HNT : Hid (∀ b ∈ ([(Q, dgV RE, 23), (Y, hdV hd, 25), (X, hdV hd, 25), (D, dgV E, 23), (Z, dgV E, 23), (B, blV hk (.slice ta ts.length tc), 29), (H, hdV h, 25)] : List BoxD), b.1 ≠ T) := Lib.hid (by rw [← hA]; exact fun b hb => Nat.ne_of_lt (kept_lt K99.out b hb))
        rw [hA] at K100 ⊢
        clear hA
        obtain ⟨x101, hw⟩ : ∃ x101, x98.alloc (.cells (dgV RE) 23) = x101 := ⟨_, rfl⟩
        rw [hw] at K100  ⊢
        clear hw
        clear K99
        have HTE := Lib.hid (told_eq 0 x101 (errAt_below HE.out K100.out.below (Nat.le_refl _)))
        rw [errV_0] at HTE
        go_wp2_with fail
        refine Calls.mono (HTE.out) ?_
        rintro e x102 ⟨rfl, hb⟩
        clear HTE
        have K103 := Lib.hid (K100.out.on hb)
        clear hb
        clear K100
        go_wp2_with fail
        refine wp_region_quiet (C := Kept w [(T, dgV RE, 23), (Q, dgV RE, 23), (Y, hdV hd, 25), (X, hdV hd, 25), (D, dgV E, 23), (Z, dgV E, 23), (B, blV hk (.slice ta ts.length tc), 29), (H, hdV h, 25)]) (by kernel_rfl) (by kernel_rfl) K103.out.drew ?_
        refine wpQuiet_step (fun K hK => ?_)
        rw [if_pos (by rfl)]
        refine quiet_loadN 29 69 agg_block cells_block B 0 _ rfl (fun W h => h.row 6 _ 69 rfl (HZ69.out)) (hK _ ?_)
        clear hK K
        quiet_step ((intro hC; refine Calls.mono (blockCheck_any hk OK.out ts ta tc _ (txR_stays.slB HS.out hC.below (Nat.le_refl _)) ((rowAt_below hC.below hgT 0 64).trans HT.out)) ?_; rintro e w9 ⟨rfl, hb9⟩; exact ⟨rfl, hC.on hb9⟩))
        refine wpQuiet_step (fun K hK => ?_)
        rw [if_pos (by rfl)]
        refine quiet_loadN 29 69 agg_block cells_block B 0 _ rfl (fun W h => h.row 6 _ 69 rfl (HZ69.out)) (hK _ ?_)
        clear hK K
        quiet_step ((intro hC; refine Calls.mono (blockFault_any hk OK.out ts ta tc _ (txR_stays.slB HS.out hC.below (Nat.le_refl _)) ((rowAt_below hC.below hgT 0 64).trans HT.out)) ?_; rintro e w9 ⟨rfl, hb9⟩; exact ⟨rfl, hC.on hb9⟩))
        quiet_step ((intro hC; refine Calls.mono (told_eq (blockF hk ts) _ (errAt_below HE.out hC.below (Nat.le_refl _))) ?_; rintro e w9 ⟨rfl, hb9⟩; exact ⟨rfl, hC.on hb9⟩))
        repeat quiet_step ((intro _; with_reducible rfl))
        refine wpQuiet_nil ?_
        intro x104 hw
        have K105 := Lib.hid hw
        clear hw K103
        have r1 : rowAt x104 T 0 32 = some (dgV RE) := K105.out.row 0 _ 32 rfl (by rw [dgV_size, R32.out])
        have r2 : rowAt x104 Q 0 32 = some (dgV RE) := K105.out.row 1 _ 32 rfl (by rw [dgV_size, R32.out])
        have he3 := HE3.out
        go_wp2
        go_ret
        exact ⟨rfl, K105.out.below⟩
  · have HNF := Lib.hid hF0
    have q7 : (F == 0) = false := by simp; exact hF0
    clear hF0
    go_upto_region 7 with fail
    clear q7
    rw [show zD = dgV E from by rw [← HEE.out]; unfold hashE; rw [if_neg (by rw [HF.out]; exact HNF.out), zD_eq]] at K3
    have rh : rowAt x4 H 0 68 = some (hdV h) := K3.out.row 2 _ 68 rfl (hdV_size _ OH.out)
    go_wp2_with fail
    refine Calls.mono (blockBytes_any h OH.out x4) ?_
    rintro e x106 ⟨hb, hcase⟩
    clear rh
    have K107 := Lib.hid (K3.out.on hb)
    clear hb
    clear K3
    rcases hcase with ⟨-, rfl⟩ | ⟨hf2, -⟩
    rotate_left
    · exact absurd (HF.out.symm.trans hf2) HNF.out
    rw [HF.out]
    have HTE := Lib.hid (told_eq F x106 (errAt_below HE.out K107.out.below (Nat.le_refl _)))
    go_wp2_with fail
    refine Calls.mono (HTE.out) ?_
    rintro e x108 ⟨rfl, hb⟩
    clear HTE
    have K109 := Lib.hid (K107.out.on hb)
    clear hb
    clear K107
    go_wp2_with fail
    refine Calls.mono (bytes_same [] none none 0 0 0 x108 (rd_nil _) (rd_nil _) rfl) ?_
    rintro e x110 ⟨rfl, hdr⟩
    have hb := hdr.below
    clear hdr
    have K111 := Lib.hid (K109.out.on hb)
    clear hb
    clear K109
    have rh : rowAt x110 H 0 68 = some (hdV h) := K111.out.row 2 _ 68 rfl (hdV_size _ OH.out)
    go_wp2_with fail
    refine Calls.mono (blockHash_any h OH.out x110 ((rowAt_below K111.out.below hgT 0 64).trans HT.out)) ?_
    rintro e x112 ⟨rfl, hb⟩
    clear rh
    have K113 := Lib.hid (K111.out.on hb)
    clear hb
    clear K111
    rw [HEE.out, HF.out]
    obtain ⟨n1, n2, n3, n4⟩ := new_dg x112 E E32.out
    unfold zD at n1 n2
    go_upto_region 11 with fail
    clear n1 n2 n3 n4
    change Code.wp _ _ _ _ (x112.alloc (.cells (dgV E) 23))
    have K114 := Lib.hid (K113.out.alloc (dgV E) 23)
    obtain ⟨D, hA⟩ : ∃ D, x112.heap.size = D := ⟨_, rfl⟩
    have HGD : Hid (w.heap.size ≤ D) := Lib.hid (by rw [← hA]; exact K113.out.below.size)
    have HND : Hid (∀ b ∈ ([(Z, dgV E, 23), (B, blV hk (.slice ta ts.length tc), 29), (H, hdV h, 25)] : List BoxD), b.1 ≠ D) := Lib.hid (by rw [← hA]; exact fun b hb => Nat.ne_of_lt (kept_lt K113.out b hb))
    rw [hA] at K114 ⊢
    clear hA
    obtain ⟨x115, hw⟩ : ∃ x115, x112.alloc (.cells (dgV E) 23) = x115 := ⟨_, rfl⟩
    rw [hw] at K114  ⊢
    clear hw
    clear K113
    have HTE := Lib.hid (told_eq F x115 (errAt_below HE.out K114.out.below (Nat.le_refl _)))
    go_wp2_with fail
    refine Calls.mono (HTE.out) ?_
    rintro e x116 ⟨rfl, hb⟩
    clear HTE
    have K117 := Lib.hid (K114.out.on hb)
    clear hb
    clear K114
    go_wp2_with fail
    refine wp_region_quiet (C := Kept w [(D, dgV E, 23), (Z, dgV E, 23), (B, blV hk (.slice ta ts.length tc), 29), (H, hdV h, 25)]) (by kernel_rfl) (by kernel_rfl) K117.out.drew ?_
    refine wpQuiet_step (fun K hK => ?_)
    rw [if_pos (by rfl)]
    refine quiet_loadN 25 68 agg_head cells_head H 0 _ rfl (fun W h => h.row 3 _ 68 rfl (hdV_size _ OH.out)) (hK _ ?_)
    clear hK K
    quiet_step ((intro hC; refine Calls.mono (checkHead_any h OH.out _ ((rowAt_below hC.below hgT 0 64).trans HT.out)) ?_; rintro e w9 ⟨rfl, hb9⟩; exact ⟨rfl, hC.on hb9⟩))
    refine wpQuiet_step (fun K hK => ?_)
    rw [if_pos (by rfl)]
    refine quiet_loadN 25 68 agg_head cells_head H 0 _ rfl (fun W h => h.row 3 _ 68 rfl (hdV_size _ OH.out)) (hK _ ?_)
    clear hK K
    quiet_step ((intro hC; refine Calls.mono (headFault_any h OH.out _) ?_; rintro e w9 ⟨rfl, hb9⟩; exact ⟨rfl, hC.on hb9⟩))
    quiet_step ((intro hC; refine Calls.mono (told_eq (headF h) _ (errAt_below HE.out hC.below (Nat.le_refl _))) ?_; rintro e w9 ⟨rfl, hb9⟩; exact ⟨rfl, hC.on hb9⟩))
    repeat quiet_step ((intro _; with_reducible rfl))
    refine wpQuiet_nil ?_
    intro x118 hw
    have K119 := Lib.hid hw
    clear hw K117
    have r1 : rowAt x118 D 0 32 = some (dgV E) := K119.out.row 0 _ 32 rfl (by rw [dgV_size, E32.out])
    have r2 : rowAt x118 Z 0 32 = some (dgV E) := K119.out.row 1 _ 32 rfl (by rw [dgV_size, E32.out])
    have he1 := HE1.out
    go_wp2_with fail
    refine Calls.mono (headOf_any b n ao cap x118 (rd_below HB.out K119.out.below) HL.out hn) ?_
    rintro e x120 ⟨rfl, hb⟩
    clear r1 r2 he1
    have K121 := Lib.hid (K119.out.on hb)
    clear hb
    clear K119
    rw [HHD.out]
    cases hsome : (headM b).isSome
    · have HZE : Hid (zHd = hdV hd) := Lib.hid (by rw [← HHD.out, zHd_eq]; cases hq : headM b with | none => rfl | some y => rw [hq] at hsome; cases hsome)
      have HRV : Hid (readV b = .tuple #[.agg (hdV hd), errV 1]) := Lib.hid (by unfold readV; rw [HHD.out, hsome]; rfl)
      clear hsome
      obtain ⟨n1, n2, n3, n4⟩ := new_hd x120 hd OKD.out
      unfold zHd at n1 n2
      go_upto_region 17 with fail
      clear n1 n2 n3 n4
      change Code.wp _ _ _ _ (x120.alloc (.cells (hdV hd) 25))
      have K122 := Lib.hid (K121.out.alloc (hdV hd) 25)
      obtain ⟨X, hA⟩ : ∃ X, x120.heap.size = X := ⟨_, rfl⟩
      have HGX : Hid (w.heap.size ≤ X) := Lib.hid (by rw [← hA]; exact K121.out.below.size)
      have HNX : Hid (∀ b ∈ ([(D, dgV E, 23), (Z, dgV E, 23), (B, blV hk (.slice ta ts.length tc), 29), (H, hdV h, 25)] : List BoxD), b.1 ≠ X) := Lib.hid (by rw [← hA]; exact fun b hb => Nat.ne_of_lt (kept_lt K121.out b hb))
      rw [hA] at K122 ⊢
      clear hA
      obtain ⟨x123, hw⟩ : ∃ x123, x120.alloc (.cells (hdV hd) 25) = x123 := ⟨_, rfl⟩
      rw [hw] at K122  ⊢
      clear hw
      clear K121
      have s1 : (rowAt x123 X 0 68).isSome = true := by rw [K122.out.row 0 _ 68 rfl (hdV_size _ OKD.out)]; rfl
      have s2 : wrAt x123 X = true := wrAt_of_heap (K122.out.get 0 _ rfl)
      have s3 : plainCells (zHd) = true := rfl
      have s4 : (zHd).size = 68 := rfl
      have K124 := Lib.hid (kept_store K122.out (zHd) (by rw [s4]; exact hdV_size _ OKD.out) HGX.out HNX.out)
      go_upto_region 20 with fail
      clear s1 s2 s3 s4
      obtain ⟨x125, hw⟩ : ∃ x125, putAt x123 X 0 (zHd) = x125 := ⟨_, rfl⟩
      rw [hw] at K124 ⊢
      clear hw
      clear K122
      rw [HZE.out] at K124
      go_wp2_with fail
      refine Calls.mono (blockRead_any b n ao cap x125 (rd_below HB.out K124.out.below) HL.out hn) ?_
      rintro e x126 ⟨rfl, hb⟩
      have K127 := Lib.hid (K124.out.on hb)
      clear hb
      clear K124
      rw [HRV.out]
      obtain ⟨n1, n2, n3, n4⟩ := new_hd x126 hd OKD.out
      unfold zHd at n1 n2
      go_upto_region 21 with fail
      clear n1 n2 n3 n4
      change Code.wp _ _ _ _ (x126.alloc (.cells (hdV hd) 25))
      have K128 := Lib.hid (K127.out.alloc (hdV hd) 25)
      obtain ⟨Y, hA⟩ : ∃ Y, x126.heap.size = Y := ⟨_, rfl⟩
      have HGY : Hid (w.heap.size ≤ Y) := Lib.hid (by rw [← hA]; exact K127.out.below.size)
      have HNY : Hid (∀ b ∈ ([(X, hdV hd, 25), (D, dgV E, 23), (Z, dgV E, 23), (B, blV hk (.slice ta ts.length tc), 29), (H, hdV h, 25)] : List BoxD), b.1 ≠ Y) := Lib.hid (by rw [← hA]; exact fun b hb => Nat.ne_of_lt (kept_lt K127.out b hb))
      rw [hA] at K128 ⊢
      clear hA
      obtain ⟨x129, hw⟩ : ∃ x129, x126.alloc (.cells (hdV hd) 25) = x129 := ⟨_, rfl⟩
      rw [hw] at K128  ⊢
      clear hw
      clear K127
      have HTE := Lib.hid (told_eq 1 x129 (errAt_below HE.out K128.out.below (Nat.le_refl _)))
      go_wp2_with fail
      refine Calls.mono (HTE.out) ?_
      rintro e x130 ⟨rfl, hb⟩
      clear HTE
      have K131 := Lib.hid (K128.out.on hb)
      clear hb
      clear K128
      have r1 : rowAt x130 Y 0 68 = some (hdV hd) := K131.out.row 0 _ 68 rfl (hdV_size _ OKD.out)
      have r2 : rowAt x130 X 0 68 = some (hdV hd) := K131.out.row 1 _ 68 rfl (hdV_size _ OKD.out)
      have he2 := HE2.out
      go_upto_region 24 with fail
      clear r1 r2 he2
      have cB : x130.cell? ⟨B, 68, none⟩ = some (.slice ta ts.length tc) := K131.out.cell 4 68 _ _ rfl (blV_txs hk _ OK.out)
      go_wp2_with fail
      refine Calls.mono (ids_any ts ta tc x130 (txR_stays.slB HS.out K131.out.below (Nat.le_refl _))) ?_
      rintro e x132 ⟨hb, hcase⟩
      clear cB
      have K133 := Lib.hid (K131.out.on hb)
      clear hb
      clear K131
      rcases hcase with ⟨hi, rfl⟩ | ⟨hi, va, vcap, rfl, hr⟩
      · obtain ⟨I, hI⟩ : ∃ I, idsE ts = I := ⟨_, rfl⟩
        rw [hI] at hi ⊢
        have HI := Lib.hid hI
        have HNI := Lib.hid hi
        have q7 : (I == 0) = false := by simp; exact hi
        clear hI hi
        go_upto_region 26 with fail
        change Code.wp _ _ _ _ (x132.alloc (.cells (zD) 23))
        have K134 := Lib.hid (K133.out.alloc (zD) 23)
        obtain ⟨Q, hA⟩ : ∃ Q, x132.heap.size = Q := ⟨_, rfl⟩
        have HGQ : Hid (w.heap.size ≤ Q) := Lib.hid (by rw [← hA]; exact K133.out.below.size)
        have HNQ : Hid (∀ b ∈ ([(Y, hdV hd, 25), (X, hdV hd, 25), (D, dgV E, 23), (Z, dgV E, 23), (B, blV hk (.slice ta ts.length tc), 29), (H, hdV h, 25)] : List BoxD), b.1 ≠ Q) := Lib.hid (by rw [← hA]; exact fun b hb => Nat.ne_of_lt (kept_lt K133.out b hb))
        rw [hA] at K134 ⊢
        clear hA
        obtain ⟨x135, hw⟩ : ∃ x135, x132.alloc (.cells (zD) 23) = x135 := ⟨_, rfl⟩
        rw [hw] at K134  ⊢
        clear hw
        clear K133
        go_upto_region 28 with fail
        rw [show zD = dgV RE from by rw [← HRE.out]; unfold rootE; rw [if_neg (by rw [HI.out]; exact HNI.out), zD_eq]] at K134
        have cB : x135.cell? ⟨B, 68, none⟩ = some (.slice ta ts.length tc) := K134.out.cell 5 68 _ _ rfl (blV_txs hk _ OK.out)
        go_wp2_with fail
        refine Calls.mono (blockRoot_any ts ta tc x135 (txR_stays.slB HS.out K134.out.below (Nat.le_refl _)) ((rowAt_below K134.out.below hgT 0 64).trans HT.out)) ?_
        rintro e x136 ⟨rfl, hb⟩
        clear cB
        have K137 := Lib.hid (K134.out.on hb)
        clear hb
        clear K134
        rw [HRE.out, HI.out]
        obtain ⟨n1, n2, n3, n4⟩ := new_dg x136 RE R32.out
        unfold zD at n1 n2
        go_upto_region 29 with fail
        clear n1 n2 n3 n4
        change Code.wp _ _ _ _ (x136.alloc (.cells (dgV RE) 23))
        have K138 := Lib.hid (K137.out.alloc (dgV RE) 23)
        obtain ⟨T, hA⟩ : ∃ T, x136.heap.size = T := ⟨_, rfl⟩
        have HGT : Hid (w.heap.size ≤ T) := Lib.hid (by rw [← hA]; exact K137.out.below.size)
        have HNT : Hid (∀ b ∈ ([(Q, dgV RE, 23), (Y, hdV hd, 25), (X, hdV hd, 25), (D, dgV E, 23), (Z, dgV E, 23), (B, blV hk (.slice ta ts.length tc), 29), (H, hdV h, 25)] : List BoxD), b.1 ≠ T) := Lib.hid (by rw [← hA]; exact fun b hb => Nat.ne_of_lt (kept_lt K137.out b hb))
        rw [hA] at K138 ⊢
        clear hA
        obtain ⟨x139, hw⟩ : ∃ x139, x136.alloc (.cells (dgV RE) 23) = x139 := ⟨_, rfl⟩
        rw [hw] at K138  ⊢
        clear hw
        clear K137
        have HTE := Lib.hid (told_eq I x139 (errAt_below HE.out K138.out.below (Nat.le_refl _)))
        go_wp2_with fail
        refine Calls.mono (HTE.out) ?_
        rintro e x140 ⟨rfl, hb⟩
        clear HTE
        have K141 := Lib.hid (K138.out.on hb)
        clear hb
        clear K138
        go_wp2_with fail
        refine wp_region_quiet (C := Kept w [(T, dgV RE, 23), (Q, dgV RE, 23), (Y, hdV hd, 25), (X, hdV hd, 25), (D, dgV E, 23), (Z, dgV E, 23), (B, blV hk (.slice ta ts.length tc), 29), (H, hdV h, 25)]) (by kernel_rfl) (by kernel_rfl) K141.out.drew ?_
        refine wpQuiet_step (fun K hK => ?_)
        rw [if_pos (by rfl)]
        refine quiet_loadN 29 69 agg_block cells_block B 0 _ rfl (fun W h => h.row 6 _ 69 rfl (HZ69.out)) (hK _ ?_)
        clear hK K
        quiet_step ((intro hC; refine Calls.mono (blockCheck_any hk OK.out ts ta tc _ (txR_stays.slB HS.out hC.below (Nat.le_refl _)) ((rowAt_below hC.below hgT 0 64).trans HT.out)) ?_; rintro e w9 ⟨rfl, hb9⟩; exact ⟨rfl, hC.on hb9⟩))
        refine wpQuiet_step (fun K hK => ?_)
        rw [if_pos (by rfl)]
        refine quiet_loadN 29 69 agg_block cells_block B 0 _ rfl (fun W h => h.row 6 _ 69 rfl (HZ69.out)) (hK _ ?_)
        clear hK K
        quiet_step ((intro hC; refine Calls.mono (blockFault_any hk OK.out ts ta tc _ (txR_stays.slB HS.out hC.below (Nat.le_refl _)) ((rowAt_below hC.below hgT 0 64).trans HT.out)) ?_; rintro e w9 ⟨rfl, hb9⟩; exact ⟨rfl, hC.on hb9⟩))
        quiet_step ((intro hC; refine Calls.mono (told_eq (blockF hk ts) _ (errAt_below HE.out hC.below (Nat.le_refl _))) ?_; rintro e w9 ⟨rfl, hb9⟩; exact ⟨rfl, hC.on hb9⟩))
        repeat quiet_step ((intro _; with_reducible rfl))
        refine wpQuiet_nil ?_
        intro x142 hw
        have K143 := Lib.hid hw
        clear hw K141
        have r1 : rowAt x142 T 0 32 = some (dgV RE) := K143.out.row 0 _ 32 rfl (by rw [dgV_size, R32.out])
        have r2 : rowAt x142 Q 0 32 = some (dgV RE) := K143.out.row 1 _ 32 rfl (by rw [dgV_size, R32.out])
        have he3 := HE3.out
        go_wp2
        go_ret
        exact ⟨rfl, K143.out.below⟩
      · have RDI := Lib.hid hr
        clear hr
        have HI := Lib.hid hi
        clear hi
        go_upto_region 26 with fail
        change Code.wp _ _ _ _ (x132.alloc (.cells (zD) 23))
        have K144 := Lib.hid (K133.out.alloc (zD) 23)
        have RD146 := Lib.hid (rd_below RDI.out ((Below.refl _ _).alloc (Nat.le_refl _) (.cells (zD) 23)))
        obtain ⟨Q, hA⟩ : ∃ Q, x132.heap.size = Q := ⟨_, rfl⟩
        have HGQ : Hid (w.heap.size ≤ Q) := Lib.hid (by rw [← hA]; exact K133.out.below.size)
        have HNQ : Hid (∀ b ∈ ([(Y, hdV hd, 25), (X, hdV hd, 25), (D, dgV E, 23), (Z, dgV E, 23), (B, blV hk (.slice ta ts.length tc), 29), (H, hdV h, 25)] : List BoxD), b.1 ≠ Q) := Lib.hid (by rw [← hA]; exact fun b hb => Nat.ne_of_lt (kept_lt K133.out b hb))
        rw [hA] at K144 ⊢
        clear hA
        obtain ⟨x145, hw⟩ : ∃ x145, x132.alloc (.cells (zD) 23) = x145 := ⟨_, rfl⟩
        rw [hw] at K144 RD146 ⊢
        clear hw
        clear RDI
        clear K133
        go_wp2_with fail
        refine Calls.mono (rroot_any ts.length (idsL ts) (idsL_32 ts) _ ts.length x145 (Nat.le_refl _) RD146.out (by simp [idsL]) (by have := HI.out; unfold idsE at this; split at this <;> first | omega | (cases this)) ((rowAt_below K144.out.below hgT 0 64).trans HT.out)) ?_
        rintro e x147 ⟨rfl, hb⟩
        have K148 := Lib.hid (K144.out.on hb)
        have RD149 := Lib.hid (rd_below RD146.out hb)
        clear RD146
        clear hb
        clear K144
        clear RD149
        rw [show rootM (idsL ts) = RE from by rw [← HRE.out]; unfold rootE; rw [if_pos HI.out]]
        have s1 : (rowAt x147 Q 0 32).isSome = true := by rw [K148.out.row 0 _ 32 rfl (rfl)]; rfl
        have s2 : wrAt x147 Q = true := wrAt_of_heap (K148.out.get 0 _ rfl)
        have s3 : plainCells (dgV RE) = true := dgV_plain _
        have s4 : (dgV RE).size = 32 := by rw [dgV_size, R32.out]
        have K150 := Lib.hid (kept_store K148.out (dgV RE) (by rw [s4]; exact rfl) HGQ.out HNQ.out)
        go_upto_region 28 with fail
        clear s1 s2 s3 s4
        obtain ⟨x151, hw⟩ : ∃ x151, putAt x147 Q 0 (dgV RE) = x151 := ⟨_, rfl⟩
        rw [hw] at K150 ⊢
        clear hw
        clear K148
        have cB : x151.cell? ⟨B, 68, none⟩ = some (.slice ta ts.length tc) := K150.out.cell 5 68 _ _ rfl (blV_txs hk _ OK.out)
        go_wp2_with fail
        refine Calls.mono (blockRoot_any ts ta tc x151 (txR_stays.slB HS.out K150.out.below (Nat.le_refl _)) ((rowAt_below K150.out.below hgT 0 64).trans HT.out)) ?_
        rintro e x152 ⟨rfl, hb⟩
        clear cB
        have K153 := Lib.hid (K150.out.on hb)
        clear hb
        clear K150
        rw [HRE.out, HI.out]; rw [errV_0]
        obtain ⟨n1, n2, n3, n4⟩ := new_dg x152 RE R32.out
        unfold zD at n1 n2
        go_upto_region 29 with fail
        clear n1 n2 n3 n4
        change Code.wp _ _ _ _ (x152.alloc (.cells (dgV RE) 23))
        have K154 := Lib.hid (K153.out.alloc (dgV RE) 23)
        obtain ⟨T, hA⟩ : ∃ T, x152.heap.size = T := ⟨_, rfl⟩
        have HGT : Hid (w.heap.size ≤ T) := Lib.hid (by rw [← hA]; exact K153.out.below.size)
        have HNT : Hid (∀ b ∈ ([(Q, dgV RE, 23), (Y, hdV hd, 25), (X, hdV hd, 25), (D, dgV E, 23), (Z, dgV E, 23), (B, blV hk (.slice ta ts.length tc), 29), (H, hdV h, 25)] : List BoxD), b.1 ≠ T) := Lib.hid (by rw [← hA]; exact fun b hb => Nat.ne_of_lt (kept_lt K153.out b hb))
        rw [hA] at K154 ⊢
        clear hA
        obtain ⟨x155, hw⟩ : ∃ x155, x152.alloc (.cells (dgV RE) 23) = x155 := ⟨_, rfl⟩
        rw [hw] at K154  ⊢
        clear hw
        clear K153
        have HTE := Lib.hid (told_eq 0 x155 (errAt_below HE.out K154.out.below (Nat.le_refl _)))
        rw [errV_0] at HTE
        go_wp2_with fail
        refine Calls.mono (HTE.out) ?_
        rintro e x156 ⟨rfl, hb⟩
        clear HTE
        have K157 := Lib.hid (K154.out.on hb)
        clear hb
        clear K154
        go_wp2_with fail
        refine wp_region_quiet (C := Kept w [(T, dgV RE, 23), (Q, dgV RE, 23), (Y, hdV hd, 25), (X, hdV hd, 25), (D, dgV E, 23), (Z, dgV E, 23), (B, blV hk (.slice ta ts.length tc), 29), (H, hdV h, 25)]) (by kernel_rfl) (by kernel_rfl) K157.out.drew ?_
        refine wpQuiet_step (fun K hK => ?_)
        rw [if_pos (by rfl)]
        refine quiet_loadN 29 69 agg_block cells_block B 0 _ rfl (fun W h => h.row 6 _ 69 rfl (HZ69.out)) (hK _ ?_)
        clear hK K
        quiet_step ((intro hC; refine Calls.mono (blockCheck_any hk OK.out ts ta tc _ (txR_stays.slB HS.out hC.below (Nat.le_refl _)) ((rowAt_below hC.below hgT 0 64).trans HT.out)) ?_; rintro e w9 ⟨rfl, hb9⟩; exact ⟨rfl, hC.on hb9⟩))
        refine wpQuiet_step (fun K hK => ?_)
        rw [if_pos (by rfl)]
        refine quiet_loadN 29 69 agg_block cells_block B 0 _ rfl (fun W h => h.row 6 _ 69 rfl (HZ69.out)) (hK _ ?_)
        clear hK K
        quiet_step ((intro hC; refine Calls.mono (blockFault_any hk OK.out ts ta tc _ (txR_stays.slB HS.out hC.below (Nat.le_refl _)) ((rowAt_below hC.below hgT 0 64).trans HT.out)) ?_; rintro e w9 ⟨rfl, hb9⟩; exact ⟨rfl, hC.on hb9⟩))
        quiet_step ((intro hC; refine Calls.mono (told_eq (blockF hk ts) _ (errAt_below HE.out hC.below (Nat.le_refl _))) ?_; rintro e w9 ⟨rfl, hb9⟩; exact ⟨rfl, hC.on hb9⟩))
        repeat quiet_step ((intro _; with_reducible rfl))
        refine wpQuiet_nil ?_
        intro x158 hw
        have K159 := Lib.hid hw
        clear hw K157
        have r1 : rowAt x158 T 0 32 = some (dgV RE) := K159.out.row 0 _ 32 rfl (by rw [dgV_size, R32.out])
        have r2 : rowAt x158 Q 0 32 = some (dgV RE) := K159.out.row 1 _ 32 rfl (by rw [dgV_size, R32.out])
        have he3 := HE3.out
        go_wp2
        go_ret
        exact ⟨rfl, K159.out.below⟩
    · have HRV : Hid (readV b = .tuple #[.agg (hdV hd), .nilIface]) := Lib.hid (by unfold readV; rw [HHD.out, hsome]; rfl)
      clear hsome
      obtain ⟨n1, n2, n3, n4⟩ := new_hd x120 hd OKD.out
      unfold zHd at n1 n2
      go_upto_region 17 with fail
      clear n1 n2 n3 n4
      change Code.wp _ _ _ _ (x120.alloc (.cells (hdV hd) 25))
      have K160 := Lib.hid (K121.out.alloc (hdV hd) 25)
      obtain ⟨X, hA⟩ : ∃ X, x120.heap.size = X := ⟨_, rfl⟩
      have HGX : Hid (w.heap.size ≤ X) := Lib.hid (by rw [← hA]; exact K121.out.below.size)
      have HNX : Hid (∀ b ∈ ([(D, dgV E, 23), (Z, dgV E, 23), (B, blV hk (.slice ta ts.length tc), 29), (H, hdV h, 25)] : List BoxD), b.1 ≠ X) := Lib.hid (by rw [← hA]; exact fun b hb => Nat.ne_of_lt (kept_lt K121.out b hb))
      rw [hA] at K160 ⊢
      clear hA
      obtain ⟨x161, hw⟩ : ∃ x161, x120.alloc (.cells (hdV hd) 25) = x161 := ⟨_, rfl⟩
      rw [hw] at K160  ⊢
      clear hw
      clear K121
      go_wp2_with fail
      refine Calls.mono (blockRead_any b n ao cap x161 (rd_below HB.out K160.out.below) HL.out hn) ?_
      rintro e x162 ⟨rfl, hb⟩
      have K163 := Lib.hid (K160.out.on hb)
      clear hb
      clear K160
      rw [HRV.out]
      obtain ⟨n1, n2, n3, n4⟩ := new_hd x162 hd OKD.out
      unfold zHd at n1 n2
      go_upto_region 21 with fail
      clear n1 n2 n3 n4
      change Code.wp _ _ _ _ (x162.alloc (.cells (hdV hd) 25))
      have K164 := Lib.hid (K163.out.alloc (hdV hd) 25)
      obtain ⟨Y, hA⟩ : ∃ Y, x162.heap.size = Y := ⟨_, rfl⟩
      have HGY : Hid (w.heap.size ≤ Y) := Lib.hid (by rw [← hA]; exact K163.out.below.size)
      have HNY : Hid (∀ b ∈ ([(X, hdV hd, 25), (D, dgV E, 23), (Z, dgV E, 23), (B, blV hk (.slice ta ts.length tc), 29), (H, hdV h, 25)] : List BoxD), b.1 ≠ Y) := Lib.hid (by rw [← hA]; exact fun b hb => Nat.ne_of_lt (kept_lt K163.out b hb))
      rw [hA] at K164 ⊢
      clear hA
      obtain ⟨x165, hw⟩ : ∃ x165, x162.alloc (.cells (hdV hd) 25) = x165 := ⟨_, rfl⟩
      rw [hw] at K164  ⊢
      clear hw
      clear K163
      have HTE := Lib.hid (told_eq 0 x165 (errAt_below HE.out K164.out.below (Nat.le_refl _)))
      rw [errV_0] at HTE
      go_wp2_with fail
      refine Calls.mono (HTE.out) ?_
      rintro e x166 ⟨rfl, hb⟩
      clear HTE
      have K167 := Lib.hid (K164.out.on hb)
      clear hb
      clear K164
      have r1 : rowAt x166 Y 0 68 = some (hdV hd) := K167.out.row 0 _ 68 rfl (hdV_size _ OKD.out)
      have r2 : rowAt x166 X 0 68 = some (hdV hd) := K167.out.row 1 _ 68 rfl (hdV_size _ OKD.out)
      have he2 := HE2.out
      go_upto_region 24 with fail
      clear r1 r2 he2
      have cB : x166.cell? ⟨B, 68, none⟩ = some (.slice ta ts.length tc) := K167.out.cell 4 68 _ _ rfl (blV_txs hk _ OK.out)
      go_wp2_with fail
      refine Calls.mono (ids_any ts ta tc x166 (txR_stays.slB HS.out K167.out.below (Nat.le_refl _))) ?_
      rintro e x168 ⟨hb, hcase⟩
      clear cB
      have K169 := Lib.hid (K167.out.on hb)
      clear hb
      clear K167
      rcases hcase with ⟨hi, rfl⟩ | ⟨hi, va, vcap, rfl, hr⟩
      · obtain ⟨I, hI⟩ : ∃ I, idsE ts = I := ⟨_, rfl⟩
        rw [hI] at hi ⊢
        have HI := Lib.hid hI
        have HNI := Lib.hid hi
        have q7 : (I == 0) = false := by simp; exact hi
        clear hI hi
        go_upto_region 26 with fail
        change Code.wp _ _ _ _ (x168.alloc (.cells (zD) 23))
        have K170 := Lib.hid (K169.out.alloc (zD) 23)
        obtain ⟨Q, hA⟩ : ∃ Q, x168.heap.size = Q := ⟨_, rfl⟩
        have HGQ : Hid (w.heap.size ≤ Q) := Lib.hid (by rw [← hA]; exact K169.out.below.size)
        have HNQ : Hid (∀ b ∈ ([(Y, hdV hd, 25), (X, hdV hd, 25), (D, dgV E, 23), (Z, dgV E, 23), (B, blV hk (.slice ta ts.length tc), 29), (H, hdV h, 25)] : List BoxD), b.1 ≠ Q) := Lib.hid (by rw [← hA]; exact fun b hb => Nat.ne_of_lt (kept_lt K169.out b hb))
        rw [hA] at K170 ⊢
        clear hA
        obtain ⟨x171, hw⟩ : ∃ x171, x168.alloc (.cells (zD) 23) = x171 := ⟨_, rfl⟩
        rw [hw] at K170  ⊢
        clear hw
        clear K169
        go_upto_region 28 with fail
        rw [show zD = dgV RE from by rw [← HRE.out]; unfold rootE; rw [if_neg (by rw [HI.out]; exact HNI.out), zD_eq]] at K170
        have cB : x171.cell? ⟨B, 68, none⟩ = some (.slice ta ts.length tc) := K170.out.cell 5 68 _ _ rfl (blV_txs hk _ OK.out)
        go_wp2_with fail
        refine Calls.mono (blockRoot_any ts ta tc x171 (txR_stays.slB HS.out K170.out.below (Nat.le_refl _)) ((rowAt_below K170.out.below hgT 0 64).trans HT.out)) ?_
        rintro e x172 ⟨rfl, hb⟩
        clear cB
        have K173 := Lib.hid (K170.out.on hb)
        clear hb
        clear K170
        rw [HRE.out, HI.out]
        obtain ⟨n1, n2, n3, n4⟩ := new_dg x172 RE R32.out
        unfold zD at n1 n2
        go_upto_region 29 with fail
        clear n1 n2 n3 n4
        change Code.wp _ _ _ _ (x172.alloc (.cells (dgV RE) 23))
        have K174 := Lib.hid (K173.out.alloc (dgV RE) 23)
        obtain ⟨T, hA⟩ : ∃ T, x172.heap.size = T := ⟨_, rfl⟩
        have HGT : Hid (w.heap.size ≤ T) := Lib.hid (by rw [← hA]; exact K173.out.below.size)
        have HNT : Hid (∀ b ∈ ([(Q, dgV RE, 23), (Y, hdV hd, 25), (X, hdV hd, 25), (D, dgV E, 23), (Z, dgV E, 23), (B, blV hk (.slice ta ts.length tc), 29), (H, hdV h, 25)] : List BoxD), b.1 ≠ T) := Lib.hid (by rw [← hA]; exact fun b hb => Nat.ne_of_lt (kept_lt K173.out b hb))
        rw [hA] at K174 ⊢
        clear hA
        obtain ⟨x175, hw⟩ : ∃ x175, x172.alloc (.cells (dgV RE) 23) = x175 := ⟨_, rfl⟩
        rw [hw] at K174  ⊢
        clear hw
        clear K173
        have HTE := Lib.hid (told_eq I x175 (errAt_below HE.out K174.out.below (Nat.le_refl _)))
        go_wp2_with fail
        refine Calls.mono (HTE.out) ?_
        rintro e x176 ⟨rfl, hb⟩
        clear HTE
        have K177 := Lib.hid (K174.out.on hb)
        clear hb
        clear K174
        go_wp2_with fail
        refine wp_region_quiet (C := Kept w [(T, dgV RE, 23), (Q, dgV RE, 23), (Y, hdV hd, 25), (X, hdV hd, 25), (D, dgV E, 23), (Z, dgV E, 23), (B, blV hk (.slice ta ts.length tc), 29), (H, hdV h, 25)]) (by kernel_rfl) (by kernel_rfl) K177.out.drew ?_
        refine wpQuiet_step (fun K hK => ?_)
        rw [if_pos (by rfl)]
        refine quiet_loadN 29 69 agg_block cells_block B 0 _ rfl (fun W h => h.row 6 _ 69 rfl (HZ69.out)) (hK _ ?_)
        clear hK K
        quiet_step ((intro hC; refine Calls.mono (blockCheck_any hk OK.out ts ta tc _ (txR_stays.slB HS.out hC.below (Nat.le_refl _)) ((rowAt_below hC.below hgT 0 64).trans HT.out)) ?_; rintro e w9 ⟨rfl, hb9⟩; exact ⟨rfl, hC.on hb9⟩))
        refine wpQuiet_step (fun K hK => ?_)
        rw [if_pos (by rfl)]
        refine quiet_loadN 29 69 agg_block cells_block B 0 _ rfl (fun W h => h.row 6 _ 69 rfl (HZ69.out)) (hK _ ?_)
        clear hK K
        quiet_step ((intro hC; refine Calls.mono (blockFault_any hk OK.out ts ta tc _ (txR_stays.slB HS.out hC.below (Nat.le_refl _)) ((rowAt_below hC.below hgT 0 64).trans HT.out)) ?_; rintro e w9 ⟨rfl, hb9⟩; exact ⟨rfl, hC.on hb9⟩))
        quiet_step ((intro hC; refine Calls.mono (told_eq (blockF hk ts) _ (errAt_below HE.out hC.below (Nat.le_refl _))) ?_; rintro e w9 ⟨rfl, hb9⟩; exact ⟨rfl, hC.on hb9⟩))
        repeat quiet_step ((intro _; with_reducible rfl))
        refine wpQuiet_nil ?_
        intro x178 hw
        have K179 := Lib.hid hw
        clear hw K177
        have r1 : rowAt x178 T 0 32 = some (dgV RE) := K179.out.row 0 _ 32 rfl (by rw [dgV_size, R32.out])
        have r2 : rowAt x178 Q 0 32 = some (dgV RE) := K179.out.row 1 _ 32 rfl (by rw [dgV_size, R32.out])
        have he3 := HE3.out
        go_wp2
        go_ret
        exact ⟨rfl, K179.out.below⟩
      · have RDI := Lib.hid hr
        clear hr
        have HI := Lib.hid hi
        clear hi
        go_upto_region 26 with fail
        change Code.wp _ _ _ _ (x168.alloc (.cells (zD) 23))
        have K180 := Lib.hid (K169.out.alloc (zD) 23)
        have RD182 := Lib.hid (rd_below RDI.out ((Below.refl _ _).alloc (Nat.le_refl _) (.cells (zD) 23)))
        obtain ⟨Q, hA⟩ : ∃ Q, x168.heap.size = Q := ⟨_, rfl⟩
        have HGQ : Hid (w.heap.size ≤ Q) := Lib.hid (by rw [← hA]; exact K169.out.below.size)
        have HNQ : Hid (∀ b ∈ ([(Y, hdV hd, 25), (X, hdV hd, 25), (D, dgV E, 23), (Z, dgV E, 23), (B, blV hk (.slice ta ts.length tc), 29), (H, hdV h, 25)] : List BoxD), b.1 ≠ Q) := Lib.hid (by rw [← hA]; exact fun b hb => Nat.ne_of_lt (kept_lt K169.out b hb))
        rw [hA] at K180 ⊢
        clear hA
        obtain ⟨x181, hw⟩ : ∃ x181, x168.alloc (.cells (zD) 23) = x181 := ⟨_, rfl⟩
        rw [hw] at K180 RD182 ⊢
        clear hw
        clear RDI
        clear K169
        go_wp2_with fail
        refine Calls.mono (rroot_any ts.length (idsL ts) (idsL_32 ts) _ ts.length x181 (Nat.le_refl _) RD182.out (by simp [idsL]) (by have := HI.out; unfold idsE at this; split at this <;> first | omega | (cases this)) ((rowAt_below K180.out.below hgT 0 64).trans HT.out)) ?_
        rintro e x183 ⟨rfl, hb⟩
        have K184 := Lib.hid (K180.out.on hb)
        have RD185 := Lib.hid (rd_below RD182.out hb)
        clear RD182
        clear hb
        clear K180
        clear RD185
        rw [show rootM (idsL ts) = RE from by rw [← HRE.out]; unfold rootE; rw [if_pos HI.out]]
        have s1 : (rowAt x183 Q 0 32).isSome = true := by rw [K184.out.row 0 _ 32 rfl (rfl)]; rfl
        have s2 : wrAt x183 Q = true := wrAt_of_heap (K184.out.get 0 _ rfl)
        have s3 : plainCells (dgV RE) = true := dgV_plain _
        have s4 : (dgV RE).size = 32 := by rw [dgV_size, R32.out]
        have K186 := Lib.hid (kept_store K184.out (dgV RE) (by rw [s4]; exact rfl) HGQ.out HNQ.out)
        go_upto_region 28 with fail
        clear s1 s2 s3 s4
        obtain ⟨x187, hw⟩ : ∃ x187, putAt x183 Q 0 (dgV RE) = x187 := ⟨_, rfl⟩
        rw [hw] at K186 ⊢
        clear hw
        clear K184
        have cB : x187.cell? ⟨B, 68, none⟩ = some (.slice ta ts.length tc) := K186.out.cell 5 68 _ _ rfl (blV_txs hk _ OK.out)
        go_wp2_with fail
        refine Calls.mono (blockRoot_any ts ta tc x187 (txR_stays.slB HS.out K186.out.below (Nat.le_refl _)) ((rowAt_below K186.out.below hgT 0 64).trans HT.out)) ?_
        rintro e x188 ⟨rfl, hb⟩
        clear cB
        have K189 := Lib.hid (K186.out.on hb)
        clear hb
        clear K186
        rw [HRE.out, HI.out]; rw [errV_0]
        obtain ⟨n1, n2, n3, n4⟩ := new_dg x188 RE R32.out
        unfold zD at n1 n2
        go_upto_region 29 with fail
        clear n1 n2 n3 n4
        change Code.wp _ _ _ _ (x188.alloc (.cells (dgV RE) 23))
        have K190 := Lib.hid (K189.out.alloc (dgV RE) 23)
        obtain ⟨T, hA⟩ : ∃ T, x188.heap.size = T := ⟨_, rfl⟩
        have HGT : Hid (w.heap.size ≤ T) := Lib.hid (by rw [← hA]; exact K189.out.below.size)
        have HNT : Hid (∀ b ∈ ([(Q, dgV RE, 23), (Y, hdV hd, 25), (X, hdV hd, 25), (D, dgV E, 23), (Z, dgV E, 23), (B, blV hk (.slice ta ts.length tc), 29), (H, hdV h, 25)] : List BoxD), b.1 ≠ T) := Lib.hid (by rw [← hA]; exact fun b hb => Nat.ne_of_lt (kept_lt K189.out b hb))
        rw [hA] at K190 ⊢
        clear hA
        obtain ⟨x191, hw⟩ : ∃ x191, x188.alloc (.cells (dgV RE) 23) = x191 := ⟨_, rfl⟩
        rw [hw] at K190  ⊢
        clear hw
        clear K189
        have HTE := Lib.hid (told_eq 0 x191 (errAt_below HE.out K190.out.below (Nat.le_refl _)))
        rw [errV_0] at HTE
        go_wp2_with fail
        refine Calls.mono (HTE.out) ?_
        rintro e x192 ⟨rfl, hb⟩
        clear HTE
        have K193 := Lib.hid (K190.out.on hb)
        clear hb
        clear K190
        go_wp2_with fail
        refine wp_region_quiet (C := Kept w [(T, dgV RE, 23), (Q, dgV RE, 23), (Y, hdV hd, 25), (X, hdV hd, 25), (D, dgV E, 23), (Z, dgV E, 23), (B, blV hk (.slice ta ts.length tc), 29), (H, hdV h, 25)]) (by kernel_rfl) (by kernel_rfl) K193.out.drew ?_
        refine wpQuiet_step (fun K hK => ?_)
        rw [if_pos (by rfl)]
        refine quiet_loadN 29 69 agg_block cells_block B 0 _ rfl (fun W h => h.row 6 _ 69 rfl (HZ69.out)) (hK _ ?_)
        clear hK K
        quiet_step ((intro hC; refine Calls.mono (blockCheck_any hk OK.out ts ta tc _ (txR_stays.slB HS.out hC.below (Nat.le_refl _)) ((rowAt_below hC.below hgT 0 64).trans HT.out)) ?_; rintro e w9 ⟨rfl, hb9⟩; exact ⟨rfl, hC.on hb9⟩))
        refine wpQuiet_step (fun K hK => ?_)
        rw [if_pos (by rfl)]
        refine quiet_loadN 29 69 agg_block cells_block B 0 _ rfl (fun W h => h.row 6 _ 69 rfl (HZ69.out)) (hK _ ?_)
        clear hK K
        quiet_step ((intro hC; refine Calls.mono (blockFault_any hk OK.out ts ta tc _ (txR_stays.slB HS.out hC.below (Nat.le_refl _)) ((rowAt_below hC.below hgT 0 64).trans HT.out)) ?_; rintro e w9 ⟨rfl, hb9⟩; exact ⟨rfl, hC.on hb9⟩))
        quiet_step ((intro hC; refine Calls.mono (told_eq (blockF hk ts) _ (errAt_below HE.out hC.below (Nat.le_refl _))) ?_; rintro e w9 ⟨rfl, hb9⟩; exact ⟨rfl, hC.on hb9⟩))
        repeat quiet_step ((intro _; with_reducible rfl))
        refine wpQuiet_nil ?_
        intro x194 hw
        have K195 := Lib.hid hw
        clear hw K193
        have r1 : rowAt x194 T 0 32 = some (dgV RE) := K195.out.row 0 _ 32 rfl (by rw [dgV_size, R32.out])
        have r2 : rowAt x194 Q 0 32 = some (dgV RE) := K195.out.row 1 _ 32 rfl (by rw [dgV_size, R32.out])
        have he3 := HE3.out
        go_wp2
        go_ret
        exact ⟨rfl, K195.out.below⟩
end Go.Proofs.YtljcdkfafknnpaaGreatDoor
