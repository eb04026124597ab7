/- Merged: Blk. Conditions: none beyond each theorem's own. -/
import Derived.Test.YtljcdkfafknnpaaGreatDoorIdb
import Derived.Test.YtljcdkfafknnpaaGreatDoorNew
import Derived.Test.YtljcdkfafknnpaaGreatDoorMa
namespace Go.Proofs.YtljcdkfafknnpaaGreatDoor
set_option linter.unusedVariables false
set_option linter.unusedSimpArgs false
open Go.RowKit
attribute [local go_sem ↓] run_load_agg run_store_agg run_load_any exec_build_dg0
def blV (h : HeadD) (v : Value) : Array Value := hdV h ++ #[v]
def zBl : Array Value := #[.int .u8 0, .int .u8 0, .int .u8 0, .int .u8 0, .int .u8 0, .int .u8 0, .int .u8 0, .int .u8 0, .int .u8 0, .int .u8 0, .int .u8 0, .int .u8 0, .int .u8 0, .int .u8 0, .int .u8 0, .int .u8 0, .int .u8 0, .int .u8 0, .int .u8 0, .int .u8 0, .int .u8 0, .int .u8 0, .int .u8 0, .int .u8 0, .int .u8 0, .int .u8 0, .int .u8 0, .int .u8 0, .int .u8 0, .int .u8 0, .int .u8 0, .int .u8 0, .int .u8 0, .int .u8 0, .int .u8 0, .int .u8 0, .int .u8 0, .int .u8 0, .int .u8 0, .int .u8 0, .int .u8 0, .int .u8 0, .int .u8 0, .int .u8 0, .int .u8 0, .int .u8 0, .int .u8 0, .int .u8 0, .int .u8 0, .int .u8 0, .int .u8 0, .int .u8 0, .int .u8 0, .int .u8 0, .int .u8 0, .int .u8 0, .int .u8 0, .int .u8 0, .int .u8 0, .int .u8 0, .int .u8 0, .int .u8 0, .int .u8 0, .int .u8 0, .int .i64 0, .int .i64 0, .int .i64 0, .int .i64 0, .slice none 0 0]
@[go_sem] theorem agg_block : aggOf Tryz.prog 29 = true := by kernel_rfl
@[go_sem] theorem cells_block : Tryz.prog.cellsOf 29 = 69 := by kernel_rfl
theorem blV_size (h : HeadD) (v : Value) (k : HdOk h) : (blV h v).size = 69 := by simp [blV, hdV_size h k]
theorem blV_plain (h : HeadD) (ao : Option Addr) (n c : Nat) : plainCells (blV h (.slice ao n c)) = true := by
  have h1 := hdV_plain h
  simp only [plainCells, blV, Array.toList_append, List.all_append, Bool.and_eq_true] at h1 ⊢
  exact ⟨h1, rfl⟩
theorem blV_txs (h : HeadD) (v : Value) (k : HdOk h) : (blV h v)[68]? = some v := by
  unfold blV
  rw [Array.getElem?_append_right (by rw [hdV_size h k]; exact Nat.le_refl _), hdV_size h k]; rfl
theorem blV_head (h : HeadD) (v : Value) (k : HdOk h) : (blV h v).extract 0 68 = hdV h := by
  have hz := hdV_size h k
  apply Array.ext
  · simp [blV, hz]
  · intro i h1 h2
    rw [hz] at h2
    simp only [Array.getElem_extract, Nat.zero_add, blV]
    exact Array.getElem_append_left (by omega)
theorem bl_head {w : World} {g o : Nat} {h : HeadD} {v : Value} (hr : rowAt w g o 69 = some (blV h v)) (k : HdOk h) : rowAt w g o 68 = some (hdV h) := by
  have := rowAt_part hr 0 68 (by omega)
  rw [Nat.add_zero, Nat.zero_add, blV_head h v k] at this
  exact this
theorem new_bl (w : World) (h : HeadD) (ao : Option Addr) (n c : Nat) (k : HdOk h) : (rowAt (w.alloc (.cells zBl 29)) w.heap.size 0 69).isSome = true ∧ wrAt (w.alloc (.cells zBl 29)) w.heap.size = true ∧ plainCells (blV h (.slice ao n c)) = true ∧ (blV h (.slice ao n c)).size = 69 :=
  ⟨by rw [rowAt_whole (heap_alloc_new w _) 69 rfl]; rfl, wrAt_of_heap (heap_alloc_new w _), blV_plain h ao n c, blV_size h _ k⟩
def blockF (h : HeadD) (ts : List TxD) : Int := if headF h ≠ 0 then headF h else if idsE ts ≠ 0 then idsE ts else if rootM (idsL ts) = h.root then 0 else 11
set_option maxHeartbeats 8000000 in
set_option maxRecDepth 100000 in
theorem blockCheck_any (h : HeadD) (k : HdOk h) (ts : List TxD) (ta : Option Addr) (tc : Nat) (w : World) (hts : rdSl txR 3 w (.slice ta ts.length tc) ts) (hT : tabAt w) :
    Calls Tryz.prog 20 #[.agg (blV h (.slice ta ts.length tc))] w fun e w' => e = .returned (errV (blockF h ts)) ∧ Below w.heap.size w w' := by
  obtain ⟨_, _, e, k1, k2⟩ := sl_bounds hts
  cases e
  unfold maxLen at k2
  obtain ⟨n1, n2, n3, n4⟩ := new_bl w h ta ts.length tc k
  have hgT := rowAt_lt hT
  have HTB := Lib.hid hT
  have HS := Lib.hid hts
  have k0 := (Kept.refl w).alloc (blV h (.slice ta ts.length tc)) 29
  unfold zBl at n1 n2
  have K0 := Lib.hid k0
  have HK := Lib.hid k
  have HZ69 := Lib.hid (blV_size h (.slice ta ts.length tc) k)
  clear k0 k hT hts
  go_enter Tryz.func20, Tryz.ntmps20
  go_upto_region 1 with fail
  clear n1 n2 n3 n4
  change Code.wp _ _ _ _ (w.alloc (.cells (blV h (.slice ta ts.length tc)) 29))
  obtain ⟨G, hG⟩ : ∃ G, w.heap.size = G := ⟨_, rfl⟩
  have K0' : Hid (∃ w0, w.alloc (.cells (blV h (.slice ta ts.length tc)) 29) = w0 ∧ Kept w [(G, blV h (.slice ta ts.length tc), 29)] w0) := Lib.hid ⟨_, rfl, by rw [← hG]; exact K0.out⟩
  rw [hG] at ⊢
  clear hG K0
  obtain ⟨w0, hw0, k0⟩ := K0'.out
  rw [hw0]
  have K0 := Lib.hid k0
  clear hw0 k0 K0'
  have r1 : rowAt w0 G 0 68 = some (hdV h) := bl_head (K0.out.row 0 _ 69 rfl HZ69.out) HK.out
  go_wp2_with fail
  refine (checkHead_any h HK.out w0 ((rowAt_below K0.out.below hgT 0 64).trans HTB.out)).mono ?_
  rintro e w1 ⟨rfl, hb⟩
  have K1 := Lib.hid (K0.out.on hb)
  clear hb r1
  obtain ⟨f, hf⟩ : ∃ f, headF h = f := ⟨_, rfl⟩
  have HF := Lib.hid hf
  rw [hf]
  clear hf
  by_cases hz : f = 0
  rotate_left
  · have HE : Hid (blockF h ts = f) := Lib.hid (by unfold blockF; rw [HF.out, if_pos hz])
    have HNZ := Lib.hid hz
    rw [errV_ne hz]
    clear hz
    go_wp2
    go_ret
    exact ⟨by rw [HE.out, errV_ne HNZ.out]; rfl, K1.out.below⟩
  have HB1 : Hid (blockF h ts = if idsE ts ≠ 0 then idsE ts else if rootM (idsL ts) = h.root then 0 else 11) := Lib.hid (by unfold blockF; rw [HF.out, if_neg (by rw [hz]; simp)])
  subst hz
  rw [errV_0]
  have c68 : w1.cell? ⟨G, 68, none⟩ = some (.slice ta ts.length tc) := K1.out.cell 0 68 _ _ rfl (blV_txs h _ HK.out)
  have HHL := Lib.hid (rootE_length ts)
  go_wp2_with fail
  refine (blockRoot_any ts ta tc w1 (txR_stays.slB HS.out K1.out.below (Nat.le_refl _)) ((rowAt_below K1.out.below hgT 0 64).trans HTB.out)).mono ?_
  rintro e w2 ⟨rfl, hb⟩
  have K2 := Lib.hid (K1.out.on hb)
  clear hb c68
  obtain ⟨E, hE⟩ : ∃ E, rootE ts = E := ⟨_, rfl⟩
  have HEE := Lib.hid hE
  rw [hE] at HHL ⊢
  clear hE
  obtain ⟨p1, p2, p3, p4⟩ := new_dg w2 E HHL.out
  unfold zD at p1 p2
  have K3' : Hid (∃ D w3, w2.heap.size = D ∧ w2.alloc (.cells (dgV E) 23) = w3 ∧ Kept w [(D, dgV E, 23), (G, blV h (.slice ta ts.length tc), 29)] w3) := Lib.hid ⟨_, _, rfl, rfl, K2.out.alloc _ _⟩
  obtain ⟨f, hf⟩ : ∃ f, idsE ts = f := ⟨_, rfl⟩
  have HIE := Lib.hid hf
  rw [hf]
  clear hf
  by_cases hz : f = 0
  rotate_left
  · have HE : Hid (blockF h ts = f) := Lib.hid (by rw [HB1.out, HIE.out, if_pos hz])
    have HNZ := Lib.hid hz
    rw [errV_ne hz]
    clear hz
    go_upto_region 5 with fail
    clear p1 p2 p3 p4
    change Code.wp _ _ _ _ (w2.alloc (.cells (dgV E) 23))
    obtain ⟨D, w3, hd, hw, k3⟩ := K3'.out
    rw [hd, hw]
    have K3 := Lib.hid k3
    clear hd hw k3 K3'
    go_wp2
    go_ret
    exact ⟨by rw [HE.out, errV_ne HNZ.out]; rfl, K3.out.below⟩
  have HRT : Hid (rootM (idsL ts) = E) := Lib.hid (by rw [← HEE.out]; unfold rootE; rw [HIE.out, if_pos hz])
  have HB2 : Hid (blockF h ts = if E = h.root then 0 else 11) := Lib.hid (by rw [HB1.out, HIE.out, if_neg (by rw [hz]; simp), HRT.out])
  subst hz
  rw [errV_0]
  go_upto_region 5 with fail
  clear p1 p2 p3 p4
  change Code.wp _ _ _ _ (w2.alloc (.cells (dgV E) 23))
  obtain ⟨D, w3, hd, hw, k3⟩ := K3'.out
  rw [hd, hw]
  have K3 := Lib.hid k3
  have r2 : rowAt w3 D 0 32 = some (dgV E) := k3.row 0 _ 32 rfl (by rw [dgV_size]; exact HHL.out)
  have r4 : rowAt w3 G 32 32 = some (dgV h.root) := by
    have := hd_root (bl_head (k3.row 1 _ 69 rfl HZ69.out) HK.out) HK.out
    rwa [Nat.zero_add] at this
  have he := run_eql_dig E h.root HHL.out HK.out.r
  clear hd hw k3 K3'
  by_cases hq : E = h.root
  · have HE : Hid (blockF h ts = 0) := Lib.hid (by rw [HB2.out, if_pos hq])
    rw [decide_eq_true hq] at he
    clear hq
    go_wp2
    go_ret
    exact ⟨by rw [HE.out]; rfl, K3.out.below⟩
  · have HE : Hid (blockF h ts = 11) := Lib.hid (by rw [HB2.out, if_neg hq])
    rw [decide_eq_false hq] at he
    clear hq
    go_wp2
    go_ret
    exact ⟨by rw [HE.out]; rfl, K3.out.below⟩
/-- The worlds of a region that reads a digest in a block and calls. -/
structure HeldR (w0 : World) (G o : Nat) (d : List UInt8) (w : World) : Prop where
  below : Below w0.heap.size w0 w
  a : rowAt w G o 32 = some (dgV d)
theorem HeldR.on {w0 : World} {G o : Nat} {d : List UInt8} {w w' : World} (h : HeldR w0 G o d w) (hb : Below w.heap.size w w') : HeldR w0 G o d w' :=
  ⟨h.below.trans (hb.mono h.below.size), (rowAt_below hb (rowAt_lt h.a) _ _).trans h.a⟩
set_option maxHeartbeats 8000000 in
set_option maxRecDepth 100000 in
theorem blockFault_any (h : HeadD) (k : HdOk h) (ts : List TxD) (ta : Option Addr) (tc : Nat) (w : World) (hts : rdSl txR 3 w (.slice ta ts.length tc) ts) (hT : tabAt w) :
    Calls Tryz.prog 21 #[.agg (blV h (.slice ta ts.length tc))] w fun e w' => e = .returned (.int .i64 (blockF h ts)) ∧ Below w.heap.size w w' := by
  obtain ⟨_, _, e, k1, k2⟩ := sl_bounds hts
  cases e
  unfold maxLen at k2
  obtain ⟨n1, n2, n3, n4⟩ := new_bl w h ta ts.length tc k
  have hgT := rowAt_lt hT
  have HTB := Lib.hid hT
  have HS := Lib.hid hts
  have k0 := (Kept.refl w).alloc (blV h (.slice ta ts.length tc)) 29
  unfold zBl at n1 n2
  have K0 := Lib.hid k0
  have HK := Lib.hid k
  have HZ69 := Lib.hid (blV_size h (.slice ta ts.length tc) k)
  clear k0 k hT hts
  go_enter Tryz.func21, Tryz.ntmps21
  go_upto_region 1 with fail
  clear n1 n2 n3 n4
  change Code.wp _ _ _ _ (w.alloc (.cells (blV h (.slice ta ts.length tc)) 29))
  obtain ⟨G, hG⟩ : ∃ G, w.heap.size = G := ⟨_, rfl⟩
  have K0' : Hid (∃ w0, w.alloc (.cells (blV h (.slice ta ts.length tc)) 29) = w0 ∧ Kept w [(G, blV h (.slice ta ts.length tc), 29)] w0) := Lib.hid ⟨_, rfl, by rw [← hG]; exact K0.out⟩
  rw [hG] at ⊢
  clear hG K0
  obtain ⟨w0, hw0, k0⟩ := K0'.out
  rw [hw0]
  have K0 := Lib.hid k0
  clear hw0 k0 K0'
  have r1 : rowAt w0 G 0 68 = some (hdV h) := bl_head (K0.out.row 0 _ 69 rfl HZ69.out) HK.out
  go_wp2_with fail
  refine (headFault_any h HK.out w0).mono ?_
  rintro e w1 ⟨rfl, hb⟩
  have K1 := Lib.hid (K0.out.on hb)
  clear hb r1
  obtain ⟨f, hf⟩ : ∃ f, headF h = f := ⟨_, rfl⟩
  have HF := Lib.hid hf
  rw [hf]
  clear hf
  by_cases hz : f = 0
  rotate_left
  · have HE : Hid (blockF h ts = f) := Lib.hid (by unfold blockF; rw [HF.out, if_pos hz])
    have x2 : (f != 0) = true := bne_iff_ne.2 hz
    clear hz
    go_wp2
    go_ret
    exact ⟨by rw [HE.out]; rfl, K1.out.below⟩
  have HB1 : Hid (blockF h ts = if idsE ts ≠ 0 then idsE ts else if rootM (idsL ts) = h.root then 0 else 11) := Lib.hid (by unfold blockF; rw [HF.out, if_neg (by rw [hz]; simp)])
  subst hz
  have c68 : w1.cell? ⟨G, 68, none⟩ = some (.slice ta ts.length tc) := K1.out.cell 0 68 _ _ rfl (blV_txs h _ HK.out)
  go_wp2_with fail
  refine (ids_any ts ta tc w1 (txR_stays.slB HS.out K1.out.below (Nat.le_refl _))).mono ?_
  rintro e w2 ⟨hb, hor⟩
  have K2 := Lib.hid (K1.out.on hb)
  clear hb c68
  rcases hor with ⟨hz, rfl⟩ | ⟨hz, va, vcap, rfl, hrd⟩
  · obtain ⟨f, hf⟩ : ∃ f, idsE ts = f := ⟨_, rfl⟩
    have HE : Hid (blockF h ts = f) := Lib.hid (by rw [HB1.out, hf, if_pos (by rw [← hf]; exact hz)])
    rw [hf] at hz ⊢
    have x1 : (f == 0) = false := by simp; exact hz
    clear hf hz
    go_wp2_with fail
    go_region
    all_goals
      go_wp2
      go_ret
      exact ⟨by rw [HE.out]; rfl, K2.out.drew.below⟩
  · have HB2 : Hid (blockF h ts = if rootM (idsL ts) = h.root then 0 else 11) := Lib.hid (by rw [HB1.out, hz, if_neg (by simp)])
    have hrd' := hrd
    obtain ⟨_, _, e, v1, v2, -⟩ := hrd'
    cases e
    unfold maxLen at v2
    have HRD := Lib.hid hrd
    have hlen : ts.length ≤ 256 := by
      rcases Nat.lt_or_ge 100 ts.length with h1 | h1
      · unfold idsE at hz; rw [if_pos h1] at hz; cases hz
      · omega
    have r4 : rowAt w2 G 32 32 = some (dgV h.root) := by
      have := hd_root (bl_head (K2.out.row 0 _ 69 rfl HZ69.out) HK.out) HK.out
      rwa [Nat.zero_add] at this
    have HH : Hid (HeldR w2 G 32 h.root w2.drew) := Lib.hid ⟨(Below.refl _ _).drew, r4⟩
    have HIL : Hid ((idsL ts).length = ts.length) := Lib.hid (by unfold idsL; simp)
    have HCR : Hid (∀ W, HeldR w2 G 32 h.root W → Calls Tryz.prog 18 #[.slice va ts.length vcap] W fun e w' => e = .returned (.agg (dgV (rootM (idsL ts)))) ∧ Below W.heap.size W w') := Lib.hid fun W hW =>
      rroot_any ts.length (idsL ts) (idsL_32 ts) _ ts.length W (Nat.le_refl _) (rd_below HRD.out hW.below) HIL.out hlen ((rowAt_below (K2.out.below.trans (hW.below.mono K2.out.below.size)) hgT 0 64).trans HTB.out)
    have hr32 : (rootM (idsL ts)).length = 32 := rootM_length _ (idsL_32 ts)
    obtain ⟨R, hR⟩ : ∃ R, rootM (idsL ts) = R := ⟨_, rfl⟩
    rw [hR] at HB2 HCR hr32
    have he := run_eql_dig R h.root hr32 HK.out.r
    clear hz hrd hR r4
    by_cases hq : R = h.root
    · have HE : Hid (blockF h ts = 0) := Lib.hid (by rw [HB2.out, if_pos hq])
      rw [decide_eq_true hq] at he
      clear hq
      go_wp2_with fail
      refine wp_region_quiet (C := HeldR w2 G 32 h.root) (by kernel_rfl) (by kernel_rfl) HH.out ?_
      iterate 4 quiet_step ((intro _; with_reducible rfl))
      quiet_step ((intro hC; refine (HCR.out _ hC).mono ?_; rintro e w9 ⟨rfl, hb9⟩; exact ⟨rfl, hC.on hb9⟩))
      iterate 2 quiet_step ((intro _; with_reducible rfl))
      refine wpQuiet_step (fun K hK => ?_)
      rw [if_pos (by rfl)]
      refine quiet_load G 32 _ rfl (fun w h => h.a) (hK _ ?_)
      clear hK K
      iterate 2 quiet_step ((intro _; with_reducible rfl))
      refine wpQuiet_nil ?_
      intro w3 hw3
      have K3 := Lib.hid (K2.out.on hw3.below)
      clear hw3 he
      go_wp2
      go_ret
      exact ⟨by rw [HE.out]; rfl, K3.out.below⟩
    · have HE : Hid (blockF h ts = 11) := Lib.hid (by rw [HB2.out, if_neg hq])
      rw [decide_eq_false hq] at he
      clear hq
      go_wp2_with fail
      refine wp_region_quiet (C := HeldR w2 G 32 h.root) (by kernel_rfl) (by kernel_rfl) HH.out ?_
      iterate 4 quiet_step ((intro _; with_reducible rfl))
      quiet_step ((intro hC; refine (HCR.out _ hC).mono ?_; rintro e w9 ⟨rfl, hb9⟩; exact ⟨rfl, hC.on hb9⟩))
      iterate 2 quiet_step ((intro _; with_reducible rfl))
      refine wpQuiet_step (fun K hK => ?_)
      rw [if_pos (by rfl)]
      refine quiet_load G 32 _ rfl (fun w h => h.a) (hK _ ?_)
      clear hK K
      iterate 2 quiet_step ((intro _; with_reducible rfl))
      refine wpQuiet_nil ?_
      intro w3 hw3
      have K3 := Lib.hid (K2.out.on hw3.below)
      clear hw3 he
      go_wp2
      go_ret
      exact ⟨by rw [HE.out]; rfl, K3.out.below⟩
end Go.Proofs.YtljcdkfafknnpaaGreatDoor
