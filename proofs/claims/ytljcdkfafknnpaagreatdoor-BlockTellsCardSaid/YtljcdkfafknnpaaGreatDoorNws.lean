/- Merged: Nws. Conditions: none beyond each theorem's own. -/
import Derived.Test.YtljcdkfafknnpaaGreatDoorLss
import Derived.Deep.RegionLaw
import Derived.Test.YtljcdkfafknnpaaGreatDoorMf
namespace Go.Proofs.YtljcdkfafknnpaaGreatDoor
set_option linter.unusedVariables false
set_option linter.unusedSimpArgs false
open Go.RowKit
attribute [local go_sem ↓] run_load_agg run_store_agg run_load_any run_build_coin exec_build_place exec_build_coin3

set_option maxHeartbeats 4000000 in
set_option maxRecDepth 100000 in
theorem news_any (t : TxD) (ai ao : Option Addr) (ci co : Nat) (h : Int) (wl w : World) (hl : Below wl.heap.size wl w) (hi : rdSl inR 34 wl (.slice ai t.ins.length ci) t.ins) (ho : rdSl outR 2 wl (.slice ao t.outs.length co) t.outs) (hok : txF t = 0) :
    Calls Tryz.prog 52 #[.agg #[.slice ai t.ins.length ci, .slice ao t.outs.length co, .int .i64 t.time], .int .i64 h] w (SelPost wl (newsT t h) w) := by
  obtain ⟨n1, n2, n3⟩ := new_tx w ai ao t.ins.length t.outs.length ci co t.time
  have k0 := (Kept.refl w).alloc (txV t ai ao ci co) 59
  unfold zTx at n1 n2
  obtain ⟨_, _, e, o1, o2⟩ := sl_bounds ho
  cases e
  unfold maxLen at o2
  have ho40 := (txOk_of hok).outs
  have hle : Hid ((bareM t).length ≤ 1000000) := Lib.hid (bareM_le (txOk_of hok) (fun x hx => by
    obtain ⟨i, hi', rfl⟩ := List.getElem_of_mem hx
    obtain ⟨_, _, _, _, _, _, h32', -⟩ := in_at hi i hi'
    exact h32'))
  have HL := Lib.hid hl; have HI := Lib.hid hi; have HO := Lib.hid ho; have HF := Lib.hid hok
  have K0 := Lib.hid k0
  clear hl hi ho hok k0
  go_enter Tryz.func52, Tryz.ntmps52
  go_upto_region 1 with fail
  clear n1 n2 n3
  change Code.wp _ _ _ _ (w.alloc (.cells (txV t ai ao ci co) 59))
  obtain ⟨G, hG⟩ : ∃ G, w.heap.size = G := ⟨_, rfl⟩
  have K0' : Hid (∃ w0, w.alloc (.cells (txV t ai ao ci co) 59) = w0 ∧ Kept w [(G, txV t ai ao ci co, 59)] w0) := Lib.hid ⟨_, rfl, by rw [← hG]; exact K0.out⟩
  rw [hG] at ⊢
  clear hG K0
  obtain ⟨w0, hw0, k0⟩ := K0'.out
  rw [hw0]
  have K0 := Lib.hid k0
  clear hw0 k0 K0'
  have r1 : rowAt w0 G 0 3 = some #[.slice ai t.ins.length ci, .slice ao t.outs.length co, .int .i64 t.time] := K0.out.row 0 _ 3 rfl rfl
  go_wp2_with fail
  refine (idText_any t ai ao ci co w0 (inR_stays.slB HI.out (HL.out.trans (K0.out.below.mono HL.out.size)) (Nat.le_refl _)) (outR_stays.slB HO.out (HL.out.trans (K0.out.below.mono HL.out.size)) (Nat.le_refl _)) HF.out).mono ?_
  rintro e w1 ⟨v, rfl, hv, hb⟩
  have K1 := Lib.hid (K0.out.on hb)
  have HRD := Lib.hid (own_rd hv)
  clear hv hb r1
  go_wp2_with fail
  refine (rsum_any (21 :: bareM t) v _ w1 HRD.out rfl (by have := hle.out; simp only [List.length_cons]; omega)).mono ?_
  rintro e w2 ⟨rfl, hb⟩
  have K2 := Lib.hid (K1.out.on hb)
  clear hb HRD
  have hid32 : (shaM (21 :: bareM t)).length = 32 := shaM_length _
  obtain ⟨id, hid⟩ : ∃ id, shaM (21 :: bareM t) = id := ⟨_, rfl⟩
  have HID : Hid (idD t = id) := Lib.hid (by unfold idD; exact hid)
  rw [hid] at hid32 ⊢
  clear hid
  obtain ⟨p1, p2, p3, p4⟩ := new_dg w2 id hid32
  unfold zD at p1 p2
  go_upto_region 2 with fail
  clear p1 p2 p3 p4
  have K3' : Hid (∃ D w3, w2.heap.size = D ∧ w2.alloc (.cells (dgV id) 23) = w3 ∧ Kept w [(D, dgV id, 23), (G, txV t ai ao ci co, 59)] w3) := Lib.hid ⟨_, _, rfl, rfl, K2.out.alloc _ _⟩
  change Code.wp _ _ _ _ (w2.alloc (.cells (dgV id) 23))
  obtain ⟨D, w3, hd, hw, k3⟩ := K3'.out
  rw [hd, hw]
  have K3 := Lib.hid k3
  clear hd hw k3 K3'
  go_wp2_with fail
  go_loopw [6, 7] (fun s c wr => ∃ (j : Nat) (b : Value), j ≤ t.outs.length ∧ b = s ∧ c = .int .i64 j ∧ Hid (Sel wl w [(D, dgV id, 23), (G, txV t ai ao ci co, 59)] b (newsC id h 0 (t.outs.take j)) wr)) (fun _ c _ => t.outs.length - (intOf c).toNat)
  case atStart => exact ⟨0, _, by omega, rfl, rfl, Lib.hid (Sel.nil K3.out HL.out)⟩
  case round =>
    obtain ⟨j, b, hj, rfl, rfl, HS⟩ := hrel
    have c1 : wr.cell? ⟨G, 1, none⟩ = some (.slice ao t.outs.length co) := HS.out.kept.cell 1 1 _ _ rfl rfl
    by_cases hlt : j < t.outs.length
    · obtain ⟨g, off, so, scap, rfl, -, hlock0, hrow0⟩ := out_at HO.out j hlt
      have hrow : rowAt wr g (off + j * 2) 2 = some #[.int .i64 t.outs[j].amount, .slice so t.outs[j].lock.length scap] := (rowAt_below HS.out.below (rowAt_lt hrow0) _ _).trans hrow0
      obtain ⟨_, _, e, l1, l2⟩ := sl_bounds hlock0
      cases e
      unfold maxLen at l2
      have htk : newsC id h 0 (t.outs.take (j + 1)) = newsC id h 0 (t.outs.take j) ++ [⟨id, (j : Nat), t.outs[j].amount, t.outs[j].lock, h⟩] := by
        rw [List.take_succ_eq_append_getElem hlt, newsC_snoc, List.length_take, Nat.zero_add, Nat.min_eq_left (by omega)]
      have hsl : (newsC id h 0 (t.outs.take j)).length ≤ 1000000 := by rw [newsC_length, List.length_take]; omega
      obtain ⟨o, hoj⟩ : ∃ o, t.outs[j] = o := ⟨_, rfl⟩
      rw [hoj] at hlock0 hrow l1 htk
      obtain ⟨C, hC⟩ : ∃ C : CoinD, C = ⟨id, (j : Nat), o.amount, o.lock, h⟩ := ⟨_, rfl⟩
      have hC32 : C.tx.length = 32 := by rw [hC]; exact hid32
      have hCl : C.lock = o.lock := by rw [hC]
      have hpv : plA (dgV id) (.int .i64 (j : Int)) = plV ⟨id, j⟩ := rfl
      have hps : (plV ⟨id, (j : Int)⟩).size = 33 := plV_size _ hid32
      have hcv : coA (plV ⟨id, (j : Int)⟩) #[.int .i64 o.amount, .slice so o.lock.length scap] (.int .i64 h) = coinV C (.slice so o.lock.length scap) := by
        rw [hC]; simp [coA, plV, coinV]
      rw [← hC] at htk
      have hcc := coin_cells (w0 := wl) (cap := scap) (so := so) hC32 (by rw [hCl]; exact hlock0)
      rw [hCl] at hcc
      obtain ⟨y1, y2, y3⟩ := hcc
      obtain ⟨V, hV⟩ : ∃ V, coinV C (.slice so o.lock.length scap) = V := ⟨_, rfl⟩
      rw [hV] at hcv y1 y2 y3
      have HV1 := Lib.hid y1; have HV2 := Lib.hid y2; have HTK := Lib.hid htk; have HROW := Lib.hid hrow
      have m4 : (dgV id).size = 32 := by rw [dgV_size, hid32]
      have HS1 := Lib.hid HS.out.drew
      have HS2 := Lib.hid ((HS1.out.alloc V 105).tail)
      have HN := Lib.hid (rd_new_row wr.drew V 105 _ rfl)
      obtain ⟨S, hS⟩ : ∃ S, newsC id h 0 (t.outs.take j) = S := ⟨_, rfl⟩
      rw [hS] at HS HTK hsl HS1 HS2
      clear hoj hlock0 hrow0 hrow htk hC hC32 hCl hV y1 y2 hS
      go_wp2_with fail
      have hrd : rowAt wr D 0 32 = some (dgV id) := HS.out.kept.row 0 _ 32 rfl m4
      have hrow := HROW.out
      go_region_law (first
        | (refine step_sel rfl (.tmp 18) (.tmp 29) rfl C V HS2.out rfl rfl _ rfl HN.out HV1.out HV2.out y3 hsl ?_
           intro va vcap w5 HS5))
      all_goals
        go_wp2_with fail
        go_roundw
        case rel => exact ⟨j + 1, _, by omega, rfl, by go_num, Lib.hid (by rw [HTK.out]; have h5 := HS5.out; rw [show (S ++ [C]).length = S.length + 1 from by simp] at h5; exact h5)⟩
        case measure => simp [intOf]; omega
    · have HE : Hid (newsC id h 0 (t.outs.take j) = newsT t h) := Lib.hid (by unfold newsT; rw [List.take_of_length_le (by omega), HID.out])
      go_wp2
      go_ret
      exact selPost_mk _ rfl (by
        rw [← HE.out]
        exact HS.out.tail.tail)
end Go.Proofs.YtljcdkfafknnpaaGreatDoor
