/- Merged: Cor RCor ClOr. Conditions: none beyond each theorem's own. -/
import Derived.Test.YtljcdkfafknnpaaDoorMd
import Derived.Test.YtljcdkfafknnpaaDoorMa
import Derived.Test.YtljcdkfafknnpaaDoorMc
namespace Go.Proofs.YtljcdkfafknnpaaDoor
set_option linter.unusedVariables false
set_option linter.unusedSimpArgs false
open Go.RowKit
attribute [local go_sem ↓] run_load_agg run_store_agg run_load_any

set_option maxHeartbeats 8000000 in
set_option maxRecDepth 100000 in
theorem coinOrder_any (cs : List CoinD) (ca : Option Addr) (cc : Nat) (t : TxD) (ai : Option Addr) (ci : Nat) (ao : Option Addr) (co : Nat) (u : TxD) (bi : Option Addr) (di : Nat) (bo : Option Addr) (eo : Nat) (h : Int) (w : World) (hc : rdSl coinR 36 w (.slice ca cs.length cc) cs)
    (hi : rdSl inR 34 w (.slice ai t.ins.length ci) t.ins) (ho : rdSl outR 2 w (.slice ao t.outs.length co) t.outs) (ki : rdSl inR 34 w (.slice bi u.ins.length di) u.ins) (ko : rdSl outR 2 w (.slice bo u.outs.length eo) u.outs) (hT : tabAt w) :
    Calls Tryd.prog 5 #[.slice ca cs.length cc, .agg #[.slice ai t.ins.length ci, .slice ao t.outs.length co, .int .i64 t.time], .agg #[.slice bi u.ins.length di, .slice bo u.outs.length eo, .int .i64 u.time], .int .i64 h] w fun e w' => e = .returned (.bool true) ∧ Below w.heap.size w w' := by
  obtain ⟨n1, n2, n3⟩ := new_tx w ai ao t.ins.length t.outs.length ci co t.time
  obtain ⟨m1, m2, m3⟩ := new_tx (w.alloc (.cells (txV t ai ao ci co) 25)) bi bo u.ins.length u.outs.length di eo u.time
  have k0 := ((Kept.refl w).alloc (txV t ai ao ci co) 25).alloc (txV u bi bo di eo) 25
  rw [show (w.alloc (.cells (txV t ai ao ci co) 25)).heap.size = w.heap.size + 1 from by simp] at k0
  unfold zTx at n1 n2 m1 m2
  unfold txV at m1 m2
  have hgT := rowAt_lt hT
  have HC := Lib.hid hc; have HI := Lib.hid hi; have HO := Lib.hid ho; have HT := Lib.hid hT; have KI := Lib.hid ki; have KO := Lib.hid ko
  have K0 := Lib.hid k0
  clear hc hi ho hT ki ko k0
  go_enter Tryd.func5, Tryd.ntmps5
  go_upto_region 1 with fail
  clear n1 n2 n3 m1 m2 m3
  change Code.wp _ _ _ _ ((w.alloc (.cells (txV t ai ao ci co) 25)).alloc (.cells (txV u bi bo di eo) 25))
  obtain ⟨G2, hG2⟩ : ∃ G, w.heap.size + 1 = G := ⟨_, rfl⟩
  rw [hG2] at K0 ⊢
  clear hG2
  obtain ⟨G1, hG1⟩ : ∃ G, w.heap.size = G := ⟨_, rfl⟩
  have HB1 : Hid (K0.out.below.size = K0.out.below.size) := Lib.hid rfl
  clear HB1
  have K0' : Hid (∃ w0, (w.alloc (.cells (txV t ai ao ci co) 25)).alloc (.cells (txV u bi bo di eo) 25) = w0 ∧ Kept w [(G2, txV u bi bo di eo, 25), (G1, txV t ai ao ci co, 25)] w0) := Lib.hid ⟨_, rfl, by rw [← hG1]; exact K0.out⟩
  rw [hG1] at ⊢
  clear hG1 K0
  obtain ⟨w0, hw0, k0⟩ := K0'.out
  rw [hw0]
  have K0 := Lib.hid k0
  clear hw0 k0 K0'
  go_wp2_with fail
  refine (made_law w0 ((rowAt_below K0.out.below hgT 0 64).trans HT.out)).mono ?_
  rintro e w1 ⟨rfl, hb⟩
  have K1 := Lib.hid (K0.out.on hb)
  clear hb
  have r1 : rowAt w1 G1 0 3 = some #[.slice ai t.ins.length ci, .slice ao t.outs.length co, .int .i64 t.time] := K1.out.row 1 _ 3 rfl rfl
  go_wp2_with fail
  refine (apply_any cs t h ca ai ao cc ci co w1 (coinR_stays.slB HC.out K1.out.below (Nat.le_refl _)) (inR_stays.slB HI.out K1.out.below (Nat.le_refl _)) (outR_stays.slB HO.out K1.out.below (Nat.le_refl _)) ((rowAt_below K1.out.below hgT 0 64).trans HT.out)).mono ?_
  rintro e w2 hap
  obtain ⟨hb, hap⟩ := applyPost_cases hap
  have K2 := Lib.hid (K1.out.on hb)
  clear hb r1
  have r2 : rowAt w2 G2 0 3 = some #[.slice bi u.ins.length di, .slice bo u.outs.length eo, .int .i64 u.time] := K2.out.row 0 _ 3 rfl rfl
  rcases hap with ⟨hz, rfl⟩ | ⟨k1, va, vcap, ua, ucap, rfl, hs, -⟩
  · rw [errV_ne hz]
    clear hz
    go_wp2_with fail
    refine (apply_any [] u h none bi bo 0 di eo w2 (rdSl_nil _ _ _) (inR_stays.slB KI.out K2.out.below (Nat.le_refl _)) (outR_stays.slB KO.out K2.out.below (Nat.le_refl _)) ((rowAt_below K2.out.below hgT 0 64).trans HT.out)).mono ?_
    rintro e w3 hap
    obtain ⟨hb, hap⟩ := applyPost_cases hap
    have K3 := Lib.hid (K2.out.on hb)
    clear hb r2
    rcases hap with ⟨hz, rfl⟩ | ⟨-, va, vcap, ua, ucap, rfl, -, -⟩
    · go_wp2
      go_ret
      exact ⟨rfl, K3.out.below⟩
    · go_wp2
      go_ret
      exact ⟨rfl, K3.out.below⟩
  · have KA1 := Lib.hid k1
    have H32 := Lib.hid ((all32_iff cs).1 (all32_of HC.out))
    have HS2 := Lib.hid hs
    clear k1 hs
    go_wp2_with fail
    refine (apply_any (applyS cs t h) u h va bi bo vcap di eo w2 HS2.out (inR_stays.slB KI.out K2.out.below (Nat.le_refl _)) (outR_stays.slB KO.out K2.out.below (Nat.le_refl _)) ((rowAt_below K2.out.below hgT 0 64).trans HT.out)).mono ?_
    rintro e w3 hap
    obtain ⟨hb, hap⟩ := applyPost_cases hap
    have K3 := Lib.hid (K2.out.on hb)
    clear hb r2
    rcases hap with ⟨hz, rfl⟩ | ⟨k2, xa, xcap, ya, ycap, rfl, hs, -⟩
    · rw [errV_ne hz]
      clear hz
      go_wp2
      go_ret
      exact ⟨rfl, K3.out.below⟩
    · have KA2 := Lib.hid k2
      have HS3 := Lib.hid hs
      clear k2 hs
      have c1 : w3.cell? ⟨G1, 1, none⟩ = some (.slice ao t.outs.length co) := K3.out.cell 1 1 _ _ rfl rfl
      have c2 : w3.cell? ⟨G2, 1, none⟩ = some (.slice bo u.outs.length eo) := K3.out.cell 0 1 _ _ rfl rfl
      have z1 := (txOk_of KA1.out.tx).outs
      have z2 := (txOk_of KA2.out.tx).outs
      have z3 := (setF_zero cs KA1.out.set).1
      by_cases hlen : 1000 < cs.length + t.outs.length + u.outs.length
      · go_wp2
        go_ret
        exact ⟨rfl, K3.out.below⟩
      · go_upto_region 8 with fail
        clear c1 c2 z1 z2 z3
        have J3 := Lib.hid K3.out.self
        have r3 : rowAt w3 G1 0 3 = some #[.slice ai t.ins.length ci, .slice ao t.outs.length co, .int .i64 t.time] := K3.out.row 1 _ 3 rfl rfl
        go_wp2_with fail
        refine (txID_any t ai ao ci co w3 (inR_stays.slB HI.out K3.out.below (Nat.le_refl _)) (outR_stays.slB HO.out K3.out.below (Nat.le_refl _)) ((rowAt_below K3.out.below hgT 0 64).trans HT.out)).mono ?_
        rintro e w4 ⟨rfl, hb⟩
        have J4 := Lib.hid (J3.out.on hb)
        have K4 := Lib.hid (K3.out.from_ J4.out)
        clear hb r3
        unfold idV
        rw [if_pos KA1.out.tx, KA1.out.tx, errV_0]
        obtain ⟨id, hid⟩ : ∃ id, idD t = id := ⟨_, rfl⟩
        have hid32 : id.length = 32 := by rw [← hid]; exact idD_length t
        have HID := Lib.hid hid
        rw [hid]
        clear hid
        obtain ⟨p1, p2, p3, p4⟩ := new_dg w4 id hid32
        unfold zD at p1 p2
        go_upto_region 9 with fail
        clear p1 p2 p3 p4
        have K5' : Hid (∃ D w5, w4.heap.size = D ∧ w4.alloc (.cells (dgV id) 29) = w5 ∧ Kept w3 [(D, dgV id, 29), (G2, txV u bi bo di eo, 25), (G1, txV t ai ao ci co, 25)] w5) := Lib.hid ⟨_, _, rfl, rfl, J4.out.alloc _ _⟩
        change Code.wp _ _ _ _ (w4.alloc (.cells (dgV id) 29))
        obtain ⟨D1, w5, hd, hw, k5⟩ := K5'.out
        rw [hd, hw]
        have J5 := Lib.hid k5
        have K5 := Lib.hid (K3.out.from_ J5.out)
        clear hd hw k5 K5'
        have r3 : rowAt w5 G2 0 3 = some #[.slice bi u.ins.length di, .slice bo u.outs.length eo, .int .i64 u.time] := K5.out.row 1 _ 3 rfl rfl
        go_wp2_with fail
        refine (txID_any u bi bo di eo w5 (inR_stays.slB KI.out K5.out.below (Nat.le_refl _)) (outR_stays.slB KO.out K5.out.below (Nat.le_refl _)) ((rowAt_below K5.out.below hgT 0 64).trans HT.out)).mono ?_
        rintro e w6 ⟨rfl, hb⟩
        have J6 := Lib.hid (J5.out.on hb)
        have K6 := Lib.hid (K3.out.from_ J6.out)
        clear hb r3
        unfold idV
        rw [if_pos KA2.out.tx, KA2.out.tx, errV_0]
        obtain ⟨jd, hjd⟩ : ∃ id, idD u = id := ⟨_, rfl⟩
        have hjd32 : jd.length = 32 := by rw [← hjd]; exact idD_length u
        have HJD := Lib.hid hjd
        rw [hjd]
        clear hjd
        obtain ⟨p1, p2, p3, p4⟩ := new_dg w6 jd hjd32
        unfold zD at p1 p2
        go_upto_region 10 with fail
        clear p1 p2 p3 p4
        have K7' : Hid (∃ D w7, w6.heap.size = D ∧ w6.alloc (.cells (dgV jd) 29) = w7 ∧ Kept w3 [(D, dgV jd, 29), (D1, dgV id, 29), (G2, txV u bi bo di eo, 25), (G1, txV t ai ao ci co, 25)] w7) := Lib.hid ⟨_, _, rfl, rfl, J6.out.alloc _ _⟩
        change Code.wp _ _ _ _ (w6.alloc (.cells (dgV jd) 29))
        obtain ⟨D2, w7, hd, hw, k7⟩ := K7'.out
        rw [hd, hw]
        have J7 := Lib.hid k7
        clear hd hw k7 K7'
        have HU := Lib.hid (sl_bounds KI.out)
        have HV := Lib.hid (sl_bounds HI.out)
        obtain ⟨_, _, e, i1, i2⟩ := HU.out
        cases e
        obtain ⟨_, _, e, i3, i4⟩ := HV.out
        cases e
        unfold maxLen at i2 i4
        clear HU HV
        go_wp2_with fail
        go_loopw [22] (fun c wr => ∃ j : Nat, j ≤ u.ins.length ∧ c = .int .i64 j ∧ Hid (Kept w3 [(D2, dgV jd, 29), (D1, dgV id, 29), (G2, txV u bi bo di eo, 25), (G1, txV t ai ao ci co, 25)] wr) ∧ Hid (∀ x ∈ u.ins.take j, x.tx ≠ id)) (fun c _ => u.ins.length - (intOf c).toNat)
        case atStart => exact ⟨0, by omega, rfl, J7, Lib.hid (fun x hx => by simp at hx)⟩
        case round =>
          obtain ⟨j, hj, rfl, HJ, HA⟩ := hrel
          have HK := Lib.hid (K3.out.from_ HJ.out)
          have c0 : wr.cell? ⟨G2, 0, none⟩ = some (.slice bi u.ins.length di) := HK.out.cell 2 0 _ _ rfl rfl
          by_cases hlt : j < u.ins.length
          · obtain ⟨g, off, so, scap, rfl, -, h32, hkeys, hrow⟩ := in_at (inR_stays.slB KI.out HK.out.below (Nat.le_refl _)) j hlt
            have r1 := in_dig hrow h32
            have r2 : rowAt wr D1 0 32 = some (dgV id) := HK.out.row 1 _ 32 rfl (by rw [dgV_size, hid32])
            have HTK : Hid (u.ins.take (j + 1) = u.ins.take j ++ [u.ins[j]]) := Lib.hid (List.take_succ_eq_append_getElem hlt)
            obtain ⟨x, hx⟩ : ∃ x, u.ins[j] = x := ⟨_, rfl⟩
            rw [hx] at h32 r1 HTK
            have he := run_eql_dig x.tx id h32 hid32
            clear hx hkeys hrow
            by_cases hxe : x.tx = id
            · rw [decide_eq_true hxe] at he
              clear hxe
              go_wp2_with fail
              go_region
              all_goals
                go_wp2
                go_ret
                exact ⟨rfl, HK.out.drew.below⟩
            · rw [decide_eq_false hxe] at he
              have HA2 : Hid (∀ y ∈ u.ins.take (j + 1), y.tx ≠ id) := Lib.hid (by
                intro y hy
                rw [HTK.out, List.mem_append, List.mem_singleton] at hy
                rcases hy with hy | rfl
                · exact HA.out y hy
                · exact hxe)
              clear hxe
              go_wp2_with fail
              go_region
              all_goals
                go_wp2
                go_roundw
                case rel => exact ⟨j + 1, by omega, by go_num, Lib.hid HJ.out.drew, HA2⟩
                case measure => simp [intOf]; omega
          · have HA1 : Hid (∀ x ∈ u.ins, x.tx ≠ id) := Lib.hid (by have := HA.out; rwa [List.take_of_length_le (by omega)] at this)
            clear HA
            have JW := HJ
            clear HK HJ
            go_wp2_with fail
            obtain ⟨w8, hw8⟩ : ∃ w8, wr = w8 := ⟨_, rfl⟩
            clear c0
            rw [hw8] at JW ⊢
            clear hw8
            go_loopw [23] (fun c wr => ∃ j : Nat, j ≤ t.ins.length ∧ c = .int .i64 j ∧ Hid (Kept w3 [(D2, dgV jd, 29), (D1, dgV id, 29), (G2, txV u bi bo di eo, 25), (G1, txV t ai ao ci co, 25)] wr) ∧ Hid (∀ x ∈ t.ins.take j, x.tx ≠ jd)) (fun c _ => t.ins.length - (intOf c).toNat)
            case atStart => exact ⟨0, by omega, rfl, JW, Lib.hid (fun x hx => by simp at hx)⟩
            case round =>
              obtain ⟨j, hj, rfl, HJ, HA⟩ := hrel
              have HK := Lib.hid (K3.out.from_ HJ.out)
              have c0 : wr.cell? ⟨G1, 0, none⟩ = some (.slice ai t.ins.length ci) := HK.out.cell 3 0 _ _ rfl rfl
              by_cases hlt : j < t.ins.length
              · obtain ⟨g, off, so, scap, rfl, -, h32, hkeys, hrow⟩ := in_at (inR_stays.slB HI.out HK.out.below (Nat.le_refl _)) j hlt
                have r1 := in_dig hrow h32
                have r2 : rowAt wr D2 0 32 = some (dgV jd) := HK.out.row 0 _ 32 rfl (by rw [dgV_size, hjd32])
                have HTK : Hid (t.ins.take (j + 1) = t.ins.take j ++ [t.ins[j]]) := Lib.hid (List.take_succ_eq_append_getElem hlt)
                obtain ⟨x, hx⟩ : ∃ x, t.ins[j] = x := ⟨_, rfl⟩
                rw [hx] at h32 r1 HTK
                have he := run_eql_dig x.tx jd h32 hjd32
                clear hx hkeys hrow
                by_cases hxe : x.tx = jd
                · rw [decide_eq_true hxe] at he
                  clear hxe
                  go_wp2_with fail
                  go_region
                  all_goals
                    go_wp2
                    go_ret
                    exact ⟨rfl, HK.out.drew.below⟩
                · rw [decide_eq_false hxe] at he
                  have HA2 : Hid (∀ y ∈ t.ins.take (j + 1), y.tx ≠ jd) := Lib.hid (by
                    intro y hy
                    rw [HTK.out, List.mem_append, List.mem_singleton] at hy
                    rcases hy with hy | rfl
                    · exact HA.out y hy
                    · exact hxe)
                  clear hxe
                  go_wp2_with fail
                  go_region
                  all_goals
                    go_wp2
                    go_roundw
                    case rel => exact ⟨j + 1, by omega, by go_num, Lib.hid HJ.out.drew, HA2⟩
                    case measure => simp [intOf]; omega
              · have HAP : Hid (Apart cs t u h) := Lib.hid (apart_of H32.out KA1.out KA2.out (by omega) (by rw [HID.out]; exact HA1.out) (by have := HA.out; rw [List.take_of_length_le (by omega)] at this; rw [HJD.out]; exact this))
                clear HA HA1 hlen
                go_upto_region 22 with fail
                clear c0 hlt hj
                have r4 : rowAt wr G2 0 3 = some #[.slice bi u.ins.length di, .slice bo u.outs.length eo, .int .i64 u.time] := HK.out.row 2 _ 3 rfl rfl
                go_wp2_with fail
                refine (apply_any cs u h ca bi bo cc di eo wr (coinR_stays.slB HC.out HK.out.below (Nat.le_refl _)) (inR_stays.slB KI.out HK.out.below (Nat.le_refl _)) (outR_stays.slB KO.out HK.out.below (Nat.le_refl _)) ((rowAt_below HK.out.below hgT 0 64).trans HT.out)).mono ?_
                rintro e w9 hap
                obtain ⟨hb, hap⟩ := applyPost_cases hap
                have J9 := Lib.hid (HJ.out.on hb)
                have K9 := Lib.hid (K3.out.from_ J9.out)
                clear hb r4
                rcases hap with ⟨hz, -⟩ | ⟨-, pa, pcap, qa, qcap, rfl, hs, -⟩
                · exact absurd (applyOk_to HAP.out.one) hz
                have HS9 := Lib.hid hs
                clear hs
                have r4 : rowAt w9 G1 0 3 = some #[.slice ai t.ins.length ci, .slice ao t.outs.length co, .int .i64 t.time] := K9.out.row 3 _ 3 rfl rfl
                go_wp2_with fail
                refine (apply_any (applyS cs u h) t h pa ai ao pcap ci co w9 HS9.out (inR_stays.slB HI.out K9.out.below (Nat.le_refl _)) (outR_stays.slB HO.out K9.out.below (Nat.le_refl _)) ((rowAt_below K9.out.below hgT 0 64).trans HT.out)).mono ?_
                rintro e w10 hap
                obtain ⟨hb, hap⟩ := applyPost_cases hap
                have J10 := Lib.hid (J9.out.on hb)
                have K10 := Lib.hid (K3.out.from_ J10.out)
                clear hb r4
                rcases hap with ⟨hz, -⟩ | ⟨-, xb, xbcap, yb, ybcap, rfl, hs, -⟩
                · exact absurd (applyOk_to HAP.out.two) hz
                rw [HAP.out.same, HAP.out.l1, HAP.out.l2] at *
                have HS10 := Lib.hid hs
                have HSB := Lib.hid (coinR_stays.slB HS3.out J10.out.below (Nat.le_refl _))
                clear hs
                go_wp2_with fail
                refine (coins_same (applyS (applyS cs t h) u h) xa xb _ xcap xbcap w10 HSB.out HS10.out rfl).mono ?_
                rintro e w11 ⟨rfl, hd⟩
                have K11 := Lib.hid (K10.out.on hd.below)
                clear hd
                go_wp2
                go_ret
                exact ⟨by simp, K11.out.below⟩
end Go.Proofs.YtljcdkfafknnpaaDoor
namespace Go.Proofs.YtljcdkfafknnpaaDoor.coinOrder
set_option linter.unusedVariables false
set_option linter.unusedSimpArgs false
open Go.ChangeShapes Go.WideShapes Go.ChangeAt Go.RowKit
open Go.Proofs.YtljcdkfafknnpaaDoor

theorem okWide_arr {P : Program} {w : World} {r : Reach} {base : Nat} {n : Nat} {t e : TypeId} {v : Value} (ht : P.underlying t = some (.array n e)) (h : Value.okWide P w r base t v) : ∃ cs, v = .agg cs ∧ cs.size = P.cellsOf t := by
  simp only [Value.okWide, ht] at h
  obtain ⟨cs, h1, h2, -⟩ := h
  exact ⟨cs, h1, h2⟩
def witP : Value := .agg ((Array.replicate 32 (Value.int .u8 0)).push (Value.int .i64 0))
theorem okWide_st {P : Program} {w : World} {r : Reach} {base : Nat} {t : TypeId} {fs : Array Field} {v : Value} (ht : P.underlying t = some (.struct fs)) (h : Value.okWide P w r base t v) : ∃ cs, v = .agg cs ∧ cs.size = P.cellsOf t := by
  simp only [Value.okWide, ht] at h
  obtain ⟨cs, h1, h2, -⟩ := h
  exact ⟨cs, h1, h2⟩
theorem trodAll_cons_mk2 {H : Type} {enc : TypeId × Value → H} {P : Program} {w : World} {sp : Nat → Bool} {t : TypeId} {ts : List TypeId} {v : Value} {vs : List Value} {d : DataW H} {ds : List (DataW H)} {p q : List MemPlace}
    (h : DataW.Trod enc P w 0 sp true t v d p) (r : DataW.TrodAll enc P w 0 sp true ts vs ds q) : DataW.TrodAll enc P w 0 sp true (t :: ts) (v :: vs) (d :: ds) (p ++ q) := ⟨p, q, h, r, rfl⟩
set_option maxRecDepth 100000 in
theorem contract (walk : ∀ (zs0 : List CoinD) (ao0 : Option Addr) (c0 : Nat) (t1 : TxD) (ai1 : Option Addr) (ci1 : Nat) (ao1 : Option Addr) (co1 : Nat) (t2 : TxD) (ai2 : Option Addr) (ci2 : Nat) (ao2 : Option Addr) (co2 : Nat) (a3 : Int) (w : World) (_ : rdSl coinR 36 w (.slice ao0 zs0.length c0) zs0) (_ : rdSl inR 34 w (.slice ai1 t1.ins.length ci1) t1.ins) (_ : rdSl outR 2 w (.slice ao1 t1.outs.length co1) t1.outs) (_ : rdSl inR 34 w (.slice ai2 t2.ins.length ci2) t2.ins) (_ : rdSl outR 2 w (.slice ao2 t2.outs.length co2) t2.outs) (_ : (Lit.int .i64 a3).wf = true) (_ : tabAt w),
      Calls Tryd.prog 5 #[.slice ao0 zs0.length c0, .agg #[.slice ai1 t1.ins.length ci1, .slice ao1 t1.outs.length co1, .int .i64 t1.time], .agg #[.slice ai2 t2.ins.length ci2, .slice ao2 t2.outs.length co2, .int .i64 t2.time], .int .i64 a3] w fun e w' => e = .returned (.bool true) ∧ Below w.heap.size w w')
    (H : Type) (enc : TypeId × Value → H) (W : World) (base : Nat) (args : Array Value) (ds gs : List (DataW H)) (before : List MemPlace)
    (hval : ∀ (j : Nat) t v, Tryd.f5.params[j]? = some t → args[j]? = some v → Value.okWide Tryd.prog W .any base t v)
    (hW : DataW.Whole enc Tryd.prog Tryd.f5.params.toList Rows.coinOrderSpec.vars false W args.toList ds gs before) (hL : laidMetH Tryd.prog Rows.coinOrderRow.laid W) :
    Calls Tryd.prog 5 args W fun e W' => ∃ v, e = .returned v ∧ Rows.coinOrderSpec.post enc Tryd.prog Tryd.f5 false true false false W args v W' := by
  have hW' := hW
  obtain ⟨p, q, hA0, hV, rfl, hfz, hnd⟩ := hW
  have hA : DataW.TrodAll enc Tryd.prog W 0 (fun _ => true) true Tryd.f5.params.toList args.toList ds p := hA0
  rw [Tryd.params5] at hA hval
  obtain ⟨x0, vs0, d0, ds0, p0, q0, hargs, rfl, rfl, h0, r0⟩ := trodAll_cons hA
  obtain ⟨x1, vs1, d1, ds1, p1, q1, rfl, rfl, rfl, h1, r1⟩ := trodAll_cons r0
  obtain ⟨x2, vs2, d2, ds2, p2, q2, rfl, rfl, rfl, h2, r2⟩ := trodAll_cons r1
  obtain ⟨x3, vs3, d3, ds3, p3, q3, rfl, rfl, rfl, h3, r3⟩ := trodAll_cons r2
  obtain ⟨rfl, rfl, rfl⟩ := trodAll_nil r3
  obtain rfl : args = #[x0, x1, x2, x3] := by cases args; simp_all
  obtain ⟨rfl, rfl⟩ := trodVars_none hV
  obtain ⟨sa0, sl0, sc0, rfl⟩ := okWide_slice Tryd.underlying44 (hval 0 44 x0 rfl rfl)
  have g0 := h0
  obtain ⟨fu0, hf0⟩ := g0
  obtain ⟨zs0, hr0⟩ := open_coins hf0
  obtain ⟨ao0, c0, hx0, -, -⟩ := sl_bounds hr0
  cases hx0
  obtain ⟨cs1, rfl, hz1⟩ := okWide_st Tryd.underlying25 (hval 1 25 x1 rfl rfl)
  have g1 := h1
  obtain ⟨fu1, hf1⟩ := g1
  obtain ⟨t1, sa1, sb1, e1, hi1, ho1⟩ := open_tx hf1
  obtain ⟨ai1, ci1, rfl, -, -⟩ := sl_bounds hi1
  obtain ⟨ao1, co1, rfl, -, -⟩ := sl_bounds ho1
  obtain rfl : cs1 = #[.slice ai1 t1.ins.length ci1, .slice ao1 t1.outs.length co1, .int .i64 t1.time] := by apply Array.ext'; simpa [Value.cells] using e1
  obtain ⟨cs2, rfl, hz2⟩ := okWide_st Tryd.underlying25 (hval 2 25 x2 rfl rfl)
  have g2 := h2
  obtain ⟨fu2, hf2⟩ := g2
  obtain ⟨t2, sa2, sb2, e2, hi2, ho2⟩ := open_tx hf2
  obtain ⟨ai2, ci2, rfl, -, -⟩ := sl_bounds hi2
  obtain ⟨ao2, co2, rfl, -, -⟩ := sl_bounds ho2
  obtain rfl : cs2 = #[.slice ai2 t2.ins.length ci2, .slice ao2 t2.outs.length co2, .int .i64 t2.time] := by apply Array.ext'; simpa [Value.cells] using e2
  have g3 := h3
  obtain ⟨a3, rfl, rfl, rfl, w3⟩ := open_int Tryd.underlying3 (hval 3 3 x3 rfl rfl) g3
  clear hA0
  simp only [List.append_nil] at hW'
  refine (walk zs0 _ _ t1 _ _ _ _ t2 _ _ _ _ a3 W hr0 hi1 ho1 hi2 ho2 w3 (tab_of hL)).mono fun e W' ⟨he, hg⟩ => ?_
  subst he
  have hlt := fun x hx => hW'.lt x hx
  refine ⟨_, rfl, post_of_below (pa := (p0 ++ (p1 ++ (p2 ++ ([] ++ []))))) (pv := []) hW' (fun _ _ _ => trodAll_cons_mk (shut_bool Tryd.underlying4 _) trodAll_mk0)
    (fun sp hsp => (trodAll_cons_mk2 (WideElems.Trod_stays (sp' := sp) (by kernel_rfl) (by kernel_rfl) (of_decide_eq_true (by kernel_rfl)) h0 (fun x hx => hg.same (hlt x (by first | (cases hx; done) | simp [hx]))) (fun x hx => hsp x (by first | (cases hx; done) | simp [hx]))) (trodAll_cons_mk2 (WideElems.Trod_stays (sp' := sp) (by kernel_rfl) (by kernel_rfl) (of_decide_eq_true (by kernel_rfl)) h1 (fun x hx => hg.same (hlt x (by first | (cases hx; done) | simp [hx]))) (fun x hx => hsp x (by first | (cases hx; done) | simp [hx]))) (trodAll_cons_mk2 (WideElems.Trod_stays (sp' := sp) (by kernel_rfl) (by kernel_rfl) (of_decide_eq_true (by kernel_rfl)) h2 (fun x hx => hg.same (hlt x (by first | (cases hx; done) | simp [hx]))) (fun x hx => hsp x (by first | (cases hx; done) | simp [hx]))) (trodAll_cons_mk2 (WideElems.Trod_stays (sp' := sp) (by kernel_rfl) (by kernel_rfl) (of_decide_eq_true (by kernel_rfl)) h3 (fun x hx => hg.same (hlt x (by first | (cases hx; done) | simp [hx]))) (fun x hx => hsp x (by first | (cases hx; done) | simp [hx]))) trodAll_mk0)))))
    (fun _ _ => rfl) (by simp) hg (ok_one (by kernel_rfl) rfl (okWide_bool_mk Tryd.underlying4 _))⟩

set_option maxRecDepth 100000 in
theorem laid_met (os : Os) : laidMet Tryd.prog Rows.coinOrderRow.laid ((laidWorld os).forCall (fun _ _ => 0) ⟨#[], #[.slice none 0 0, .agg #[.slice none 0 0, .slice none 0 0, .int .i64 0], .agg #[.slice none 0 0, .slice none 0 0, .int .i64 0], .int .i64 0], []⟩).memory :=
  laidMet_of_run' 8 (by kernel_rfl) (by kernel_rfl)
set_option maxRecDepth 100000 in
theorem reads (os : Os) {H : Type} (enc : TypeId × Value → H) : ∃ places, DataW.whole enc Tryd.prog ((laidWorld os).forCall (fun _ _ => 0) ⟨#[], #[.slice none 0 0, .agg #[.slice none 0 0, .slice none 0 0, .int .i64 0], .agg #[.slice none 0 0, .slice none 0 0, .int .i64 0], .int .i64 0], []⟩).memory Tryd.f5.params.toList Rows.coinOrderSpec.vars false (#[.slice none 0 0, .agg #[.slice none 0 0, .slice none 0 0, .int .i64 0], .agg #[.slice none 0 0, .slice none 0 0, .int .i64 0], .int .i64 0] : Array Value).toList 8 = some ([.nil, .agg [.nil, .nil, .lit (.int .i64 0)], .agg [.nil, .nil, .lit (.int .i64 0)], .lit (.int .i64 0)], [], places) :=
  ⟨[], by kernel_rfl⟩

set_option maxRecDepth 100000 in
theorem lifted (walk : ∀ (zs0 : List CoinD) (ao0 : Option Addr) (c0 : Nat) (t1 : TxD) (ai1 : Option Addr) (ci1 : Nat) (ao1 : Option Addr) (co1 : Nat) (t2 : TxD) (ai2 : Option Addr) (ci2 : Nat) (ao2 : Option Addr) (co2 : Nat) (a3 : Int) (w : World) (_ : rdSl coinR 36 w (.slice ao0 zs0.length c0) zs0) (_ : rdSl inR 34 w (.slice ai1 t1.ins.length ci1) t1.ins) (_ : rdSl outR 2 w (.slice ao1 t1.outs.length co1) t1.outs) (_ : rdSl inR 34 w (.slice ai2 t2.ins.length ci2) t2.ins) (_ : rdSl outR 2 w (.slice ao2 t2.outs.length co2) t2.outs) (_ : (Lit.int .i64 a3).wf = true) (_ : tabAt w),
      Calls Tryd.prog 5 #[.slice ao0 zs0.length c0, .agg #[.slice ai1 t1.ins.length ci1, .slice ao1 t1.outs.length co1, .int .i64 t1.time], .agg #[.slice ai2 t2.ins.length ci2, .slice ao2 t2.outs.length co2, .int .i64 t2.time], .int .i64 a3] w fun e w' => e = .returned (.bool true) ∧ Below w.heap.size w w') (os : Os) (started : os.Started) (H : Type) (enc : TypeId × Value → H) (F : Stop.Interp) :
    ReturnsInHanded {} Tryd.checked os 5 .any ((OpenSpec.ofChange Rows.coinOrderSpec).preRow enc Tryd.prog Tryd.f5 Rows.coinOrderRow.domain false Rows.coinOrderRow.laid) (((OpenSpec.ofChange Rows.coinOrderSpec).at F).post enc Tryd.prog Tryd.f5 false true false false) := by
  obtain ⟨places, hx⟩ := reads os enc
  refine returnsInHanded_of_row (C := Tryd.checked) (s := OpenSpec.ofChange Rows.coinOrderSpec) own_knob started (by kernel_rfl) Tryd.func5
    (witness_row_at (enc := enc) (C := Tryd.checked) false (laidWorld os) #[.slice none 0 0, .agg #[.slice none 0 0, .slice none 0 0, .int .i64 0], .agg #[.slice none 0 0, .slice none 0 0, .int .i64 0], .int .i64 0] rfl (by kernel_rfl) (by kernel_rfl) (by kernel_rfl)
      (OpenSpec.preRow_of_cond 8 hx (by kernel_rfl) (fun k hk => by cases hk) (by kernel_rfl) (laid_met os))) ?_
  intro W base args ds gs before hval hW _ _ _ hL _ _
  exact contract walk H enc W base args ds gs before hval hW hL
theorem said_of (walk : ∀ (zs0 : List CoinD) (ao0 : Option Addr) (c0 : Nat) (t1 : TxD) (ai1 : Option Addr) (ci1 : Nat) (ao1 : Option Addr) (co1 : Nat) (t2 : TxD) (ai2 : Option Addr) (ci2 : Nat) (ao2 : Option Addr) (co2 : Nat) (a3 : Int) (w : World) (_ : rdSl coinR 36 w (.slice ao0 zs0.length c0) zs0) (_ : rdSl inR 34 w (.slice ai1 t1.ins.length ci1) t1.ins) (_ : rdSl outR 2 w (.slice ao1 t1.outs.length co1) t1.outs) (_ : rdSl inR 34 w (.slice ai2 t2.ins.length ci2) t2.ins) (_ : rdSl outR 2 w (.slice ao2 t2.outs.length co2) t2.outs) (_ : (Lit.int .i64 a3).wf = true) (_ : tabAt w),
      Calls Tryd.prog 5 #[.slice ao0 zs0.length c0, .agg #[.slice ai1 t1.ins.length ci1, .slice ao1 t1.outs.length co1, .int .i64 t1.time], .agg #[.slice ai2 t2.ins.length ci2, .slice ao2 t2.outs.length co2, .int .i64 t2.time], .int .i64 a3] w fun e w' => e = .returned (.bool true) ∧ Below w.heap.size w w') : Rows.CoinOrderSaid :=
  OpenClaim.holds_of_cond 5 Tryd.f5 rfl rfl rfl rfl rfl rfl rfl ⟨rfl, rfl, rfl, rfl, rfl⟩ rfl rfl rfl rfl rfl (by kernel_rfl) Tryd.func5 (by kernel_rfl)
    (of_decide_eq_true (by kernel_rfl)) (by unfold Func.isWrapper; first | (rw [if_pos (by decide +kernel)]; kernel_rfl) | (rw [if_neg (by decide +kernel)]; exact ⟨rfl, rfl⟩))
    (fun os started H enc _ F => by rw [OpenClaim.pre_eq_preRow]; exact lifted walk os started H enc F)
theorem plain (f : FuncId) (fn : Func) (hf : Tryd.pinned.checked.prog.funcNamed "moneyer/moneyerlaw2.CoinOrder" = some f) (hfn : Tryd.pinned.checked.prog.funcs[f]? = some fn) :
    true = Tryd.pinned.checked.prog.looks [] ∧ ∀ (j : Nat) t, fn.params[j]? = some t → Tryd.pinned.checked.prog.wantsStandIn t = false := by
  obtain rfl : f = 5 := Option.some.inj ((show Tryd.prog.funcNamed "moneyer/moneyerlaw2.CoinOrder" = some 5 by kernel_rfl).symm.trans hf) |>.symm
  obtain rfl : fn = Tryd.f5 := (Option.some.inj (Tryd.func5.symm.trans hfn)).symm
  refine ⟨by kernel_rfl, fun j t ht => ?_⟩
  rw [Tryd.params5] at ht
  have hm := Array.mem_of_getElem? ht
  simp only [List.mem_toArray, List.mem_cons, List.not_mem_nil, or_false] at hm
  rcases hm with rfl | rfl | rfl | rfl
  · exact (show Tryd.prog.wantsStandIn 44 = false by kernel_rfl)
  · exact (show Tryd.prog.wantsStandIn 25 = false by kernel_rfl)
  · exact (show Tryd.prog.wantsStandIn 25 = false by kernel_rfl)
  · exact (show Tryd.prog.wantsStandIn 3 = false by kernel_rfl)
theorem card_of (walk : ∀ (zs0 : List CoinD) (ao0 : Option Addr) (c0 : Nat) (t1 : TxD) (ai1 : Option Addr) (ci1 : Nat) (ao1 : Option Addr) (co1 : Nat) (t2 : TxD) (ai2 : Option Addr) (ci2 : Nat) (ao2 : Option Addr) (co2 : Nat) (a3 : Int) (w : World) (_ : rdSl coinR 36 w (.slice ao0 zs0.length c0) zs0) (_ : rdSl inR 34 w (.slice ai1 t1.ins.length ci1) t1.ins) (_ : rdSl outR 2 w (.slice ao1 t1.outs.length co1) t1.outs) (_ : rdSl inR 34 w (.slice ai2 t2.ins.length ci2) t2.ins) (_ : rdSl outR 2 w (.slice ao2 t2.outs.length co2) t2.outs) (_ : (Lit.int .i64 a3).wf = true) (_ : tabAt w),
      Calls Tryd.prog 5 #[.slice ao0 zs0.length c0, .agg #[.slice ai1 t1.ins.length ci1, .slice ao1 t1.outs.length co1, .int .i64 t1.time], .agg #[.slice ai2 t2.ins.length ci2, .slice ao2 t2.outs.length co2, .int .i64 t2.time], .int .i64 a3] w fun e w' => e = .returned (.bool true) ∧ Below w.heap.size w w') : Rows.CoinOrderCardSaid :=
  Claim7.holds_tied_plain_at .later [] _ _ _ _ (said_of walk) (fun _ h => by cases h) (by kernel_rfl) (fun _ h => by cases h) coinOrder_row_tie rfl ⟨rfl, rfl⟩ (by kernel_rfl) rfl plain (by kernel_rfl)
end Go.Proofs.YtljcdkfafknnpaaDoor.coinOrder
namespace Go.Proofs.YtljcdkfafknnpaaDoor.coinOrder
set_option linter.unusedVariables false
set_option linter.unusedSimpArgs false
open Go.Proofs.YtljcdkfafknnpaaDoor
theorem proved : Rows.CoinOrderCardSaid := card_of fun cs ca cc t ai ci ao co u bi di bo eo h w hc hi ho ki ko _ hT => coinOrder_any cs ca cc t ai ci ao co u bi di bo eo h w hc hi ho ki ko hT
#print axioms proved
end Go.Proofs.YtljcdkfafknnpaaDoor.coinOrder
