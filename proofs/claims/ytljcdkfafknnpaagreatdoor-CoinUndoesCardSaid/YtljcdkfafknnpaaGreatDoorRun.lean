/- Merged: Run. Conditions: none beyond each theorem's own. -/
import Derived.Test.YtljcdkfafknnpaaGreatDoorRap
import Derived.Test.YtljcdkfafknnpaaGreatDoorSmo
import Derived.Test.YtljcdkfafknnpaaGreatDoorMe
namespace Go.Proofs.YtljcdkfafknnpaaGreatDoor
set_option linter.unusedVariables false
set_option linter.unusedSimpArgs false
open Go.RowKit
attribute [local go_sem ↓] run_load_agg run_store_agg run_load_any run_build_coin

def RUndPost (cs : List CoinD) (t : TxD) (sp : List CoinD) (w : World) (e : Ending) (w' : World) : Prop :=
  Below w.heap.size w w' ∧ ((undoE cs t sp ≠ 0 ∧ e = .returned (.tuple #[.slice none 0 0, .int .i64 (undoE cs t sp)])) ∨
    (undoE cs t sp = 0 ∧ ∃ v, e = .returned (.tuple #[v, .int .i64 0]) ∧ rdSl coinR 36 w' v (undoS cs t sp)))
theorem rundPost_no {cs : List CoinD} {t : TxD} {sp : List CoinD} {w w' : World} {e : Ending} (f : Int) (hf : undoE cs t sp = f) (hz : f ≠ 0) (hb : Below w.heap.size w w') (he : e = .returned (.tuple #[.slice none 0 0, .int .i64 f])) : RUndPost cs t sp w e w' :=
  ⟨hb, .inl ⟨by rw [hf]; exact hz, by rw [hf]; exact he⟩⟩
theorem rundPost_yes {cs : List CoinD} {t : TxD} {sp : List CoinD} {w w' : World} {e : Ending} (v : Value) (hf : undoE cs t sp = 0) (hb : Below w.heap.size w w') (he : e = .returned (.tuple #[v, .int .i64 0])) (h1 : rdSl coinR 36 w' v (undoS cs t sp)) : RUndPost cs t sp w e w' :=
  ⟨hb, .inr ⟨hf, v, he, h1⟩⟩
theorem oneB_none {cs : List CoinD} {n : CoinD} (h : atP cs n.place = false) : oneB cs n = false := by unfold oneB; rw [getC_none h]
theorem oneB_some {cs : List CoinD} {n c : CoinD} (h : getC cs n.place = some c) : oneB cs n = outE c.amount c.lock n.amount n.lock := by unfold oneB; rw [h]
set_option maxHeartbeats 16000000 in
set_option maxRecDepth 100000 in
theorem rundone_any (cs : List CoinD) (t : TxD) (sp : List CoinD) (ca ai ao sa : Option Addr) (cc ci co sc : Nat) (w : World) (hc : rdSl coinR 36 w (.slice ca cs.length cc) cs) (hi : rdSl inR 34 w (.slice ai t.ins.length ci) t.ins) (ho : rdSl outR 2 w (.slice ao t.outs.length co) t.outs) (hs : rdSl coinR 36 w (.slice sa sp.length sc) sp) :
    Calls Tryz.prog 26 #[.slice ca cs.length cc, .agg #[.slice ai t.ins.length ci, .slice ao t.outs.length co, .int .i64 t.time], .slice sa sp.length sc] w (RUndPost cs t sp w) := by
  obtain ⟨n1, n2, n3⟩ := new_tx w ai ao t.ins.length t.outs.length ci co t.time
  have k0 := (Kept.refl w).alloc (txV t ai ao ci co) 59
  unfold zTx at n1 n2
  obtain ⟨_, _, e, i1, i2⟩ := sl_bounds hi
  cases e
  obtain ⟨_, _, e, k1, k2⟩ := sl_bounds hc
  cases e
  obtain ⟨_, _, e, q1, q2⟩ := sl_bounds hs
  cases e
  unfold maxLen at i2 k2 q2
  have HC := Lib.hid hc; have HI := Lib.hid hi; have HO := Lib.hid ho; have HSP := Lib.hid hs
  have K0 := Lib.hid k0
  clear hc hi ho k0 hs
  go_enter Tryz.func26, Tryz.ntmps26
  go_upto_region 1 with fail
  clear n1 n2 n3
  change Code.wp _ _ _ _ (w.alloc (.cells (txV t ai ao ci co) 59))
  obtain ⟨G, hG⟩ : ∃ G, w.heap.size = G := ⟨_, rfl⟩
  have K0' : Hid (∃ w0, w.alloc (.cells (txV t ai ao ci co) 59) = w0 ∧ Kept w [(G, txV t ai ao ci co, 59)] w0) := Lib.hid ⟨_, rfl, by rw [← hG]; exact K0.out⟩
  rw [hG] at ⊢
  clear hG K0
  obtain ⟨w0, hw0, k0⟩ := K0'.out
  rw [hw0]
  have K0 := Lib.hid k0
  clear hw0 k0 K0'
  go_wp2_with fail
  refine (setFault_any cs ca cc w0 (coinR_stays.slB HC.out K0.out.below (Nat.le_refl _))).mono ?_
  rintro e w1 ⟨rfl, hb⟩
  have K1 := Lib.hid (K0.out.on hb)
  clear hb
  obtain ⟨f, hf⟩ : ∃ f, setF cs = f := ⟨_, rfl⟩
  have HFF := Lib.hid hf
  rw [hf]
  clear hf
  by_cases hz : f = 0
  rotate_left
  · have HE : Hid (undoE cs t sp = f) := Lib.hid (by unfold undoE; have : chkF cs t = f := (by unfold chkF; rw [HFF.out, if_neg hz]); rw [if_pos (by rw [this]; exact hz), this])
    have HNZ : Hid (f ≠ 0) := Lib.hid hz
    have x1 : (f == 0) = false := by simp; exact hz
    have x2 : (f != 0) = true := bne_iff_ne.2 hz
    clear hz
    go_wp2
    go_ret2
    exact rundPost_no f HE.out HNZ.out K1.out.below rfl
  subst hz
  have HSF := Lib.hid HFF.out
  clear HFF
  have r3 : rowAt w1 G 0 3 = some #[.slice ai t.ins.length ci, .slice ao t.outs.length co, .int .i64 t.time] := K1.out.row 0 _ 3 rfl rfl
  go_wp2_with fail
  refine (txFault_any t ai ao ci co w1 (inR_stays.slB HI.out K1.out.below (Nat.le_refl _)) (outR_stays.slB HO.out K1.out.below (Nat.le_refl _))).mono ?_
  rintro e w2 ⟨rfl, hb⟩
  have K2 := Lib.hid (K1.out.on hb)
  clear hb r3
  obtain ⟨f, hf⟩ : ∃ f, txF t = f := ⟨_, rfl⟩
  have HFF := Lib.hid hf
  rw [hf]
  clear hf
  have HCK : Hid (chkF cs t = f) := Lib.hid (by unfold chkF; rw [if_pos HSF.out, HFF.out])
  by_cases hz : f = 0
  rotate_left
  · have HE : Hid (undoE cs t sp = f) := Lib.hid (by unfold undoE; rw [if_pos (by rw [HCK.out]; exact hz), HCK.out])
    have HNZ : Hid (f ≠ 0) := Lib.hid hz
    have x1 : (f == 0) = false := by simp; exact hz
    have x2 : (f != 0) = true := bne_iff_ne.2 hz
    clear hz
    go_wp2
    go_ret2
    exact rundPost_no f HE.out HNZ.out K2.out.below rfl
  subst hz
  have HTF := Lib.hid HFF.out
  clear HFF
  have HE1 : Hid (∀ f, (if madeB cs (newsT t 0) = false then 5
      else if sp.length ≠ t.ins.length then 3
      else backE (lessC cs (newsT t 0)) t.ins sp) = f → undoE cs t sp = f) := Lib.hid fun f hf => by unfold undoE; rw [if_neg (by rw [HCK.out]; simp)]; exact hf
  have hcl := (setF_zero cs HSF.out).1
  have hil := (txOk_of HTF.out).ins
  have hol := (txOk_of HTF.out).outs
  have H32 := Lib.hid (all32_of HC.out)
  have HSO := Lib.hid (sorted_of cs H32.out HSF.out)
  have hnl : (newsT t 0).length = t.outs.length := newsC_length _ _ _ _
  have HNL := Lib.hid hnl
  clear hnl
  have r3 : rowAt w2 G 0 3 = some #[.slice ai t.ins.length ci, .slice ao t.outs.length co, .int .i64 t.time] := K2.out.row 0 _ 3 rfl rfl
  go_wp2_with fail
  refine (news_any t ai ao ci co 0 w w2 K2.out.below HI.out HO.out HTF.out).mono ?_
  rintro e w4 ⟨nv, rfl, hns⟩
  have HN4 := Lib.hid (hns.from_ K2.out (Below.refl _ _))
  obtain ⟨na, ncap, rfl, m1, m2⟩ := hns.val
  unfold maxLen at m2
  obtain ⟨news, hnw⟩ : ∃ news, newsT t 0 = news := ⟨_, rfl⟩
  have HNW := Lib.hid hnw
  rw [hnw] at HN4 HE1 m1 HNL ⊢
  clear hns r3 hnw
  have hnl2 : news.length ≤ 40 := by have := HNL.out; omega
  go_wp2_with fail
  go_loopw [10] (fun c wr => ∃ j : Nat, j ≤ news.length ∧ c = .int .i64 j ∧ Hid (Sel w w [(G, txV t ai ao ci co, 59)] (.slice na news.length ncap) news wr) ∧ Hid (∀ n ∈ news.take j, oneB cs n = true)) (fun c _ => news.length - (intOf c).toNat)
  case atStart => exact ⟨0, by omega, rfl, HN4, Lib.hid (fun n hn => by simp at hn)⟩
  case round =>
    obtain ⟨j, hj, rfl, HN, HA⟩ := hrel
    by_cases hlt : j < news.length
    · obtain ⟨g, off, so, scap, rfl, -, h32, d1, d2, hlk, hrow⟩ := coin_at HN.out.rd j hlt
      have HTK : Hid (news.take (j + 1) = news.take j ++ [news[j]]) := Lib.hid (List.take_succ_eq_append_getElem hlt)
      have HMEM := Lib.hid (List.getElem_mem hlt)
      obtain ⟨n, hn⟩ : ∃ n, news[j] = n := ⟨_, rfl⟩
      rw [hn] at h32 d1 hlk hrow HTK HMEM
      have HLK := Lib.hid hlk
      have hpl := coin_place hrow h32
      have hp32 : n.place.tx.length = 32 := h32
      have HRN := Lib.hid (coin_out hrow h32)
      have hgl := rowAt_lt HRN.out
      clear hn hlk hrow
      go_wp2_with fail
      refine (coinAt_any cs ca cc n.place hp32 _ (coinR_stays.slB HC.out HN.out.kept.below (Nat.le_refl _))).mono ?_
      rintro e w8 ⟨rfl, hb⟩
      have HN8 := Lib.hid (HN.out.on hb)
      have HLK8 := Lib.hid (opR_stays.slB HLK.out hb (Nat.le_refl _))
      have HR2 : Hid (rowAt w8 g (off + j * 36 + 33) 2 = some #[.int .i64 n.amount, .slice so n.lock.length scap]) := Lib.hid ((rowAt_below hb hgl _ _).trans HRN.out)
      have HNG := Lib.hid (atF_neg n.place cs)
      have HCN := Lib.hid (atF_coin n.place cs 0)
      obtain ⟨k, hk⟩ : ∃ k, atF n.place cs 0 = k := ⟨_, rfl⟩
      rw [hk] at HNG HCN ⊢
      clear hk hb hpl HLK HRN hgl
      by_cases hkn : k < 0
      · have HE5 : Hid (undoE cs t sp = 5) := Lib.hid (HE1.out 5 (by rw [if_pos (madeB_no HMEM.out (oneB_none (HNG.out.1 hkn)))]))
        have f1 : decide (k < 0) = true := decide_eq_true hkn
        go_wp2_with fail
        go_region
        all_goals
          go_wp2
          go_ret2
          exact rundPost_no 5 HE5.out (by decide) HN8.out.kept.drew.below rfl
      · obtain ⟨i, hic, hke, hpe⟩ := HCN.out (by omega)
        rw [Nat.zero_add] at hke
        subst hke
        have HGC := Lib.hid (getC_of ((sorted_iff cs).1 HSO.out) (List.getElem_mem hic) hpe)
        obtain ⟨g2, off2, so2, scap2, rfl, -, h322, -, -, hlk2, hrow2⟩ := coin_at (coinR_stays.slB HC.out HN8.out.kept.below (Nat.le_refl _)) i hic
        obtain ⟨c, hcc⟩ : ∃ c, cs[i]'hic = c := ⟨_, rfl⟩
        simp only [hcc] at h322 hlk2 hrow2 HGC
        have HONE := Lib.hid (oneB_some HGC.out)
        have HLK2 := Lib.hid hlk2
        have HR1 := Lib.hid (coin_out hrow2 h322)
        have hgl2 := Lib.hid (rowAt_lt hrow2)
        have hgl3 := Lib.hid (rowAt_lt HR2.out)
        have HB8 := Lib.hid ((Below.refl w8.heap.size w8).drew)
        have f1 : decide ((i : Int) < 0) = false := decide_eq_false (by omega)
        clear hcc hlk2 hrow2 hpe
        go_wp2_with fail
        go_region_held3 (fun w' => rowAt w' g2 (off2 + i * 36 + 33) 2 = some #[.int .i64 c.amount, .slice so2 c.lock.length scap2] ∧ rowAt w' g (off + j * 36 + 33) 2 = some #[.int .i64 n.amount, .slice so n.lock.length scap])
          (exact ⟨(rowAt_below HB8.out hgl2.out _ _).trans HR1.out, (rowAt_below HB8.out hgl3.out _ _).trans HR2.out⟩)
          (first
            | (go_at_call 63
               refine (sameOut_any c.amount n.amount c.lock n.lock so2 so scap2 scap _ (opR_stays.slB HLK2.out HB8.out (Nat.le_refl _)) (opR_stays.slB HLK8.out HB8.out (Nat.le_refl _))).mono ?_
               rintro e w' ⟨rfl, hd⟩
               replace HB8 := Lib.hid (HB8.out.trans (hd.mono HB8.out.size))
               clear hd))
        obtain ⟨b, hb⟩ : ∃ b, outE c.amount c.lock n.amount n.lock = b := ⟨_, rfl⟩
        rw [hb] at HONE ⊢
        have HN9 := Lib.hid (HN8.out.on HB8.out)
        clear hb HB8 HR1 HR2 HLK2 hgl2 hgl3 HLK8 HN8
        cases b
        · have HE5 : Hid (undoE cs t sp = 5) := Lib.hid (HE1.out 5 (by rw [if_pos (madeB_no HMEM.out HONE.out)]))
          go_wp2
          go_ret2
          exact rundPost_no 5 HE5.out (by decide) HN9.out.kept.below rfl
        · have HA2 : Hid (∀ m ∈ news.take (j + 1), oneB cs m = true) := Lib.hid (by
            intro m hm
            rw [HTK.out, List.mem_append, List.mem_singleton] at hm
            rcases hm with hm | rfl
            · exact HA.out m hm
            · exact HONE.out)
          go_wp2_with fail
          go_roundw
          case rel => exact ⟨j + 1, by omega, by go_num, HN9, HA2⟩
          case measure => simp [intOf]; omega
    have HMB : Hid (madeB cs news = true) := Lib.hid (madeB_yes fun n hn => HA.out n (by rw [List.take_of_length_le (by omega)]; exact hn))
    have HE2 : Hid (∀ f, (if sp.length ≠ t.ins.length then 3
      else backE (lessC cs news) t.ins sp) = f → undoE cs t sp = f) := Lib.hid fun f hf => HE1.out f (by rw [if_neg (by rw [HMB.out]; decide)]; exact hf)
    have c0 : wr.cell? ⟨G, 0, none⟩ = some (.slice ai t.ins.length ci) := HN.out.kept.cell 0 0 _ _ rfl rfl
    clear HMB HE1 HA
    by_cases hsl : sp.length = t.ins.length
    rotate_left
    · have HE3 : Hid (undoE cs t sp = 3) := Lib.hid (HE2.out 3 (by rw [if_pos hsl]))
      have x1 : ((sp.length : Int) != (t.ins.length : Int)) = true := bne_iff_ne.2 (by omega)
      clear hsl
      go_wp2
      go_ret2
      exact rundPost_no 3 HE3.out (by decide) HN.out.kept.below rfl
    have HEB : Hid (undoE cs t sp = backE (lessC cs news) t.ins sp) := Lib.hid (HE2.out _ (by rw [if_neg (by omega)]))
    have x1 : ((sp.length : Int) != (t.ins.length : Int)) = false := by rw [hsl]; simp
    have hsp40 : sp.length ≤ 40 := by omega
    have HSL := Lib.hid hsl
    clear HE2 hsl
    go_wp2_with fail
    refine (less_any cs news ca na cc ncap w wr HN.out.kept.below (rdc_of HC.out HN.out.kept.below) HN.out.rd (by omega)).mono ?_
    rintro e w8 ⟨lv, rfl, hls⟩
    have HL8 := Lib.hid (hls.from_ HN.out.kept (Below.refl _ _))
    have hlc := lessC_length cs news
    clear hls c0 x1
    obtain ⟨L, hL⟩ : ∃ L, lessC cs news = L := ⟨_, rfl⟩
    have HLL := Lib.hid hL
    rw [hL] at HL8 HEB hlc
    clear hL
    go_wp2_with fail
    go_loopw [12, 13] (fun s c ws => ∃ (j : Nat) (v : Value) (S : List CoinD), j ≤ sp.length ∧ v = s ∧ c = .int .i64 j ∧ Hid (Sel w w [(G, txV t ai ao ci co, 59)] v S ws) ∧ Hid (undoE cs t sp = backE S (t.ins.drop j) (sp.drop j)) ∧ Hid (withC L (sp.take j) = S) ∧ S.length ≤ 1000 + j) (fun _ c _ => sp.length - (intOf c).toNat)
    case atStart => exact ⟨0, _, L, by omega, rfl, rfl, HL8, HEB, Lib.hid rfl, by omega⟩
    case round =>
      obtain ⟨j, v, S, hj, rfl, rfl, HS, HEE, HW, hSl⟩ := hrel
      obtain ⟨va, vcap, rfl, s1, s2⟩ := HS.out.val
      unfold maxLen at s2
      have c0 : wr.cell? ⟨G, 0, none⟩ = some (.slice ai t.ins.length ci) := HS.out.kept.cell 0 0 _ _ rfl rfl
      by_cases hlt : j < sp.length
      · have hlt2 : j < t.ins.length := by have := HSL.out; omega
        have HONE1 := Lib.hid (rdc_of HSP.out HS.out.kept.below)
        obtain ⟨g, off, so, scap, rfl, -, h32, d1, d2, -, hrow⟩ := coin_at (coinR_stays.slB HSP.out HS.out.kept.below (Nat.le_refl _)) j hlt
        obtain ⟨g2, off2, so2, scap2, rfl, -, h322, -, hrow20⟩ := in_at HI.out j hlt2
        have hrow2 : rowAt wr g2 (off2 + j * 34) 34 = some (inV t.ins[j] (.slice so2 t.ins[j].keys.length scap2)) := (rowAt_below HS.out.kept.below (rowAt_lt hrow20) _ _).trans hrow20
        have HSN := Lib.hid (rdSl_one HONE1.out (by decide) j hlt)
        have HBA := Lib.hid (backE_at S t.ins sp j hlt2 hlt)
        have HTK : Hid (sp.take (j + 1) = sp.take j ++ [sp[j]]) := Lib.hid (List.take_succ_eq_append_getElem hlt)
        have hpl := coin_place hrow h32
        have hpx := in_place hrow2 h322
        obtain ⟨n, hn⟩ : ∃ n, sp[j] = n := ⟨_, rfl⟩
        obtain ⟨x, hx⟩ : ∃ x, t.ins[j] = x := ⟨_, rfl⟩
        rw [hn] at h32 hpl HSN HBA HTK
        rw [hx] at h322 hpx HBA
        have hp32 : n.place.tx.length = 32 := h32
        have hx32 : x.place.tx.length = 32 := h322
        have he := run_eql_place n.place x.place hp32 hx32
        have HPL := Lib.hid hpl
        have hgl := rowAt_lt hpl
        obtain ⟨b, hb⟩ : ∃ b, plE n.place x.place = b := ⟨_, rfl⟩
        rw [hb] at he HBA
        clear hn hx hrow hrow2 hrow20 HONE1 hb
        cases b
        · have HE11 : Hid (undoE cs t sp = 11) := Lib.hid (by rw [HEE.out, HBA.out, if_pos rfl])
          go_wp2_with fail
          go_region
          all_goals
            go_wp2
            go_ret2
            exact rundPost_no 11 HE11.out (by decide) HS.out.kept.drew.below rfl
        · go_wp2_with fail
          go_region
          all_goals
            clear he hpx c0
            have HSD := Lib.hid HS.out.drew
            have hpl : rowAt wr.drew g (off + j * 36) 33 = some (plV n.place) := HPL.out
            go_wp2_with fail
            refine (coinAt_any S va vcap n.place hp32 _ HSD.out.rd).mono ?_
            rintro e w8 ⟨rfl, hb⟩
            have HS8 := Lib.hid (HSD.out.on hb)
            have HNG := Lib.hid (atF_neg n.place S)
            have HSN8 := Lib.hid (rdc_on HSN.out ((Below.refl wr.heap.size wr).drew.trans hb))
            obtain ⟨k, hk⟩ : ∃ k, atF n.place S 0 = k := ⟨_, rfl⟩
            rw [hk] at HNG ⊢
            clear hk hb hpl HSD HSN HS
            by_cases hkn : k < 0
            · have hk2 : decide (0 ≤ k) = false := decide_eq_false (by omega)
              have HEN : Hid (undoE cs t sp = backE (mergeC S [n]) (t.ins.drop (j + 1)) (sp.drop (j + 1))) := Lib.hid (by
                rw [HEE.out, HBA.out, if_neg (by decide), if_neg (by rw [HNG.out.1 hkn]; decide), merge_one])
              have HWN : Hid (withC L (sp.take (j + 1)) = mergeC S [n]) := Lib.hid (by rw [HTK.out, withC_snoc, HW.out, merge_one])
              have hml : (mergeC S [n]).length ≤ 1000 + (j + 1) := by rw [merge_one, (insC_perm n S).length_eq]; simp only [List.length_cons]; omega
              have HMG := Lib.hid (merged_any S [n] va (some ⟨g, off + j * 36, none⟩) vcap (sc - j) w w8 HS8.out.kept.below HS8.out.rdc HSN8.out (by simp only [List.length_cons, List.length_nil]; omega))
              rw [show ([n] : List CoinD).length = 1 from rfl] at HMG
              go_wp2_with fail
              refine Calls.mono HMG.out ?_
              rintro e w9 ⟨mv, rfl, hms⟩
              have HM9 := Lib.hid (hms.from_ HS8.out.kept (Below.refl _ _))
              clear hms HMG
              go_wp2_with fail
              go_roundw
              case rel => exact ⟨j + 1, _, mergeC S [n], by omega, rfl, by go_num, HM9, HEN, HWN, hml⟩
              case measure => simp [intOf]; omega
            · have hk2 : decide (0 ≤ k) = true := decide_eq_true (by omega)
              have hk3 : 0 ≤ k := by omega
              have HE6 : Hid (undoE cs t sp = 6) := Lib.hid (by
                rw [HEE.out, HBA.out, if_neg (by decide), if_pos]
                cases hb : atP S n.place with
                | true => rfl
                | false => exact absurd (HNG.out.2 hb) hkn)
              go_wp2
              go_ret2
              exact rundPost_no 6 HE6.out (by decide) HS8.out.kept.below rfl
      · have HUF : Hid (undoE cs t sp = setF S) := Lib.hid (by rw [HEE.out]; exact backE_end S t.ins sp j (by omega))
        have HSW : Hid (undoS cs t sp = S) := Lib.hid (by unfold undoS; rw [HNW.out, HLL.out, ← HW.out, List.take_of_length_le (show sp.length ≤ j by omega)])
        go_wp2_with fail
        refine (setFault_any S va vcap wr HS.out.rd).mono ?_
        rintro e w7 ⟨rfl, hb⟩
        have HS7 := Lib.hid (HS.out.on hb)
        clear hb c0
        obtain ⟨f, hf⟩ : ∃ f, setF S = f := ⟨_, rfl⟩
        rw [hf] at HUF ⊢
        clear hf
        by_cases hz : f = 0
        · subst hz
          go_wp2
          go_ret2
          exact rundPost_yes _ HUF.out HS7.out.kept.below rfl (by rw [HSW.out]; exact HS7.out.rd)
        · have HNZ := Lib.hid hz
          have x2 : (f != 0) = true := bne_iff_ne.2 hz
          clear hz
          go_wp2
          go_ret2
          exact rundPost_no f HUF.out HNZ.out HS7.out.kept.below rfl
end Go.Proofs.YtljcdkfafknnpaaGreatDoor
