/- The walk of the law TreePaths. Conditions: none beyond each theorem's own. -/
import Derived.Test.YtamjldakllafcaaDoorRpath
import Derived.Test.YtamjldakllafcaaDoorBndw
import Derived.Test.YtamjldakllafcaaDoorWtel
import Derived.Deep.DeepCutAuto
namespace Go.Proofs.YtamjldakllafcaaDoor
set_option linter.unusedVariables false
set_option linter.unusedSimpArgs false
open Go.RowKit
attribute [local go_sem ↓] run_load_agg run_store_agg run_build_two run_load_any

set_option maxHeartbeats 1000000 in
set_option maxRecDepth 100000 in
theorem digs_same (xs : List (List UInt8)) (h32 : ∀ d ∈ xs, d.length = 32) (v1 v2 : Value) (n : Nat) (w : World) (h1 : rd w v1 n (xs.flatten.map vB)) (h2 : rd w v2 n (xs.flatten.map vB)) (hl : xs.length = n) :
    Calls Tryd.prog 35 #[v1, v2] w fun e w' => e = .returned (.bool true) ∧ Below w.heap.size w w' := by
  have h1' := h1
  obtain ⟨ao, cap, rfl, k1, k2, -⟩ := h1'
  have h2' := h2
  obtain ⟨bo, bcap, rfl, p1, p2, -⟩ := h2'
  unfold maxLen at k2 p2
  have H1 := Lib.hid h1; have H2 := Lib.hid h2; clear h1 h2
  go_enter Tryd.func35, Tryd.ntmps35
  go_wp2_with fail
  go_loopw [5] (fun c wr => ∃ j : Nat, j ≤ n ∧ c = .int .i64 j ∧ Below w.heap.size w wr) (fun c _ => n - (intOf c).toNat)
  case atStart => exact ⟨0, by omega, rfl, Below.refl _ _⟩
  case round =>
    obtain ⟨j, hj, rfl, hB⟩ := hrel
    have B := Lib.hid hB; clear hB
    by_cases hlt : j < n
    · obtain ⟨ag, aoff, rfl, arows⟩ := rd_digest h32 hl H1.out (by omega)
      obtain ⟨bg, boff, rfl, brows⟩ := rd_digest h32 hl H2.out (by omega)
      have arow := arows j hlt
      have brow := brows j hlt
      have hA := getD_len h32 (i := j) (by omega)
      obtain ⟨A, eA⟩ : ∃ A, xs.getD j [] = A := ⟨_, rfl⟩
      rw [eA] at arow brow hA
      have ar1 : rowAt wr ag (aoff + j * 32) 32 = some (dgV A) := by rw [Nat.mul_comm]; exact (rowAt_below B.out (rowAt_lt arow) _ _).trans arow
      have br1 : rowAt wr bg (boff + j * 32) 32 = some (dgV A) := by rw [Nat.mul_comm]; exact (rowAt_below B.out (rowAt_lt brow) _ _).trans brow
      have he := eql_self A hA
      clear arows brows eA arow brow
      go_wp2_with fail
      go_region
      all_goals
        go_wp2
        go_roundw
        case rel => exact ⟨j + 1, by omega, by go_num, B.out.drew⟩
        case measure => simp [intOf]; omega
    · go_wp2
      go_ret
      exact ⟨rfl, B.out⟩
theorem path_full (n : Nat) (ao : Option Addr) (cap : Nat) (i : Int) (w : World) (k1 : n ≤ cap) (k2 : cap ≤ 2 ^ 63 - 1) (hn : 256 < n) :
    Calls Tryd.prog 19 #[.slice ao n cap, .int .i64 i] w fun e w' => e = .returned (.tuple #[.slice none 0 0, .iface 47 (.int .i64 4)]) ∧ w' = w := by
  go_enter Tryd.func19, Tryd.ntmps19
  go_wp2
  go_ret2
  exact ⟨rfl, rfl⟩
theorem path_range (n : Nat) (ao : Option Addr) (cap : Nat) (i : Int) (w : World) (k1 : n ≤ cap) (k2 : cap ≤ 2 ^ 63 - 1) (hn : n ≤ 256) (hi : i < 0 ∨ (n : Int) ≤ i) :
    Calls Tryd.prog 19 #[.slice ao n cap, .int .i64 i] w fun e w' => e = .returned (.tuple #[.slice none 0 0, .iface 47 (.int .i64 2)]) ∧ w' = w := by
  by_cases h : i < 0
  · clear hi
    go_enter Tryd.func19, Tryd.ntmps19
    go_wp2
    go_ret2
    exact ⟨rfl, rfl⟩
  · have h2 : (n : Int) ≤ i := by omega
    clear hi
    go_enter Tryd.func19, Tryd.ntmps19
    go_wp2
    go_ret2
    exact ⟨rfl, rfl⟩
theorem same_told2 (err : Value) (c : Int) (w2 : World) (hE : errAt w2) (he : isErr err c) :
    Calls Tryd.prog 27 #[err, .int .i64 c] w2 fun e w' => e = .returned (.bool true) ∧ Below w2.heap.size w2 w' := by
  rcases he with ⟨rfl, rfl⟩ | rfl
  · refine (same_nil 0 w2).mono ?_
    rintro e w' ⟨rfl, rfl⟩
    exact ⟨rfl, Below.refl _ _⟩
  · refine (same_errno c c w2 hE).mono ?_
    rintro e w' ⟨rfl, hb3⟩
    exact ⟨by simp, hb3⟩
/-- What the first half has made: an answer that tree.Path gives, too. -/
def PathOk (w : World) (v : Value) (i : Int) (c : Int) (want : Value) (wx : World) : Prop :=
  Below w.heap.size w wx ∧ ∃ (k : Nat) (xs : List (List UInt8)), xs.length = k ∧ (∀ d ∈ xs, d.length = 32) ∧ rd wx want k (xs.flatten.map vB) ∧
    ∀ w2, Below wx.heap.size wx w2 → Calls Tryd.prog 19 #[v, .int .i64 i] w2 fun e w' => ∃ p err, e = .returned (.tuple #[p, err]) ∧ isErr err c ∧ rd w' p k (xs.flatten.map vB) ∧ Below w2.heap.size w2 w'
theorem rd_nil (w : World) : rd w (.slice none 0 0) 0 [] := ⟨none, 0, rfl, Nat.le_refl _, Nat.zero_le _, .inl rfl⟩
/-- .. the second half. -/
def FoldOk (w : World) (l : List UInt8) (i n : Int) (v : Value) (c : Int) (D : List UInt8) : Prop :=
  D.length = 32 ∧ ∀ w2, Below w.heap.size w w2 → Calls Tryd.prog 22 #[.agg (dgV l), .int .i64 i, .int .i64 n, v] w2 fun e w' => ∃ err, e = .returned (.tuple #[.agg (dgV D), err]) ∧ isErr err c ∧ Below w2.heap.size w2 w'
set_option maxHeartbeats 8000000 in
set_option maxRecDepth 100000 in
theorem paths_any (ls : List (List UInt8)) (h32 : ∀ d ∈ ls, d.length = 32) (v : Value) (m : Nat) (i : Int) (l : List UInt8) (hld : l.length = 32) (n : Int) (ps : List (List UInt8)) (p32 : ∀ d ∈ ps, d.length = 32) (pv : Value) (pn : Nat) (w : World)
    (hb : rd w v m (ls.flatten.map vB)) (hl : ls.length = m) (hp : rd w pv pn (ps.flatten.map vB)) (hpl : ps.length = pn) (hT : tabAt w) (hE : errAt w) :
    Calls Tryd.prog 11 #[v, .int .i64 i, .agg (dgV l), .int .i64 n, pv] w fun e w' => e = .returned (.bool true) ∧ Below w.heap.size w w' := by
  have hg := rowAt_lt hT
  have hb' := hb
  obtain ⟨ao, cap, rfl, k1, k2, -⟩ := hb'
  have hp' := hp
  obtain ⟨po, pcap, rfl, p1, p2, -⟩ := hp'
  unfold maxLen at k2 p2
  have HT := Lib.hid hT; have HE := Lib.hid hE; have HB := Lib.hid hb; have HP := Lib.hid hp; have HPL := Lib.hid hpl; have HL := Lib.hid hl
  clear hT hE hb hp hpl hl
  have hsl : (dgV l).size = 32 := by rw [dgV_size, hld]
  have hplain : plainCells (dgV l) = true := dgV_plain _
  have hb0 : Hid (Below w.heap.size w (w.alloc (.cells (dgV l) 25))) := (Below.refl _ _).alloc (Nat.le_refl _) _
  have hr0 : Hid (rowAt (w.alloc (.cells (dgV l) 25)) w.heap.size 0 32 = some (dgV l)) := rowAt_whole (heap_alloc_new w (.cells (dgV l) 25)) 32 hsl.symm
  have hs0 : w.heap.size < (w.alloc (.cells (dgV l) 25)).heap.size := by simp
  go_enter Tryd.func11, Tryd.ntmps11
  go_upto_if 21 with fail
  change Code.wp _ _ _ _ (w.alloc (.cells (dgV l) 25))
  generalize w.alloc (.cells (dgV l) 25) = wa at hb0 hr0 hs0 ⊢
  go_cut [11, 12] (fun s11 s12 wx => ∃ c : Int, s11 = .int .i64 c ∧ PathOk wa (.slice ao m cap) i c s12 wx)
  case first =>
    by_cases hn : 256 < m
    · go_wp2_with fail
      go_meet
      exact ⟨4, rfl, Below.refl _ _, 0, [], rfl, by simp, rd_nil _, fun w2 _ => (path_full m ao cap i w2 k1 k2 hn).mono fun e w' ⟨he, hw⟩ => ⟨_, _, he, .inr rfl, rd_nil _, by rw [hw]; exact Below.refl _ _⟩⟩
    by_cases h1 : i < 0
    · go_wp2_with fail
      go_meet
      exact ⟨2, rfl, Below.refl _ _, 0, [], rfl, by simp, rd_nil _, fun w2 _ => (path_range m ao cap i w2 k1 k2 (by omega) (.inl h1)).mono fun e w' ⟨he, hw⟩ => ⟨_, _, he, .inr rfl, rd_nil _, by rw [hw]; exact Below.refl _ _⟩⟩
    by_cases h2 : (m : Int) ≤ i
    · go_wp2_with fail
      go_meet
      exact ⟨2, rfl, Below.refl _ _, 0, [], rfl, by simp, rd_nil _, fun w2 _ => (path_range m ao cap i w2 k1 k2 (by omega) (.inr h2)).mono fun e w' ⟨he, hw⟩ => ⟨_, _, he, .inr rfl, rd_nil _, by rw [hw]; exact Below.refl _ _⟩⟩
    obtain ⟨j, rfl⟩ : ∃ k : Nat, i = k := ⟨i.toNat, by omega⟩
    go_wp2_with fail
    refine (rpath_any m ls h32 _ m j wa (Nat.le_refl _) (rd_belowB HB.out hb0.out (Nat.le_refl _)) HL.out (by omega) (by omega) ((rowAt_below hb0.out hg 0 64).trans HT.out)).mono ?_
    rintro e w2 ⟨p, k, rfl, hop, hk, hb2⟩
    have HOP := Lib.hid (own_rd hop); have HK := Lib.hid hk; have B2 := Lib.hid hb2
    clear hop hk hb2
    go_wp2_with fail
    go_meet
    refine ⟨0, rfl, B2.out, k, (downM ls j).reverse, by rw [List.length_reverse]; exact HK.out.symm, mem_reverse32 (downM_32 m ls j (by rw [HL.out]; exact Nat.le_refl _) (by have := HL.out; omega) h32), HOP.out, fun w3 hb3 => ?_⟩
    have hbb := hb0.out.trans ((B2.out.trans (hb3.mono B2.out.size)).mono hb0.out.size)
    refine (path_any ls h32 _ m j w3 (rd_belowB HB.out hbb (Nat.le_refl _)) HL.out (by omega) (by omega) ((rowAt_below hbb hg 0 64).trans HT.out)).mono ?_
    rintro e w4 ⟨p', k', he, ho, hk', hb4⟩
    have hkk : k' = k := by rw [hk', HK.out]
    subst hkk
    exact ⟨p', _, he, .inl ⟨rfl, rfl⟩, own_rd ho, hb4⟩
  case rest =>
    obtain ⟨c, rfl, hB, k, xs, hxl, hx32, hw, hcall⟩ := hcut
    have B1 := Lib.hid (hb0.out.trans (hB.mono hb0.out.size))
    have hr1 : Hid (rowAt wc w.heap.size 0 32 = some (dgV l)) := (rowAt_below hB hs0 0 32).trans hr0.out
    have hs1 := Nat.lt_of_lt_of_le hs0 hB.size
    have HW := Lib.hid hw; have HC := Lib.hid (hcall wc (Below.refl _ _)); have HX := Lib.hid hx32; have HXL := Lib.hid hxl
    clear hB hw hcall hx32 hxl hb0 hr0 hs0
    go_wp2_with fail
    refine Calls.mono HC.out ?_
    rintro e w2 ⟨p, err, rfl, herr, hpr, hb2⟩
    have B2 := Lib.hid (B1.out.trans (hb2.mono B1.out.size))
    have hr2 : Hid (rowAt w2 w.heap.size 0 32 = some (dgV l)) := (rowAt_below hb2 hs1 0 32).trans hr1.out
    have hs2 := Nat.lt_of_lt_of_le hs1 hb2.size
    have HW2 := Lib.hid (rd_below HW.out hb2); have HPR := Lib.hid hpr; have HERR := Lib.hid herr
    clear hb2 hpr herr HC HW hr1 hs1
    go_wp2_with fail
    refine (same_told2 err c w2 (errAt_below HE.out B2.out (Nat.le_refl _)) HERR.out).mono ?_
    rintro e w3 ⟨rfl, hb3⟩
    have B3 := Lib.hid (B2.out.trans (hb3.mono B2.out.size))
    have hr3 : Hid (rowAt w3 w.heap.size 0 32 = some (dgV l)) := (rowAt_below hb3 hs2 0 32).trans hr2.out
    have hs3 := Nat.lt_of_lt_of_le hs2 hb3.size
    have HW3 := Lib.hid (rd_below HW2.out hb3); have HPR3 := Lib.hid (rd_below HPR.out hb3)
    clear hb3 HW2 HPR hr2 hs2
    go_wp2_with fail
    refine (digs_same xs HX.out p _ k w3 HPR3.out HW3.out HXL.out).mono ?_
    rintro e w4 ⟨rfl, hb4⟩
    have B4 := Lib.hid (B3.out.trans (hb4.mono B3.out.size))
    have hr4 : Hid (rowAt w4 w.heap.size 0 32 = some (dgV l)) := (rowAt_below hb4 hs3 0 32).trans hr3.out
    have hs4 := Nat.lt_of_lt_of_le hs3 hb4.size
    clear hb4 hr3 hs3 HW3 HPR3
    have B5 := Lib.hid (B4.out.alloc B4.out.size (.cells zD 25))
    have hr5 : Hid (rowAt (w4.alloc (.cells zD 25)) w.heap.size 0 32 = some (dgV l)) := by show _ = _; rw [rowAt_alloc_past _ _ _ _ _ hs4]; exact hr4.out
    have hd5 : Hid ((w4.alloc (.cells zD 25)).heap[w4.heap.size]? = some (.cells zD 25 (0, 0))) := heap_alloc_new w4 _
    have hs5 : w4.heap.size + 1 = (w4.alloc (.cells zD 25)).heap.size := by simp
    go_upto_region 15 with fail
    change Code.wp _ _ _ _ (w4.alloc (.cells zD 25))
    obtain ⟨g4, hg4⟩ : ∃ g, w4.heap.size = g := ⟨_, rfl⟩
    rw [hg4] at hd5 hs5 hs4 ⊢
    generalize w4.alloc (.cells zD 25) = w5 at B5 hr5 hd5 hs5 ⊢
    clear hr4 B4 hg4
    go_cut [65] (fun s wx => s = .bool (decide (n < 1 ∨ 256 < n ∨ i < 0 ∨ n ≤ i)) ∧ wx = w5)
    case first =>
      by_cases h1 : n < 1
      · go_wp2_with fail
        go_meet
        exact ⟨congrArg Value.bool (decide_eq_true (p := n < 1 ∨ 256 < n ∨ i < 0 ∨ n ≤ i) (by omega)).symm, rfl⟩
      by_cases h2 : 256 < n
      · go_wp2_with fail
        go_meet
        exact ⟨congrArg Value.bool (decide_eq_true (p := n < 1 ∨ 256 < n ∨ i < 0 ∨ n ≤ i) (by omega)).symm, rfl⟩
      by_cases h3 : i < 0
      · go_wp2_with fail
        go_meet
        exact ⟨congrArg Value.bool (decide_eq_true (p := n < 1 ∨ 256 < n ∨ i < 0 ∨ n ≤ i) (by omega)).symm, rfl⟩
      by_cases h4 : n ≤ i
      · go_wp2_with fail
        go_meet
        exact ⟨congrArg Value.bool (decide_eq_true (p := n < 1 ∨ 256 < n ∨ i < 0 ∨ n ≤ i) (by omega)).symm, rfl⟩
      · go_wp2_with fail
        go_meet
        exact ⟨congrArg Value.bool (decide_eq_false (p := n < 1 ∨ 256 < n ∨ i < 0 ∨ n ≤ i) (by omega)).symm, rfl⟩
    case rest =>
      obtain ⟨rfl, rfl⟩ := hcut
      go_upto_if 65 with fail
      go_cut [11] (fun s wx => ∃ (c : Int) (D : List UInt8), s = .int .i64 c ∧ FoldOk w l i n (.slice po pn pcap) c D ∧ Below w.heap.size w wx ∧ rowAt wx w.heap.size 0 32 = some (dgV l) ∧ wx.heap[g4]? = some (.cells (dgV D) 25 (0, 0)))
      case first =>
        by_cases hbad : n < 1 ∨ 256 < n ∨ i < 0 ∨ n ≤ i
        · have hd : decide (n < 1 ∨ 256 < n ∨ i < 0 ∨ n ≤ i) = true := decide_eq_true hbad
          have HBAD := Lib.hid hbad; clear hbad
          go_wp2_with fail
          go_meet
          exact ⟨2, List.replicate 32 0, rfl, ⟨by simp, fun w2 hb2 => (fold_range l hld i n _ w2 HBAD.out).mono fun e w' ⟨he, hb⟩ => ⟨_, by rw [he, zD_eq], .inr rfl, hb⟩⟩, B5.out, hr5.out, by rw [← zD_eq]; exact hd5.out⟩
        · have hd : decide (n < 1 ∨ 256 < n ∨ i < 0 ∨ n ≤ i) = false := decide_eq_false hbad
          obtain ⟨n', rfl⟩ : ∃ k : Nat, n = k := ⟨n.toNat, by omega⟩
          obtain ⟨i', rfl⟩ : ∃ k : Nat, i = k := ⟨i.toNat, by omega⟩
          have q1 : 1 ≤ n' := by omega
          have q2 : n' ≤ 256 := by omega
          have q3 : i' < n' := by omega
          clear hbad
          have HLG := Lib.hid (rlong_any n' n' i' (Nat.le_refl _) q1 q2 q3 wc)
          obtain ⟨L, hL⟩ : ∃ L, (sidesM i' n').length = L := ⟨_, rfl⟩
          rw [hL] at HLG
          have HLL := Lib.hid hL; clear hL
          go_wp2_with fail
          refine Calls.mono HLG.out ?_
          rintro e w6 ⟨rfl, hb6⟩
          have B6 := Lib.hid (B5.out.trans (hb6.mono B5.out.size))
          have hs6 := hb6.size
          have hr6 : rowAt w6 w.heap.size 0 32 = some (dgV l) := (rowAt_below hb6 (rowAt_lt hr5.out) 0 32).trans hr5.out
          have hd6 : Hid (w6.heap[g4]? = some (.cells zD 25 (0, 0))) := (hb6.block _ (by omega)).trans hd5.out
          clear hb6
          by_cases hlen : pn = L
          · have u1 : ((pn : Int) != (L : Int)) = false := by simp [hlen]
            have HLEN := Lib.hid hlen; clear hlen
            have hm : Hid (pn = (sidesM i' n').length) := by show pn = _; rw [HLL.out, HLEN.out]
            have hDl := foldM_length l (sidesM i' n').reverse ps hld
            have HFC := Lib.hid (rfolded_any n' l hld n' i' _ pn ps p32 w6 (Nat.le_refl _) (rd_belowB HP.out B6.out (Nat.le_refl _)) HPL.out q1 q2 q3 hm.out)
            have HFD : Hid (∀ w2, Below w.heap.size w w2 → Calls Tryd.prog 22 #[.agg (dgV l), .int .i64 i', .int .i64 n', .slice po pn pcap] w2 fun e w' => e = .returned (.tuple #[.agg (dgV (foldM l (sidesM i' n').reverse ps)), .nilIface]) ∧ Below w2.heap.size w2 w') :=
              fun w2 hb2 => fold_any l hld n' i' _ pn ps p32 w2 (rd_belowB HP.out hb2 (Nat.le_refl _)) HPL.out q1 q2 q3 hm.out ((rowAt_below hb2 hg 0 64).trans HT.out)
            obtain ⟨D, hD⟩ : ∃ D, foldM l (sidesM i' n').reverse ps = D := ⟨_, rfl⟩
            rw [hD] at hDl HFC HFD
            clear hD
            go_wp2_with fail
            refine Calls.mono HFC.out ?_
            rintro e w7 ⟨rfl, hb7⟩
            have B7 := Lib.hid (B6.out.trans (hb7.mono B6.out.size))
            have hr7 : Hid (rowAt w7 w.heap.size 0 32 = some (dgV l)) := (rowAt_below hb7 (rowAt_lt hr6) 0 32).trans hr6
            have hd7 : Hid (w7.heap[g4]? = some (.cells zD 25 (0, 0))) := (hb7.block _ (by omega)).trans hd6.out
            have z1 : (rowAt w7 g4 0 32).isSome = true := by rw [rowAt_whole hd7.out 32 rfl]; rfl
            have z2 : wrAt w7 g4 = true := wrAt_of_heap hd7.out
            have z3 : plainCells (dgV D) = true := dgV_plain _
            have z4 : (dgV D).size = 32 := by rw [dgV_size, hDl]
            clear hb7 hr6
            go_wp2_with fail
            go_meet
            refine ⟨0, D, rfl, ⟨hDl, fun w2 hb2 => (HFD.out w2 hb2).mono fun e w' ⟨he, hb⟩ => ⟨_, he, .inl ⟨rfl, rfl⟩, hb⟩⟩, putAt_below B7.out (by omega) _ _, ?_, ?_⟩
            · have e : rowAt (putAt w7 g4 0 (dgV D)) w.heap.size 0 32 = rowAt w7 w.heap.size 0 32 := by unfold rowAt; rw [putAt_other _ _ _ _ _ (by omega)]
              rw [e]; exact hr7.out
            · exact putAt_heap hd7.out _ (by rw [z4]; rfl)
          · have u0 : ¬ ((pn : Int) = (L : Int)) := by omega
            have u1 : ((pn : Int) != (L : Int)) = true := by rw [bne_iff_ne]; exact u0
            have u2 : ((pn : Int) == (L : Int)) = false := beq_false_of_ne u0
            have HLEN := Lib.hid hlen; clear hlen
            go_wp2_with fail
            go_meet
            exact ⟨3, List.replicate 32 0, rfl, ⟨by simp, fun w2 hb2 => (fold_len l hld n' i' po pn pcap w2 p1 (by omega) q1 q2 q3 (by rw [HLL.out]; exact HLEN.out)).mono fun e w' ⟨he, hb⟩ => ⟨_, by rw [he, zD_eq], .inr rfl, hb⟩⟩, B6.out, hr6, by rw [← zD_eq]; exact hd6.out⟩
      case rest =>
        obtain ⟨c2, D, rfl, ⟨hDl, hfold⟩, hB6, hr6, hd6⟩ := hcut
        have HF := Lib.hid (hfold _ hB6); have B6 := Lib.hid hB6; have HD6 := Lib.hid hd6
        have hs6 := (Array.getElem?_eq_some_iff.1 hd6).1
        have hD6 : rowAt wc g4 0 32 = some (dgV D) := rowAt_whole hd6 32 (by rw [dgV_size, hDl])
        clear hfold hB6 hd6
        have hA6 := rowAt_lt hr6
        go_wp2_with fail
        refine Calls.mono HF.out ?_
        rintro e w7 ⟨err2, rfl, her2, hb7⟩
        have B7 := Lib.hid (B6.out.trans (hb7.mono B6.out.size))
        have HER2 := Lib.hid her2
        have hr7 := (rowAt_below hb7 hA6 0 32).trans hr6
        have hD7 := (rowAt_below hb7 hs6 0 32).trans hD6
        have hA7 := Nat.lt_of_lt_of_le hA6 hb7.size
        have hs7 := Nat.lt_of_lt_of_le hs6 hb7.size
        obtain ⟨n1, n2, n3, n4, n5⟩ := new_dig w7 D hDl
        have B8 := Lib.hid (B7.out.alloc B7.out.size (.cells (dgV D) 25))
        have hr8 : rowAt (w7.alloc (.cells (dgV D) 25)) w.heap.size 0 32 = some (dgV l) := by rw [rowAt_alloc_past _ _ _ _ _ hA7]; exact hr7
        have hD8 : rowAt (w7.alloc (.cells (dgV D) 25)) g4 0 32 = some (dgV D) := by rw [rowAt_alloc_past _ _ _ _ _ hs7]; exact hD7
        unfold zD at n1 n2
        clear hb7 her2 hr6 hD6 hr7 hD7
        go_wp2_with fail
        clear n1 n2
        generalize w7.alloc (.cells (dgV D) 25) = w8 at B8 hr8 hD8 n5 ⊢
        refine (same_told2 err2 c2 w8 (errAt_below HE.out B8.out (Nat.le_refl _)) HER2.out).mono ?_
        rintro e w9 ⟨rfl, hb9⟩
        have B9 := Lib.hid (B8.out.trans (hb9.mono B8.out.size))
        have hr9 := (rowAt_below hb9 (rowAt_lt hr8) 0 32).trans hr8
        have hD9 := (rowAt_below hb9 (rowAt_lt hD8) 0 32).trans hD8
        have hE9 := (rowAt_below hb9 (rowAt_lt n5) 0 32).trans n5
        have H9 : Hid (Held3 w w.heap.size g4 w7.heap.size l D D w9) := ⟨B9.out, ⟨rowAt_lt hr9, hr9⟩, ⟨rowAt_lt hD9, hD9⟩, ⟨rowAt_lt hE9, hE9⟩⟩
        have hYl := nodeM_length l D
        have HN1 := Lib.hid (fun (wz : World) (hz : tabAt wz) => node_any l D hld hDl wz hz)
        have HN2 := Lib.hid (rnode_any l D hld hDl)
        obtain ⟨Y, hY⟩ : ∃ Y, nodeM l D = Y := ⟨_, rfl⟩
        rw [hY] at hYl HN1 HN2
        have he1 := eql_self D hDl
        have he2 := eql_self Y hYl
        clear hb9 hr8 hD8 n5 hr9 hD9 hE9 hY
        go_upto_region 22 with fail
        refine wp_region_quiet (C := Held3 w w.heap.size g4 w7.heap.size l D D) (by kernel_rfl) (by kernel_rfl) (H9.out.on (Below.refl _ _).drew) ?_
        iterate 2 quiet_step ((intro _; with_reducible rfl))
        refine wpQuiet_step (fun K hK => ?_)
        rw [if_pos (by rfl)]
        refine quiet_load _ 0 _ rfl (fun w h => h.d.2) (hK _ ?_)
        clear hK K
        refine wpQuiet_step (fun K hK => ?_)
        rw [if_pos (by rfl)]
        refine quiet_load _ 0 _ rfl (fun w h => h.b.2) (hK _ ?_)
        clear hK K
        iterate 3 quiet_step ((intro _; with_reducible rfl))
        refine wpQuiet_step (fun K hK => ?_)
        rw [if_pos (by rfl)]
        refine quiet_load _ 0 _ rfl (fun w h => h.a.2) (hK _ ?_)
        clear hK K
        refine wpQuiet_step (fun K hK => ?_)
        rw [if_pos (by rfl)]
        refine quiet_load _ 0 _ rfl (fun w h => h.d.2) (hK _ ?_)
        clear hK K
        quiet_step ((intro hC; refine (HN1.out _ ((rowAt_below hC.below hg 0 64).trans HT.out)).mono ?_; rintro e w9 ⟨rfl, hb9⟩; exact ⟨rfl, hC.on hb9⟩))
        refine wpQuiet_step (fun K hK => ?_)
        rw [if_pos (by rfl)]
        refine quiet_load _ 0 _ rfl (fun w h => h.a.2) (hK _ ?_)
        clear hK K
        refine wpQuiet_step (fun K hK => ?_)
        rw [if_pos (by rfl)]
        refine quiet_load _ 0 _ rfl (fun w h => h.d.2) (hK _ ?_)
        clear hK K
        quiet_step ((intro hC; refine (HN2.out _).mono ?_; rintro e w9 ⟨rfl, hb9⟩; exact ⟨rfl, hC.on hb9⟩))
        iterate 3 quiet_step ((intro _; with_reducible rfl))
        refine wpQuiet_nil ?_
        intro w10 hw10
        have B10 := Lib.hid hw10.below
        clear hw10
        go_wp2
        go_ret
        exact ⟨by simp, B10.out⟩
end Go.Proofs.YtamjldakllafcaaDoor
