/- The walk of moneyerlaw2.CoinTells. Conditions: none beyond each theorem's own. -/
import Derived.Test.YtljcdkfafknnpaaDoorSame
import Derived.Test.YtljcdkfafknnpaaDoorWorth
import Derived.Test.YtljcdkfafknnpaaDoorTold
namespace Go.Proofs.YtljcdkfafknnpaaDoor
set_option linter.unusedVariables false
set_option linter.unusedSimpArgs false
open Go.RowKit
attribute [local go_sem ↓] run_load_agg run_store_agg run_load_any run_build_coin

theorem told_same (c d : Int) (w : World) (hE : errAt w) : Calls Tryd.prog 18 #[errV c, .int .i64 d] w fun e w' => e = .returned (.bool (decide (c = d))) ∧ Below w.heap.size w w' := by
  by_cases h : c = 0
  · subst h
    rw [errV_0]
    refine (same_nil d w).mono ?_
    rintro e w' ⟨rfl, rfl⟩
    exact ⟨rfl, Below.refl _ _⟩
  · rw [errV_ne h]
    exact same_errno c d w hE
theorem plC_one : plC ⟨List.replicate 32 0, 1⟩ ⟨List.replicate 32 0, 0⟩ = 1 := by decide +kernel
theorem atF_cases (p : PlaceD) : ∀ (cs : List CoinD) (j : Nat), atF p cs j = -1 ∨ ∃ i, i < cs.length ∧ atF p cs j = ((j + i : Nat) : Int)
  | [], j => .inl rfl
  | c :: cs, j => by
    unfold atF
    split
    · exact .inr ⟨0, by simp, rfl⟩
    · rcases atF_cases p cs (j + 1) with h | ⟨i, h1, h2⟩
      · exact .inl h
      · exact .inr ⟨i + 1, by simp; omega, by rw [h2]; congr 1; omega⟩
theorem told_eq (c : Int) (w : World) (hE : errAt w) : Calls Tryd.prog 18 #[errV c, .int .i64 c] w fun e w' => e = .returned (.bool true) ∧ Below w.heap.size w w' := by
  have := told_same c c w hE
  rwa [decide_eq_true (rfl : c = c)] at this
set_option maxHeartbeats 4000000 in
set_option maxRecDepth 100000 in
theorem ctel_any (p q : PlaceD) (hp : p.tx.length = 32) (hq : q.tx.length = 32) (cs : List CoinD) (ao : Option Addr) (cap : Nat) (w : World) (h : rdSl coinR 36 w (.slice ao cs.length cap) cs) (hE : errAt w) :
    Calls Tryd.prog 4 #[.agg (plV p), .agg (plV q), .slice ao cs.length cap] w fun e w' => e = .returned (.bool true) ∧ Below w.heap.size w w' := by
  obtain ⟨_, _, e, hcap, hmax⟩ := sl_bounds h
  cases e
  unfold maxLen at hmax
  have HS := Lib.hid h; have HE := Lib.hid hE
  clear h hE
  have hsp : (plV p).size = 33 := plV_size p hp
  have hsq : (plV q).size = 33 := plV_size q hq
  have hpp := plV_plain p
  have hpq := plV_plain q
  go_enter Tryd.func4, Tryd.ntmps4
  go_upto_region 1 with fail
  have B0 : Hid (Below w.heap.size w ((w.alloc (.cells (plV p) 35)).alloc (.cells (plV q) 35))) := ((Below.refl _ _).alloc (Nat.le_refl _) _).alloc (by simp) _
  have ha : rowAt ((w.alloc (.cells (plV p) 35)).alloc (.cells (plV q) 35)) w.heap.size 0 33 = some (plV p) := by
    rw [rowAt_alloc_past _ _ _ _ _ (by simp)]; exact rowAt_whole (heap_alloc_new w (.cells (plV p) 35)) 33 hsp.symm
  have hb : rowAt ((w.alloc (.cells (plV p) 35)).alloc (.cells (plV q) 35)) (w.heap.size + 1) 0 33 = some (plV q) := by
    have := heap_alloc_new (w.alloc (.cells (plV p) 35)) (.cells (plV q) 35)
    rw [show (w.alloc (.cells (plV p) 35)).heap.size = w.heap.size + 1 from by simp] at this
    exact rowAt_whole this 33 hsq.symm
  change Code.wp _ _ _ _ ((w.alloc (.cells (plV p) 35)).alloc (.cells (plV q) 35))
  generalize (w.alloc (.cells (plV p) 35)).alloc (.cells (plV q) 35) = wa at B0 ha hb ⊢
  have HH : Hid (HeldP w w.heap.size 0 (w.heap.size + 1) 0 p q wa) := ⟨B0.out, ha, hb⟩
  have H1 : Hid (∀ W, Calls Tryd.prog 15 #[.agg (plV p), .agg (plV q)] W fun e w' => e = .returned (.int .i64 (plC p q)) ∧ Below W.heap.size W w') := Lib.hid (compare_any p q hp hq)
  have H2 : Hid (∀ W, Calls Tryd.prog 16 #[.agg (plV p), .agg (plV q)] W fun e w' => e = .returned (.int .i64 (plC p q)) ∧ Below W.heap.size W w') := Lib.hid (places_any p q hp hq)
  obtain ⟨k, hk⟩ : ∃ k, plC p q = k := ⟨_, rfl⟩
  rw [hk] at H1 H2
  have H3 : Hid (∀ W, Calls Tryd.prog 15 #[.agg (plV ⟨List.replicate 32 0, 1⟩), .agg (plV ⟨List.replicate 32 0, 0⟩)] W fun e w' => e = .returned (.int .i64 1) ∧ Below W.heap.size W w') := Lib.hid fun W => by
    have := compare_any ⟨List.replicate 32 0, 1⟩ ⟨List.replicate 32 0, 0⟩ (by simp) (by simp) W
    rwa [plC_one] at this
  clear ha hb hk
  refine wp_region_quiet (C := HeldP w w.heap.size 0 (w.heap.size + 1) 0 p q) (by kernel_rfl) (by kernel_rfl) (HH.out.on (Below.refl _ _).drew) ?_
  iterate 2
    refine wpQuiet_step (fun K hK => ?_)
    rw [if_pos (by rfl)]
    first | refine quiet_loadP w.heap.size 0 _ rfl (fun w h => h.a) (hK _ ?_) | refine quiet_loadP (w.heap.size + 1) 0 _ rfl (fun w h => h.b) (hK _ ?_)
    clear hK K
  quiet_step ((intro hC; refine (H1.out _).mono ?_; rintro e w9 ⟨rfl, hb9⟩; exact ⟨rfl, hC.on hb9⟩))
  iterate 2
    refine wpQuiet_step (fun K hK => ?_)
    rw [if_pos (by rfl)]
    first | refine quiet_loadP w.heap.size 0 _ rfl (fun w h => h.a) (hK _ ?_) | refine quiet_loadP (w.heap.size + 1) 0 _ rfl (fun w h => h.b) (hK _ ?_)
    clear hK K
  quiet_step ((intro hC; refine (H2.out _).mono ?_; rintro e w9 ⟨rfl, hb9⟩; exact ⟨rfl, hC.on hb9⟩))
  iterate 4 quiet_step ((intro _; with_reducible rfl))
  quiet_step ((intro hC; refine (H3.out _).mono ?_; rintro e w9 ⟨rfl, hb9⟩; exact ⟨rfl, hC.on hb9⟩))
  iterate 2 quiet_step ((intro _; with_reducible rfl))
  refine wpQuiet_nil ?_
  intro w1 hw1
  have HH1 := Lib.hid hw1
  clear hw1
  clear H1 H2 H3 HH B0
  have HSB : Hid (∀ W, HeldP w w.heap.size 0 (w.heap.size + 1) 0 p q W → rdSl coinR 36 W (.slice ao cs.length cap) cs) := Lib.hid fun W hW => coinR_stays.slB HS.out hW.below (Nat.le_refl _)
  have HEB : Hid (∀ W, HeldP w w.heap.size 0 (w.heap.size + 1) 0 p q W → errAt W) := Lib.hid fun W hW => errAt_below HE.out hW.below (Nat.le_refl _)
  have HF : Hid (∀ W, HeldP w w.heap.size 0 (w.heap.size + 1) 0 p q W → Calls Tryd.prog 17 #[.slice ao cs.length cap] W fun e w' => e = .returned (.int .i64 (setF cs)) ∧ Below W.heap.size W w') := Lib.hid fun W hW => setFault_any cs ao cap W (HSB.out W hW)
  have HC : Hid (∀ W, HeldP w w.heap.size 0 (w.heap.size + 1) 0 p q W → Calls Tryd.prog 19 #[.slice ao cs.length cap] W fun e w' => e = .returned (errV (setF cs)) ∧ Below W.heap.size W w') := Lib.hid fun W hW => coinCheck_any cs ao cap W (HSB.out W hW)
  have HM : Hid (∀ W, HeldP w w.heap.size 0 (w.heap.size + 1) 0 p q W → Calls Tryd.prog 21 #[.slice ao cs.length cap] W fun e w' => e = .returned (.tuple #[.int .i64 (sumV cs), errV (sumE cs)]) ∧ Below W.heap.size W w') := Lib.hid fun W hW => coinSum_any cs ao cap W (HSB.out W hW)
  have HN : Hid (∀ W, HeldP w w.heap.size 0 (w.heap.size + 1) 0 p q W → Calls Tryd.prog 23 #[.slice ao cs.length cap, .agg (plV p)] W (FindPost cs p W)) := Lib.hid fun W hW => cFind_any cs ao cap p hp W (HSB.out W hW)
  by_cases hz : setF cs = 0
  · skip
    have hs1 : sumV cs = totV (amounts cs) := by unfold sumV; rw [if_pos hz]
    have hs2 : sumE cs = totC 0 (amounts cs) := by unfold sumE; rw [if_pos hz]
    have hlen := setF_small cs hz
    have HW : Hid (∀ W, HeldP w w.heap.size 0 (w.heap.size + 1) 0 p q W → Calls Tryd.prog 20 #[.slice ao cs.length cap] W fun e w' => e = .returned (.tuple #[.int .i64 (totV (amounts cs)), .int .i64 (totC 0 (amounts cs))]) ∧ Below W.heap.size W w') := Lib.hid fun W hW => worthOf_any cs ao cap W (HSB.out W hW) hlen
    have HA : Hid (∀ W, HeldP w w.heap.size 0 (w.heap.size + 1) 0 p q W → Calls Tryd.prog 22 #[.slice ao cs.length cap, .agg (plV p)] W fun e w' => e = .returned (.int .i64 (atF p cs 0)) ∧ Below W.heap.size W w') := Lib.hid fun W hW => coinAt_any cs ao cap p hp W (HSB.out W hW)
    rw [hs1, hs2] at HM
    rw [hz] at HF HC
    clear hs1 hs2 hlen
    have HZ := Lib.hid hz
    clear hz
    obtain ⟨V, hV⟩ : ∃ V, totV (amounts cs) = V := ⟨_, rfl⟩
    obtain ⟨T, hT⟩ : ∃ T, totC 0 (amounts cs) = T := ⟨_, rfl⟩
    rw [hV, hT] at HM HW
    clear hV hT
    go_wp2_with fail
    refine (HF.out _ HH1.out).mono ?_
    rintro e w2 ⟨rfl, hb⟩
    have HH2 := Lib.hid (HH1.out.on hb)
    clear hb HH1
    go_wp2_with fail
    refine (HC.out _ HH2.out).mono ?_
    rintro e w3 ⟨rfl, hb⟩
    have HH3 := Lib.hid (HH2.out.on hb)
    clear hb HH2
    go_wp2_with fail
    refine (told_eq 0 _ (HEB.out _ HH3.out)).mono ?_
    rintro e w4 ⟨rfl, hb⟩
    have HH4 := Lib.hid (HH3.out.on hb)
    clear hb HH3
    go_wp2_with fail
    refine (HW.out _ HH4.out).mono ?_
    rintro e w4' ⟨rfl, hb⟩
    have HH4' := Lib.hid (HH4.out.on hb)
    clear hb HH4
    go_wp2_with fail
    refine (HM.out _ HH4'.out).mono ?_
    rintro e w5 ⟨rfl, hb⟩
    have HH5 := Lib.hid (HH4'.out.on hb)
    clear hb HH4'
    go_wp2_with fail
    refine (told_eq T _ (HEB.out _ HH5.out)).mono ?_
    rintro e w6 ⟨rfl, hb⟩
    have HH6 := Lib.hid (HH5.out.on hb)
    clear hb HH5
    have hr := HH6.out.a
    go_wp2_with fail
    refine (HA.out _ HH6.out).mono ?_
    rintro e w6' ⟨rfl, hb⟩
    have HH6' := Lib.hid (HH6.out.on hb)
    clear hb HH6 hr
    have hr := HH6'.out.a
    rcases atF_cases p cs 0 with hat | ⟨i, hi, hat⟩
    · rw [hat]
      go_wp2_with fail
      refine (HN.out _ HH6'.out).mono ?_
      rintro e w7 ⟨hb, hfp⟩
      have HH7 := Lib.hid (HH6'.out.on hb)
      have hfe : e = .returned (.tuple #[.agg zCoin, errV 5]) := by
        rcases hfp with ⟨h0, -⟩ | ⟨-, -, rfl⟩ | ⟨_, _, _, _, -, h0, -⟩
        · exact absurd HZ.out h0
        · rfl
        · rw [hat] at h0; omega
      subst hfe
      clear hfp hb HH6' hr hat
      obtain ⟨n1, n2, -, -⟩ := new_coin w7 ⟨List.replicate 32 0, 0, 0, [], 0⟩ none 0 0 (by simp)
      unfold zCoin at n1 n2
      obtain ⟨D, hD⟩ : ∃ D, zCoin = D := ⟨_, rfl⟩
      have n3 : plainCells D = true := by rw [← hD]; rfl
      have n4 : D.size = 36 := by rw [← hD]; rfl
      have HD33 : Hid (D[33]? = some (.int .i64 0)) := Lib.hid (by rw [← hD]; rfl)
      rw [hD]
      clear hD
      go_wp2_with fail
      have HH8 := Lib.hid (HH7.out.on ((Below.refl w7.heap.size w7).alloc (Nat.le_refl _) (.cells D 59)))
      have hn := heap_alloc_new w7 (.cells D 59)
      have hsz : (w7.alloc (.cells D 59)).heap.size = w7.heap.size + 1 := by simp
      clear n1 n2 n3 n4
      change Calls _ _ _ (w7.alloc (.cells D 59)) _
      generalize w7.alloc (.cells D 59) = w8 at HH8 hn hsz ⊢
      refine (told_eq 5 _ (HEB.out _ HH8.out)).mono ?_
      rintro e w9 ⟨rfl, hb⟩
      have HH9 := Lib.hid (HH8.out.on hb)
      have h33 : w9.cell? ⟨w7.heap.size, 33, none⟩ = some (.int .i64 0) := by
        rw [cell_of_row _ _ _ _ _ _ ((hb.block _ (by omega)).trans hn)]; exact HD33.out
      clear hb hn hsz HH8
      go_wp2
      go_ret
      exact ⟨rfl, HH9.out.below⟩
    · rw [Nat.zero_add] at hat
      rw [hat]
      obtain ⟨g, off, -, -, rfl, -, -, -, -, -, -⟩ := coin_at HS.out i hi
      go_wp2_with fail
      refine (HN.out _ HH6'.out).mono ?_
      rintro e w7 ⟨hb, hfp⟩
      have HH7 := Lib.hid (HH6'.out.on hb)
      obtain ⟨so, scap, hfe, hlk⟩ : ∃ so scap, e = .returned (.tuple #[.agg (coinV cs[i] (.slice so cs[i].lock.length scap)), errV 0]) ∧ rdSl opR 3 w7 (.slice so cs[i].lock.length scap) cs[i].lock := by
        rcases hfp with ⟨h0, -⟩ | ⟨-, h0, -⟩ | ⟨i', hi', so, scap, -, h0, he, hl⟩
        · exact absurd HZ.out h0
        · rw [hat] at h0; omega
        · have : i' = i := by rw [hat] at h0; omega
          subst this
          exact ⟨so, scap, he, hl⟩
      subst hfe
      have h32 : cs[i].tx.length = 32 := by
        obtain ⟨_, _, _, _, _, _, h32, -⟩ := coin_at HS.out i hi
        exact h32
      obtain ⟨C, hC⟩ : ∃ C, cs[i] = C := ⟨_, rfl⟩
      rw [hC] at hlk h32
      have hone : Hid (∀ W, HeldP w w.heap.size 0 (w.heap.size + 1) 0 p q W → rdSl coinR 36 W (.slice (some ⟨g, off + i * 36, none⟩) 1 (cap - i)) [C]) := Lib.hid fun W hW => by
        have := rdSl_one (HSB.out W hW) (by decide) i hi
        rwa [hC] at this
      have HLK := Lib.hid hlk
      rw [hC]
      clear hfp hb HH6' hr hat hlk hC
      obtain ⟨n1, n2, n3, n4⟩ := new_coin w7 C so C.lock.length scap h32
      unfold zCoin at n1 n2
      obtain ⟨D, hD⟩ : ∃ D, coinV C (.slice so C.lock.length scap) = D := ⟨_, rfl⟩
      rw [hD] at n3 n4 ⊢
      go_wp2_with fail
      have HH8 := Lib.hid (HH7.out.on ((Below.refl w7.heap.size w7).alloc (Nat.le_refl _) (.cells D 59)))
      have hn := heap_alloc_new w7 (.cells D 59)
      have hsz : (w7.alloc (.cells D 59)).heap.size = w7.heap.size + 1 := by simp
      have HL8 := Lib.hid (opR_stays.sl (fun k hk => Below.heap_alloc w7 (.cells D 59) k hk) HLK.out)
      clear n1 n2
      change Calls _ _ _ (w7.alloc (.cells D 59)) _
      generalize w7.alloc (.cells D 59) = w8 at HH8 hn hsz HL8 ⊢
      refine (told_eq 0 _ (HEB.out _ HH8.out)).mono ?_
      rintro e w9 ⟨rfl, hb⟩
      have HH9 := Lib.hid (HH8.out.on hb)
      have hr9 : rowAt w9 w7.heap.size 0 36 = some D := rowAt_whole ((hb.block _ (by omega)).trans hn) 36 n4.symm
      have HL9 := Lib.hid (opR_stays.slB HL8.out hb (Nat.le_refl _))
      clear hb hn hsz HH8 HL8
      go_wp2_with fail
      change Calls _ _ _ (w9.alloc (.cells D 59)) _
      have HH10 := Lib.hid (HH9.out.on ((Below.refl w9.heap.size w9).alloc (Nat.le_refl _) (.cells D 59)))
      have HL10 := opR_stays.sl (fun k hk => Below.heap_alloc w9 (.cells D 59) k hk) HL9.out
      have hcs : rdSl coinR 36 (w9.alloc (.cells D 59)) (.slice (some ⟨w9.heap.size, 0, none⟩) 1 1) [C] := by
        refine ⟨D.toList, rd_new_row w9 D 59 _ rfl, by simp [n4], fun j a ha => ?_⟩
        have hj0 : j = 0 := by
          have := (List.getElem?_eq_some_iff.1 ha).1
          simp at this; omega
        subst hj0
        have hz : C = a := by simpa using ha
        subst hz
        rw [Nat.zero_mul, List.drop_zero, List.take_of_length_le (by simp [n4]), ← hD, coinV_list]
        exact ⟨_, rfl, h32, by rw [hD]; exact HL10⟩
      refine (coins_same [C] _ _ 1 1 _ _ hcs (hone.out _ HH10.out) rfl).mono ?_
      rintro e w11 ⟨rfl, hb⟩
      have HH11 := Lib.hid (HH10.out.on hb.below)
      clear hb hcs HL10
      go_wp2
      go_ret
      exact ⟨rfl, HH11.out.below⟩
  · obtain ⟨c, hc⟩ : ∃ c, setF cs = c := ⟨_, rfl⟩
    have hs1 : sumV cs = 0 := by unfold sumV; rw [if_neg hz]
    have hs2 : sumE cs = c := by unfold sumE; rw [if_neg hz, hc]
    rw [hc] at hz HF HC
    rw [hs1, hs2] at HM
    have HCC := Lib.hid hc
    clear hs1 hs2 hc
    go_wp2_with fail
    refine (HF.out _ HH1.out).mono ?_
    rintro e w2 ⟨rfl, hb⟩
    have HH2 := Lib.hid (HH1.out.on hb)
    clear hb HH1
    go_wp2_with fail
    refine (HC.out _ HH2.out).mono ?_
    rintro e w3 ⟨rfl, hb⟩
    have HH3 := Lib.hid (HH2.out.on hb)
    clear hb HH2
    go_wp2_with fail
    refine (told_eq c _ (HEB.out _ HH3.out)).mono ?_
    rintro e w4 ⟨rfl, hb⟩
    have HH4 := Lib.hid (HH3.out.on hb)
    clear hb HH3
    go_wp2_with fail
    refine (HM.out _ HH4.out).mono ?_
    rintro e w5 ⟨rfl, hb⟩
    have HH5 := Lib.hid (HH4.out.on hb)
    clear hb HH4
    go_wp2_with fail
    refine (told_eq c _ (HEB.out _ HH5.out)).mono ?_
    rintro e w6 ⟨rfl, hb⟩
    have HH6 := Lib.hid (HH5.out.on hb)
    clear hb HH5
    have hr := HH6.out.a
    go_wp2_with fail
    refine (HN.out _ HH6.out).mono ?_
    rintro e w7 ⟨hb, hfp⟩
    have HH7 := Lib.hid (HH6.out.on hb)
    have hfe : e = .returned (.tuple #[.agg zCoin, errV c]) := by
      rcases hfp with ⟨-, rfl⟩ | ⟨h0, -⟩ | ⟨_, _, _, _, h0, -⟩
      · rw [HCC.out]
      · exact absurd (HCC.out.symm.trans h0) hz
      · exact absurd (HCC.out.symm.trans h0) hz
    subst hfe
    clear hfp hb HH6 hr
    obtain ⟨n1, n2, -, -⟩ := new_coin w7 ⟨List.replicate 32 0, 0, 0, [], 0⟩ none 0 0 (by simp)
    unfold zCoin at n1 n2
    obtain ⟨D, hD⟩ : ∃ D, zCoin = D := ⟨_, rfl⟩
    have n3 : plainCells D = true := by rw [← hD]; rfl
    have n4 : D.size = 36 := by rw [← hD]; rfl
    have HD33 : Hid (D[33]? = some (.int .i64 0)) := Lib.hid (by rw [← hD]; rfl)
    rw [hD]
    clear hD
    go_wp2_with fail
    have HH8 := Lib.hid (HH7.out.on ((Below.refl w7.heap.size w7).alloc (Nat.le_refl _) (.cells D 59)))
    have hn := heap_alloc_new w7 (.cells D 59)
    have hsz : (w7.alloc (.cells D 59)).heap.size = w7.heap.size + 1 := by simp
    clear n1 n2 n3 n4
    change Calls _ _ _ (w7.alloc (.cells D 59)) _
    generalize w7.alloc (.cells D 59) = w8 at HH8 hn hsz ⊢
    refine (told_eq c _ (HEB.out _ HH8.out)).mono ?_
    rintro e w9 ⟨rfl, hb⟩
    have HH9 := Lib.hid (HH8.out.on hb)
    have h33 : w9.cell? ⟨w7.heap.size, 33, none⟩ = some (.int .i64 0) := by
      rw [cell_of_row _ _ _ _ _ _ ((hb.block _ (by omega)).trans hn)]; exact HD33.out
    clear hb hn hsz HH8
    go_wp2
    go_ret
    exact ⟨rfl, HH9.out.below⟩
end Go.Proofs.YtljcdkfafknnpaaDoor
