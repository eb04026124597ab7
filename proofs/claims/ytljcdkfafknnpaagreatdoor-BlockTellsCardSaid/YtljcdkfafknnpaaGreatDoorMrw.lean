/- Merged: Mrw. Conditions: none beyond each theorem's own. -/
import Derived.Test.YtljcdkfafknnpaaGreatDoorLss
import Derived.Test.YtljcdkfafknnpaaGreatDoorMa
namespace Go.Proofs.YtljcdkfafknnpaaGreatDoor
set_option linter.unusedVariables false
set_option linter.unusedSimpArgs false
open Go.RowKit
attribute [local go_sem ↓] run_load_agg run_store_agg run_load_any run_build_coin

/-- The worlds of a region that reads two places and calls. -/
structure HeldPP (w0 : World) (A a : Nat) (p : PlaceD) (B b : Nat) (q : PlaceD) (w : World) : Prop where
  below : Below w0.heap.size w0 w
  a : rowAt w A a 33 = some (plV p)
  b : rowAt w B b 33 = some (plV q)
theorem HeldPP.on {w0 : World} {A a : Nat} {p : PlaceD} {B b : Nat} {q : PlaceD} {w w' : World} (h : HeldPP w0 A a p B b q w) (hb : Below w.heap.size w w') : HeldPP w0 A a p B b q w' :=
  ⟨h.below.trans (hb.mono h.below.size), (rowAt_below hb (rowAt_lt h.a) _ _).trans h.a, (rowAt_below hb (rowAt_lt h.b) _ _).trans h.b⟩
set_option maxHeartbeats 8000000 in
set_option maxRecDepth 100000 in
theorem merged_any (us bs : List CoinD) (ca cb : Option Addr) (cc cd : Nat) (wl w : World) (hl : Below wl.heap.size wl w) (ha : rdSl (constR coinR wl) 36 w (.slice ca us.length cc) us) (hb : rdSl (constR coinR wl) 36 w (.slice cb bs.length cd) bs) (hn : us.length + bs.length ≤ 100000) :
    Calls Tryz.prog 53 #[.slice ca us.length cc, .slice cb bs.length cd] w (SelPost wl (mergeC us bs) w) := by
  obtain ⟨_, _, e, k1, k2⟩ := sl_bounds ha
  cases e
  obtain ⟨_, _, e, q1, q2⟩ := sl_bounds hb
  cases e
  unfold maxLen at k2 q2
  have HL := Lib.hid hl; have HA := Lib.hid ha; have HB := Lib.hid hb
  clear hl ha hb
  go_enter Tryz.func53, Tryz.ntmps53
  go_wp2_with fail
  go_loopw [5, 6, 7] (fun s c d wr => ∃ (i j : Nat) (v : Value) (S : List CoinD), i ≤ us.length ∧ j ≤ bs.length ∧ v = s ∧ c = .int .i64 i ∧ d = .int .i64 j ∧ Hid (Sel wl w [] v S wr) ∧ Hid (mergeC us bs = S ++ mergeC (us.drop i) (bs.drop j)) ∧ S.length ≤ i + j) (fun _ c d _ => (us.length - (intOf c).toNat) + (bs.length - (intOf d).toNat))
  case atStart => exact ⟨0, 0, _, [], by omega, by omega, rfl, rfl, rfl, Lib.hid (Sel.nil (Kept.refl w) HL.out), Lib.hid rfl, by simp⟩
  case round =>
    obtain ⟨i, j, v, S, hi0, hj0, rfl, rfl, rfl, HS, HM, hSl⟩ := hrel
    by_cases hi : i < us.length
    · by_cases hj : j < bs.length
      · have HLO := Lib.hid (merge_at_lo us bs i j hi)
        have HHI := Lib.hid (merge_at_hi us bs i j hj)
        obtain ⟨ga, offa, soa, scapa, rfl, -, h32a, -, -, hlocka, hrowa⟩ := coin_atL HA.out i hi
        have hra : rowAt wr ga (offa + i * 36) 36 = some (coinV us[i] (.slice soa us[i].lock.length scapa)) := (rowAt_below HS.out.kept.below (rowAt_lt hrowa) _ _).trans hrowa
        obtain ⟨ya1, ya2, hza⟩ := coin_cells h32a hlocka
        have hpa := coin_place hra h32a
        obtain ⟨gb, offb, sob, scapb, rfl, -, h32b, -, -, hlockb, hrowb⟩ := coin_atL HB.out j hj
        have hrb : rowAt wr gb (offb + j * 36) 36 = some (coinV bs[j] (.slice sob bs[j].lock.length scapb)) := (rowAt_below HS.out.kept.below (rowAt_lt hrowb) _ _).trans hrowb
        obtain ⟨yb1, yb2, hzb⟩ := coin_cells h32b hlockb
        have hpb := coin_place hrb h32b
        have HNL : Hid (plC us[i].place bs[j].place < 0 → mergeC us bs = (S ++ [us[i]]) ++ mergeC (us.drop (i + 1)) (bs.drop j)) := Lib.hid fun h => by rw [HM.out, HLO.out (fun _ => h), List.append_assoc]; rfl
        have HNH : Hid (¬ plC us[i].place bs[j].place < 0 → mergeC us bs = (S ++ [bs[j]]) ++ mergeC (us.drop i) (bs.drop (j + 1))) := Lib.hid fun h => by rw [HM.out, HHI.out (fun _ => h), List.append_assoc]; rfl
        clear HLO HHI
        obtain ⟨xa, hxa⟩ : ∃ x, us[i] = x := ⟨_, rfl⟩
        simp only [hxa] at h32a hra ya1 ya2 hza hpa HNL HNH
        obtain ⟨Va, hVa⟩ : ∃ V, coinV xa (.slice soa xa.lock.length scapa) = V := ⟨_, rfl⟩
        rw [hVa] at hra ya1 ya2 hza
        have HVa1 := Lib.hid ya1; have HVa2 := Lib.hid ya2; have HRa := Lib.hid hra
        clear hxa hVa hrowa hlocka ya1 ya2
        obtain ⟨xb, hxb⟩ : ∃ x, bs[j] = x := ⟨_, rfl⟩
        simp only [hxb] at h32b hrb yb1 yb2 hzb hpb HNL HNH
        obtain ⟨Vb, hVb⟩ : ∃ V, coinV xb (.slice sob xb.lock.length scapb) = V := ⟨_, rfl⟩
        rw [hVb] at hrb yb1 yb2 hzb
        have HVb1 := Lib.hid yb1; have HVb2 := Lib.hid yb2; have HRb := Lib.hid hrb
        clear hxb hVb hrowb hlockb yb1 yb2
        have ha32 : xa.place.tx.length = 32 := h32a
        have hb32 : xb.place.tx.length = 32 := h32b
        have HH : Hid (HeldPP wr ga (offa + i * 36) xa.place gb (offb + j * 36) xb.place wr.drew) := Lib.hid ⟨(Below.refl _ _).drew, hpa, hpb⟩
        have hgla := rowAt_lt hra; have hglb := rowAt_lt hrb
        have f1 : ((j : Int) == (bs.length : Int)) = false := by simp; omega
        have f2 : ¬ ((j : Int) = (bs.length : Int)) := by omega
        have f3 : decide (i < us.length) = true := decide_eq_true hi
        clear hpa hpb hra hrb HM
        go_wp2_with fail
        refine wp_region_quiet (C := HeldPP wr ga (offa + i * 36) xa.place gb (offb + j * 36) xb.place) (by kernel_rfl) (by kernel_rfl) HH.out ?_
        iterate 14 quiet_step ((intro _; with_reducible rfl))
        refine wpQuiet_step (fun K hK => ?_)
        rw [if_pos (by rfl)]
        refine quiet_loadP ga (offa + i * 36) _ rfl (fun w h => h.a) (hK _ ?_)
        clear hK K
        iterate 4 quiet_step ((intro _; with_reducible rfl))
        refine wpQuiet_step (fun K hK => ?_)
        rw [if_pos (by rfl)]
        refine quiet_loadP gb (offb + j * 36) _ rfl (fun w h => h.b) (hK _ ?_)
        clear hK K
        obtain ⟨k, hk⟩ : ∃ k, plC xa.place xb.place = k := ⟨_, rfl⟩
        have HK := Lib.hid hk
        rw [hk] at HNL HNH
        clear hk
        by_cases hk0 : k < 0
        · have HNX := Lib.hid (HNL.out hk0)
          quiet_step ((intro hC; refine (places_any xa.place xb.place ha32 hb32 _).mono ?_; rintro e w9 ⟨rfl, hb9⟩; rw [HK.out]; exact ⟨rfl, hC.on hb9⟩))
          iterate 3 quiet_step ((intro _; with_reducible rfl))
          refine wpQuiet_nil ?_
          intro w3 hw3
          have HH3 := Lib.hid hw3
          have HS1 := Lib.hid (HS.out.on HH3.out.below)
          have hra : rowAt w3 ga (offa + i * 36) 36 = some Va := (rowAt_below HH3.out.below hgla _ _).trans HRa.out
          clear hw3 HNL HNH hgla hglb
          have HS2 := Lib.hid ((HS1.out.alloc Va 105).tail)
          go_wp2_with (at_builtin; refine wpList_sel rfl (.tmp 42) (.tmp 47) rfl xa Va HS2.out rfl rfl (rd_new_row _ Va 105 _ rfl) HVa1.out HVa2.out hza (by omega) ?_)
          intro va vcap w3 HS3
          clear HS2
          go_wp2_with fail
          go_roundw
          case rel => exact ⟨i + 1, j, _, S ++ [xa], by omega, by omega, rfl, by go_num, rfl, HS3, HNX, by simp only [List.length_append, List.length_cons, List.length_nil]; omega⟩
          case measure => simp [intOf]; omega
        · have HNX := Lib.hid (HNH.out (by omega))
          quiet_step ((intro hC; refine (places_any xa.place xb.place ha32 hb32 _).mono ?_; rintro e w9 ⟨rfl, hb9⟩; rw [HK.out]; exact ⟨rfl, hC.on hb9⟩))
          iterate 3 quiet_step ((intro _; with_reducible rfl))
          refine wpQuiet_nil ?_
          intro w3 hw3
          have HH3 := Lib.hid hw3
          have HS1 := Lib.hid (HS.out.on HH3.out.below)
          have hrb : rowAt w3 gb (offb + j * 36) 36 = some Vb := (rowAt_below HH3.out.below hglb _ _).trans HRb.out
          clear hw3 HNL HNH hgla hglb
          have HS2 := Lib.hid ((HS1.out.alloc Vb 105).tail)
          go_wp2_with (at_builtin; refine wpList_sel rfl (.tmp 51) (.tmp 56) rfl xb Vb HS2.out rfl rfl (rd_new_row _ Vb 105 _ rfl) HVb1.out HVb2.out hzb (by omega) ?_)
          intro va vcap w3 HS3
          clear HS2
          go_wp2_with fail
          go_roundw
          case rel => exact ⟨i, j + 1, _, S ++ [xb], by omega, by omega, rfl, rfl, by go_num, HS3, HNX, by simp only [List.length_append, List.length_cons, List.length_nil]; omega⟩
          case measure => simp [intOf]; omega
      · have HLO := Lib.hid (merge_at_lo us bs i j hi (fun h => absurd h hj))
        obtain ⟨ga, offa, soa, scapa, rfl, -, h32a, -, -, hlocka, hrowa⟩ := coin_atL HA.out i hi
        have hra : rowAt wr ga (offa + i * 36) 36 = some (coinV us[i] (.slice soa us[i].lock.length scapa)) := (rowAt_below HS.out.kept.below (rowAt_lt hrowa) _ _).trans hrowa
        obtain ⟨ya1, ya2, hza⟩ := coin_cells h32a hlocka
        have hpa := coin_place hra h32a
        have HNL : Hid (mergeC us bs = (S ++ [us[i]]) ++ mergeC (us.drop (i + 1)) (bs.drop j)) := Lib.hid (by rw [HM.out, HLO.out, List.append_assoc]; rfl)
        clear HLO
        obtain ⟨xa, hxa⟩ : ∃ x, us[i] = x := ⟨_, rfl⟩
        simp only [hxa] at h32a hra ya1 ya2 hza hpa HNL
        obtain ⟨Va, hVa⟩ : ∃ V, coinV xa (.slice soa xa.lock.length scapa) = V := ⟨_, rfl⟩
        rw [hVa] at hra ya1 ya2 hza
        have HVa1 := Lib.hid ya1; have HVa2 := Lib.hid ya2; have HRa := Lib.hid hra
        clear hxa hVa hrowa hlocka ya1 ya2
        have HNX := Lib.hid HNL.out
        have hgla := rowAt_lt hra
        clear hpa hra HM HNL
        have f1 : ((j : Int) == (bs.length : Int)) = true := by simp; omega
        go_wp2_with fail
        go_region
        all_goals
          have HS1 := Lib.hid HS.out.drew
          have hra : rowAt wr.drew ga (offa + i * 36) 36 = some Va := HRa.out
          have HS2 := Lib.hid ((HS1.out.alloc Va 105).tail)
          go_wp2_with (at_builtin; refine wpList_sel rfl (.tmp 42) (.tmp 47) rfl xa Va HS2.out rfl rfl (rd_new_row _ Va 105 _ rfl) HVa1.out HVa2.out hza (by omega) ?_)
          intro va vcap w3 HS3
          clear HS2
          go_wp2_with fail
          go_roundw
          case rel => exact ⟨i + 1, j, _, S ++ [xa], by omega, by omega, rfl, by go_num, rfl, HS3, HNX, by simp only [List.length_append, List.length_cons, List.length_nil]; omega⟩
          case measure => simp [intOf]; omega
    · by_cases hj : j < bs.length
      · have HHI := Lib.hid (merge_at_hi us bs i j hj (fun h => absurd h hi))
        obtain ⟨gb, offb, sob, scapb, rfl, -, h32b, -, -, hlockb, hrowb⟩ := coin_atL HB.out j hj
        have hrb : rowAt wr gb (offb + j * 36) 36 = some (coinV bs[j] (.slice sob bs[j].lock.length scapb)) := (rowAt_below HS.out.kept.below (rowAt_lt hrowb) _ _).trans hrowb
        obtain ⟨yb1, yb2, hzb⟩ := coin_cells h32b hlockb
        have hpb := coin_place hrb h32b
        have HNH : Hid (mergeC us bs = (S ++ [bs[j]]) ++ mergeC (us.drop i) (bs.drop (j + 1))) := Lib.hid (by rw [HM.out, HHI.out, List.append_assoc]; rfl)
        clear HHI
        obtain ⟨xb, hxb⟩ : ∃ x, bs[j] = x := ⟨_, rfl⟩
        simp only [hxb] at h32b hrb yb1 yb2 hzb hpb HNH
        obtain ⟨Vb, hVb⟩ : ∃ V, coinV xb (.slice sob xb.lock.length scapb) = V := ⟨_, rfl⟩
        rw [hVb] at hrb yb1 yb2 hzb
        have HVb1 := Lib.hid yb1; have HVb2 := Lib.hid yb2; have HRb := Lib.hid hrb
        clear hxb hVb hrowb hlockb yb1 yb2
        have HNX := Lib.hid HNH.out
        have hglb := rowAt_lt hrb
        have f1 : ((j : Int) == (bs.length : Int)) = false := by simp; omega
        have f2 : ¬ ((j : Int) = (bs.length : Int)) := by omega
        have f3 : decide (i < us.length) = false := decide_eq_false hi
        clear hpb hrb HM HNH
        go_wp2_with fail
        go_region
        all_goals
          have HS1 := Lib.hid HS.out.drew
          have hrb : rowAt wr.drew gb (offb + j * 36) 36 = some Vb := HRb.out
          have HS2 := Lib.hid ((HS1.out.alloc Vb 105).tail)
          go_wp2_with (at_builtin; refine wpList_sel rfl (.tmp 51) (.tmp 56) rfl xb Vb HS2.out rfl rfl (rd_new_row _ Vb 105 _ rfl) HVb1.out HVb2.out hzb (by omega) ?_)
          intro va vcap w3 HS3
          clear HS2
          go_wp2_with fail
          go_roundw
          case rel => exact ⟨i, j + 1, _, S ++ [xb], by omega, by omega, rfl, rfl, by go_num, HS3, HNX, by simp only [List.length_append, List.length_cons, List.length_nil]; omega⟩
          case measure => simp [intOf]; omega
      · have HE : Hid (mergeC us bs = S) := Lib.hid (by
          rw [HM.out, List.drop_eq_nil_of_le (show us.length ≤ i by omega), List.drop_eq_nil_of_le (show bs.length ≤ j by omega), mergeC_nil, List.append_nil])
        go_wp2
        go_ret
        exact selPost_mk _ rfl (by rw [HE.out]; exact HS.out)
end Go.Proofs.YtljcdkfafknnpaaGreatDoor
