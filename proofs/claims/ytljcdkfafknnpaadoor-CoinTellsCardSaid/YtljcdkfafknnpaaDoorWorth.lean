/- The walks of coin.Sum and the reference's WorthOf. Conditions: none beyond each theorem's own. -/
import Derived.Test.YtljcdkfafknnpaaDoorTot
namespace Go.Proofs.YtljcdkfafknnpaaDoor
set_option linter.unusedVariables false
set_option linter.unusedSimpArgs false
open Go.RowKit
attribute [local go_sem ↓] run_load_agg run_store_agg run_load_any

def amounts (cs : List CoinD) : List Int := cs.map CoinD.amount
theorem amounts_take (cs : List CoinD) (j : Nat) (hj : j < cs.length) : (amounts (cs.take (j + 1))).map iV64 = (amounts (cs.take j)).map iV64 ++ [.int .i64 cs[j].amount] := by
  unfold amounts
  rw [List.take_succ_eq_append_getElem hj, List.map_append, List.map_append]
  rfl
set_option maxHeartbeats 2000000 in
set_option maxRecDepth 100000 in
theorem worthOf_any (cs : List CoinD) (ao : Option Addr) (cap : Nat) (w : World) (h : rdSl coinR 36 w (.slice ao cs.length cap) cs) (hn : cs.length ≤ 1000) :
    Calls Tryd.prog 20 #[.slice ao cs.length cap] w fun e w' => e = .returned (.tuple #[.int .i64 (totV (amounts cs)), .int .i64 (totC 0 (amounts cs))]) ∧ Below w.heap.size w w' := by
  obtain ⟨_, _, e, hcap, hmax⟩ := sl_bounds h
  cases e
  unfold maxLen at hmax
  have HS := Lib.hid h; clear h
  obtain ⟨i0, hi0, hz0, hz1, hz2⟩ := info_parts' info_int
  go_enter Tryd.func20, Tryd.ntmps20
  go_wp2_with fail
  go_loopw [4, 5] (fun v c wr => ∃ j : Nat, j ≤ cs.length ∧ c = .int .i64 j ∧ Hid (own wr w.heap.size 3 1 v j ((amounts (cs.take j)).map iV64)) ∧ Hid (Below w.heap.size w wr)) (fun _ c _ => cs.length - (intOf c).toNat)
  case atStart => exact ⟨0, by omega, rfl, Lib.hid (own_nil _ _ _ _), Lib.hid (Below.refl _ _)⟩
  case round =>
    obtain ⟨j, hj, rfl, HO, HB⟩ := hrel
    have ho' := HO.out
    obtain ⟨-, oo, ocap, rfl, o1, o2, -⟩ := ho'
    unfold maxLen at o2
    by_cases hlt : j < cs.length
    · obtain ⟨g, off, so, scap, rfl, -, h32, d1, d2, hlock, hrow⟩ := coin_at (coinR_stays.slB HS.out HB.out (Nat.le_refl _)) j hlt
      have c1 : wr.cell? ⟨g, off + j * 36 + 33, none⟩ = some (.int .i64 cs[j].amount) := (cell_of_rowAt hrow 33 (by omega)).trans (coinV_tail _ _ h32).2.1
      have HT := Lib.hid (amounts_take cs j hlt)
      obtain ⟨x, hx⟩ : ∃ x, cs[j].amount = x := ⟨_, rfl⟩
      rw [hx] at c1 HT
      clear hlock hrow d1 d2 hx
      have HN := Lib.hid (rd_new1 wr (.int .i64 x) 3 _ rfl)
      have HO2 := Lib.hid (own_alloc HO.out (.cells #[.int .i64 x] 3))
      have B2 := Lib.hid (HB.out.alloc HB.out.size (.cells #[.int .i64 x] 3))
      go_wp2_with (at_builtin; refine wpList_append_rd rfl (.tmp 12) (.tmp 19) 78 rfl 3 i0 (.int .i64 0) 1 8 Tryd.underlying78 hi0 hz0 hz1 hz2 rfl (by decide) w.heap.size j _ HO2.out 1 [.int .i64 x] ?c1 HN.out ?c5 ?c2 ?c3 ?c4 ?_)
      case c1 => rfl
      case c5 => intro u hu; rw [List.mem_singleton.1 hu]; rfl
      case c2 => unfold maxLen; omega
      case c3 => omega
      case c4 => exact B2.out.size
      intro v1 w2 ho1 _ hg1
      have B3 := Lib.hid (B2.out.grown hg1 B2.out.size (fun q hq => (own_lt HO2.out hq).1))
      have HO3 := Lib.hid ho1; clear ho1 hg1
      go_wp2_with fail
      go_roundw
      case rel => exact ⟨j + 1, by omega, by go_num, Lib.hid (by rw [HT.out]; exact HO3.out), B3⟩
      case measure => simp [intOf]; omega
    · have hj2 : j = cs.length := by omega
      have hr := own_rd HO.out
      rw [List.take_of_length_le (by omega)] at hr
      have HR := Lib.hid (total_any (amounts cs) _ j wr hr (by simp [amounts]; omega))
      clear hr hj2
      go_wp2_with fail
      refine Calls.mono HR.out ?_
      rintro e w1 ⟨rfl, hw'⟩
      rw [hw']
      clear hw' w1
      go_wp2
      go_ret2
      exact ⟨rfl, HB.out⟩
set_option maxHeartbeats 2000000 in
set_option maxRecDepth 100000 in
theorem coinTotal_any (cs : List CoinD) (ao : Option Addr) (cap : Nat) (w : World) (h : rdSl coinR 36 w (.slice ao cs.length cap) cs) (hn : cs.length ≤ 1000) :
    Calls Tryd.prog 49 #[.slice ao cs.length cap] w fun e w' => e = .returned (.tuple #[.int .i64 (totV (amounts cs)), errV (totC 0 (amounts cs))]) ∧ Below w.heap.size w w' := by
  obtain ⟨_, _, e, hcap, hmax⟩ := sl_bounds h
  cases e
  unfold maxLen at hmax
  have HS := Lib.hid h; clear h
  obtain ⟨i0, hi0, hz0, hz1, hz2⟩ := info_parts' info_int
  go_enter Tryd.func49, Tryd.ntmps49
  go_wp2_with fail
  go_loopw [4, 9] (fun v c wr => ∃ j : Nat, j ≤ cs.length ∧ c = .int .i64 j ∧ Hid (own wr w.heap.size 3 1 v j ((amounts (cs.take j)).map iV64)) ∧ Hid (Below w.heap.size w wr)) (fun _ c _ => cs.length - (intOf c).toNat)
  case atStart => exact ⟨0, by omega, rfl, Lib.hid (own_nil _ _ _ _), Lib.hid (Below.refl _ _)⟩
  case round =>
    obtain ⟨j, hj, rfl, HO, HB⟩ := hrel
    have ho' := HO.out
    obtain ⟨-, oo, ocap, rfl, o1, o2, -⟩ := ho'
    unfold maxLen at o2
    by_cases hlt : j < cs.length
    · obtain ⟨g, off, so, scap, rfl, -, h32, d1, d2, hlock, hrow⟩ := coin_at (coinR_stays.slB HS.out HB.out (Nat.le_refl _)) j hlt
      have HT := Lib.hid (amounts_take cs j hlt)
      obtain ⟨c, hc⟩ : ∃ c, cs[j] = c := ⟨_, rfl⟩
      rw [hc] at HT h32 d1 hrow
      obtain ⟨n1, n2, n3, n4⟩ := new_coin wr c so c.lock.length scap h32
      have B1 := Lib.hid (HB.out.alloc HB.out.size (.cells (coinV c (.slice so c.lock.length scap)) 59))
      have HCA := CoinAt.new wr c (.slice so c.lock.length scap) h32
      have c33 := HCA.amount
      have HO1 := Lib.hid (own_alloc HO.out (.cells (coinV c (.slice so c.lock.length scap)) 59))
      clear hlock d1 d2 hc HCA
      unfold zCoin at n1 n2
      go_upto_region 5 with fail
      clear n1 n2 n3 n4
      change Code.wp _ _ _ _ (wr.alloc (.cells (coinV c (.slice so c.lock.length scap)) 59))
      generalize wr.alloc (.cells (coinV c (.slice so c.lock.length scap)) 59) = w0 at B1 HO1 c33 ⊢
      obtain ⟨x, hx⟩ : ∃ x, c.amount = x := ⟨_, rfl⟩
      rw [hx] at c33 HT
      clear hx hrow
      have HN := Lib.hid (rd_new1 w0 (.int .i64 x) 3 _ rfl)
      have HO2 := Lib.hid (own_alloc HO1.out (.cells #[.int .i64 x] 3))
      have B2 := Lib.hid (B1.out.alloc B1.out.size (.cells #[.int .i64 x] 3))
      go_wp2_with (at_builtin; refine wpList_append_rd rfl (.tmp 13) (.tmp 17) 78 rfl 3 i0 (.int .i64 0) 1 8 Tryd.underlying78 hi0 hz0 hz1 hz2 rfl (by decide) w.heap.size j _ HO2.out 1 [.int .i64 x] ?c1 HN.out ?c5 ?c2 ?c3 ?c4 ?_)
      case c1 => rfl
      case c5 => intro u hu; rw [List.mem_singleton.1 hu]; rfl
      case c2 => unfold maxLen; omega
      case c3 => omega
      case c4 => exact B2.out.size
      intro v1 w2 ho1 _ hg1
      have B3 := Lib.hid (B2.out.grown hg1 B2.out.size (fun q hq => (own_lt HO2.out hq).1))
      have HO3 := Lib.hid ho1; clear ho1 hg1
      go_wp2_with fail
      go_roundw
      case rel => exact ⟨j + 1, by omega, by go_num, Lib.hid (by rw [HT.out]; exact HO3.out), B3⟩
      case measure => simp [intOf]; omega
    · have hj2 : j = cs.length := by omega
      have hr := own_rd HO.out
      rw [List.take_of_length_le (by omega)] at hr
      have HR := Lib.hid (moneySum_any (amounts cs) _ j wr hr (by simp [amounts]; omega))
      clear hr hj2
      go_wp2_with fail
      refine Calls.mono HR.out ?_
      rintro e w1 ⟨rfl, hw'⟩
      rw [hw']
      clear hw' w1
      go_wp2
      go_ret2
      exact ⟨rfl, HB.out⟩
/-- What coin.Sum tells. -/
def sumE (cs : List CoinD) : Int := if setF cs = 0 then totC 0 (amounts cs) else setF cs
def sumV (cs : List CoinD) : Int := if setF cs = 0 then totV (amounts cs) else 0
theorem setF_small (cs : List CoinD) (h : setF cs = 0) : cs.length ≤ 1000 := by
  unfold setF at h
  split at h
  · cases h
  · omega
theorem coinSum_any (cs : List CoinD) (ao : Option Addr) (cap : Nat) (w : World) (h : rdSl coinR 36 w (.slice ao cs.length cap) cs) :
    Calls Tryd.prog 21 #[.slice ao cs.length cap] w fun e w' => e = .returned (.tuple #[.int .i64 (sumV cs), errV (sumE cs)]) ∧ Below w.heap.size w w' := by
  have HS := Lib.hid h; clear h
  obtain ⟨f, hf⟩ : ∃ f, setF cs = f := ⟨_, rfl⟩
  have HC := Lib.hid (coinCheck_any cs ao cap w HS.out)
  have HSM := Lib.hid (setF_small cs)
  unfold sumV sumE
  rw [hf] at HC HSM ⊢
  clear hf
  by_cases hz : f = 0
  · subst hz
    rw [errV_0] at HC
    simp only [if_true]
    have hsm := HSM.out rfl
    go_enter Tryd.func21, Tryd.ntmps21
    go_wp2_with fail
    refine Calls.mono HC.out ?_
    rintro e w1 ⟨rfl, hb1⟩
    have B1 := Lib.hid hb1; clear hb1
    go_wp2_with fail
    refine (coinTotal_any cs ao cap w1 (coinR_stays.slB HS.out B1.out (Nat.le_refl _)) hsm).mono ?_
    rintro e w2 ⟨rfl, hb2⟩
    have B2 := Lib.hid (B1.out.trans (hb2.mono B1.out.size)); clear hb2
    go_wp2
    go_ret2
    exact ⟨rfl, B2.out⟩
  · rw [errV_ne hz] at HC
    rw [if_neg hz, if_neg hz, errV_ne hz]
    clear hz
    go_enter Tryd.func21, Tryd.ntmps21
    go_wp2_with fail
    refine Calls.mono HC.out ?_
    rintro e w1 ⟨rfl, hb1⟩
    have B1 := Lib.hid hb1; clear hb1
    go_wp2
    go_ret2
    exact ⟨rfl, B1.out⟩
end Go.Proofs.YtljcdkfafknnpaaDoor
