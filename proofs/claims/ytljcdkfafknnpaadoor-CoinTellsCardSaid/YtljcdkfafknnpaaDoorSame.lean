/- The walks of moneyersame.Bytes, Lock and Coins on two lists that read alike. Conditions: none beyond each theorem's own. -/
import Derived.Test.YtljcdkfafknnpaaDoorFnd
import Derived.Test.YtljcdkfafknnpaaDoorEqp
import Derived.Deep.QuietTactic
import Derived.BigQuiet
namespace Go.Proofs.YtljcdkfafknnpaaDoor
set_option linter.unusedVariables false
set_option linter.unusedSimpArgs false
open Go.RowKit
attribute [local go_sem ↓] run_load_agg run_store_agg run_load_any

/-- Worlds that differ by draws alone. -/
def Drawn (w w' : World) : Prop := ∃ m, w' = w.drewN m
theorem Drawn.refl (w : World) : Drawn w w := ⟨0, rfl⟩
theorem Drawn.drewN {w w' : World} (h : Drawn w w') (q : Nat) : Drawn w (w'.drewN q) := by
  obtain ⟨m, rfl⟩ := h
  exact ⟨m + q, by rw [World.drewN_drewN]⟩
theorem Drawn.drew {w w' : World} (h : Drawn w w') : Drawn w w'.drew := h.drewN 1
theorem Drawn.below {w w' : World} (h : Drawn w w') : Below w.heap.size w w' := by
  obtain ⟨m, rfl⟩ := h
  exact below_drewN (Below.refl _ _) m
theorem rd_cells {w : World} {ao : Option Addr} {n cap : Nat} {xs : List Value} (h : rd w (.slice ao n cap) n xs) (j : Nat) (hj : j < xs.length) : ∃ g off, ao = some ⟨g, off, none⟩ ∧ ∀ i (hi : i < xs.length), w.cell? ⟨g, off + i, none⟩ = some xs[i] := by
  obtain ⟨_, _, e, k1, k2, h3⟩ := h
  cases e
  rcases h3 with h3 | ⟨g, off, rfl, h3⟩
  · subst h3; cases hj
  · exact ⟨g, off, rfl, fun i hi => h3 i _ (List.getElem?_eq_getElem hi)⟩
set_option maxHeartbeats 1000000 in
set_option maxRecDepth 100000 in
theorem bytes_same (b : List UInt8) (ao bo : Option Addr) (n c1 c2 : Nat) (w : World) (h1 : rd w (.slice ao n c1) n (b.map vB)) (h2 : rd w (.slice bo n c2) n (b.map vB)) (hl : b.length = n) :
    Calls Tryd.prog 11 #[.slice ao n c1, .slice bo n c2] w fun e w' => e = .returned (.bool true) ∧ Drawn w w' := by
  have h1' := h1
  obtain ⟨_, _, e, k1, k2, -⟩ := h1'
  cases e
  have h2' := h2
  obtain ⟨_, _, e, p1, p2, -⟩ := h2'
  cases e
  unfold maxLen at k2 p2
  have H1 := Lib.hid h1; have H2 := Lib.hid h2; have HL := Lib.hid hl; clear h1 h2 hl
  go_enter Tryd.func11, Tryd.ntmps11
  go_wp2_with fail
  go_loopw [5] (fun c wr => ∃ j : Nat, j ≤ n ∧ c = .int .i64 j ∧ Drawn w wr) (fun c _ => n - (intOf c).toNat)
  case atStart => exact ⟨0, by omega, rfl, Drawn.refl _⟩
  case round =>
    obtain ⟨j, hj, rfl, hB⟩ := hrel
    have B := Lib.hid hB; clear hB
    by_cases hlt : j < n
    · have hjl : j < (b.map vB).length := by have := HL.out; simp; omega
      obtain ⟨ag, aoff, rfl, acs⟩ := rd_cells (rd_belowB H1.out B.out.below (Nat.le_refl _)) j hjl
      obtain ⟨bg, boff, rfl, bcs⟩ := rd_cells (rd_belowB H2.out B.out.below (Nat.le_refl _)) j hjl
      have a1 := acs j hjl
      have b1 := bcs j hjl
      obtain ⟨u, hu⟩ : ∃ u : Int, (b.map vB)[j] = .int .u8 u := ⟨bv (b[j]'(by simpa using hjl)), by simp [vB]⟩
      rw [hu] at a1 b1
      clear acs bcs hu hjl
      go_wp2_with fail
      go_region
      all_goals
        go_wp2
        go_roundw
        case rel => exact ⟨j + 1, by omega, by go_num, B.out.drew⟩
        case measure => simp [intOf]; omega
    · go_wp2
      go_ret
      exact ⟨rfl, B.out⟩
theorem op_cells {w : World} {g o : Nat} {a b d : Value} (h : rowAt w g o 3 = some #[a, b, d]) : w.cell? ⟨g, o, none⟩ = some a ∧ w.cell? ⟨g, o + 1, none⟩ = some b ∧ w.cell? ⟨g, o + 2, none⟩ = some d :=
  ⟨by simpa using cell_of_rowAt h 0 (by omega), by simpa using cell_of_rowAt h 1 (by omega), by simpa using cell_of_rowAt h 2 (by omega)⟩
set_option maxHeartbeats 1600000 in
set_option maxRecDepth 100000 in
theorem lock_same (os : List OpD) (ao bo : Option Addr) (n c1 c2 : Nat) (w : World) (h1 : rdSl opR 3 w (.slice ao n c1) os) (h2 : rdSl opR 3 w (.slice bo n c2) os) (hl : os.length = n) :
    Calls Tryd.prog 28 #[.slice ao n c1, .slice bo n c2] w fun e w' => e = .returned (.bool true) ∧ Drawn w w' := by
  subst hl
  obtain ⟨_, _, e, k1, k2⟩ := sl_bounds h1
  cases e
  obtain ⟨_, _, e, p1, p2⟩ := sl_bounds h2
  cases e
  unfold maxLen at k2 p2
  have H1 := Lib.hid h1; have H2 := Lib.hid h2; clear h1 h2
  go_enter Tryd.func28, Tryd.ntmps28
  go_wp2_with fail
  go_loopw [5] (fun c wr => ∃ j : Nat, j ≤ os.length ∧ c = .int .i64 j ∧ Drawn w wr) (fun c _ => os.length - (intOf c).toNat)
  case atStart => exact ⟨0, by omega, rfl, Drawn.refl _⟩
  case round =>
    obtain ⟨j, hj, rfl, hB⟩ := hrel
    have B := Lib.hid hB; clear hB
    by_cases hlt : j < os.length
    · obtain ⟨ag, aoff, sa, acap, rfl, -, a1, a2, adat, arow⟩ := op_at (opR_stays.slB H1.out B.out.below (Nat.le_refl _)) j hlt
      obtain ⟨bg, boff, sb, bcap, rfl, -, b1, b2, bdat, brow⟩ := op_at (opR_stays.slB H2.out B.out.below (Nat.le_refl _)) j hlt
      obtain ⟨o, ho⟩ : ∃ o, os[j] = o := ⟨_, rfl⟩
      rw [ho] at adat bdat arow brow a1 b1
      have AR := Lib.hid arow; have BR := Lib.hid brow
      obtain ⟨r1, r2, r3⟩ := op_cells arow
      obtain ⟨t1, t2, t3⟩ := op_cells brow
      have HD : Hid (∀ k, Calls Tryd.prog 11 #[.slice sa o.data.length acap, .slice sb o.data.length bcap] (wr.drewN k) fun e w' => e = .returned (.bool true) ∧ Drawn (wr.drewN k) w') :=
        Lib.hid fun k => bytes_same o.data sa sb o.data.length acap bcap (wr.drewN k) (rd_belowB adat (below_drewN (Below.refl _ _) k) (Nat.le_refl _)) (rd_belowB bdat (below_drewN (Below.refl _ _) k) (Nat.le_refl _)) rfl
      clear adat bdat arow brow ho AR BR
      go_wp2_with fail
      go_quiet (first | (go_at_call 11; refine Calls.quiet_of (HD.out _)))
      clear HD
      go_wp2_with fail
      go_region
      all_goals
        go_wp2
        go_roundw
        case rel => exact ⟨j + 1, by omega, by go_num, (B.out.drewN _).drew⟩
        case measure => simp [intOf]; omega
    · go_wp2
      go_ret
      exact ⟨rfl, B.out⟩
theorem plE_self (p : PlaceD) : plE p p = true := by simp [plE]
structure CoinIn (w : World) (g o : Nat) (c : CoinD) (s : Value) : Prop where
  p : rowAt w g o 33 = some (plV c.place)
  amount : w.cell? ⟨g, o + 33, none⟩ = some (.int .i64 c.amount)
  lock : w.cell? ⟨g, o + 34, none⟩ = some s
  height : w.cell? ⟨g, o + 35, none⟩ = some (.int .i64 c.height)
theorem coin_in {w : World} {g o : Nat} {c : CoinD} {s : Value} (h : rowAt w g o 36 = some (coinV c s)) (h32 : c.tx.length = 32) : CoinIn w g o c s := by
  obtain ⟨t1, t2, t3, t4⟩ := coinV_tail c s h32
  refine ⟨?_, (cell_of_rowAt h 33 (by omega)).trans t2, (cell_of_rowAt h 34 (by omega)).trans t3, (cell_of_rowAt h 35 (by omega)).trans t4⟩
  have := rowAt_part h 0 33 (by omega)
  rw [Nat.add_zero, Nat.zero_add, coinV_place _ _ h32] at this
  exact this
set_option maxHeartbeats 1600000 in
set_option maxRecDepth 100000 in
theorem coins_same (cs : List CoinD) (ao bo : Option Addr) (n c1 c2 : Nat) (w : World) (h1 : rdSl coinR 36 w (.slice ao n c1) cs) (h2 : rdSl coinR 36 w (.slice bo n c2) cs) (hl : cs.length = n) :
    Calls Tryd.prog 24 #[.slice ao n c1, .slice bo n c2] w fun e w' => e = .returned (.bool true) ∧ Drawn w w' := by
  subst hl
  obtain ⟨_, _, e, k1, k2⟩ := sl_bounds h1
  cases e
  obtain ⟨_, _, e, p1, p2⟩ := sl_bounds h2
  cases e
  unfold maxLen at k2 p2
  have H1 := Lib.hid h1; have H2 := Lib.hid h2; clear h1 h2
  go_enter Tryd.func24, Tryd.ntmps24
  go_wp2_with fail
  go_loopw [5] (fun c wr => ∃ j : Nat, j ≤ cs.length ∧ c = .int .i64 j ∧ Drawn w wr) (fun c _ => cs.length - (intOf c).toNat)
  case atStart => exact ⟨0, by omega, rfl, Drawn.refl _⟩
  case round =>
    obtain ⟨j, hj, rfl, hB⟩ := hrel
    have B := Lib.hid hB; clear hB
    by_cases hlt : j < cs.length
    · obtain ⟨ag, aoff, sa, acap, rfl, -, a32, a1, a2, adat, arow⟩ := coin_at (coinR_stays.slB H1.out B.out.below (Nat.le_refl _)) j hlt
      obtain ⟨bg, boff, sb, bcap, rfl, -, -, b1, b2, bdat, brow⟩ := coin_at (coinR_stays.slB H2.out B.out.below (Nat.le_refl _)) j hlt
      obtain ⟨c, hc⟩ : ∃ c, cs[j] = c := ⟨_, rfl⟩
      rw [hc] at adat bdat arow brow a1 b1 a32
      have AR := Lib.hid arow; have BR := Lib.hid brow
      obtain ⟨r1, r2, r3, r4⟩ := coin_in arow a32
      obtain ⟨t1, t2, t3, t4⟩ := coin_in brow a32
      have he := run_eql_place c.place c.place a32 a32
      rw [plE_self] at he
      have HD : Hid (∀ k, Calls Tryd.prog 28 #[.slice sa c.lock.length acap, .slice sb c.lock.length bcap] (wr.drewN k) fun e w' => e = .returned (.bool true) ∧ Drawn (wr.drewN k) w') :=
        Lib.hid fun k => lock_same c.lock sa sb c.lock.length acap bcap (wr.drewN k) (opR_stays.slB adat (below_drewN (Below.refl _ _) k) (Nat.le_refl _)) (opR_stays.slB bdat (below_drewN (Below.refl _ _) k) (Nat.le_refl _)) rfl
      clear adat bdat arow brow hc AR BR
      go_wp2_with fail
      go_quiet (first | (go_at_call 28; refine Calls.quiet_of (HD.out _)))
      clear HD
      go_wp2_with fail
      go_region
      all_goals
        go_wp2
        go_roundw
        case rel => exact ⟨j + 1, by omega, by go_num, (B.out.drewN _).drew⟩
        case measure => simp [intOf]; omega
    · go_wp2
      go_ret
      exact ⟨rfl, B.out⟩
end Go.Proofs.YtljcdkfafknnpaaDoor
