/- The walk of the law WorkMines. Conditions: none beyond each theorem's own. -/
import Derived.Test.YtamjldakllafcaaDoorMined
import Derived.Test.YtamjldakllafcaaDoorTold
namespace Go.Proofs.YtamjldakllafcaaDoor
set_option linter.unusedVariables false
set_option linter.unusedSimpArgs false
open Go.RowKit

set_option maxHeartbeats 2000000 in
set_option maxRecDepth 100000 in
theorem mines_any (b : List UInt8) (v : Value) (bn : Nat) (fr tries n : Int) (w : World) (hb : rd w v bn (b.map vB)) (hl : b.length = bn) (hbn : bn ≤ 140737488351232) (hT : tabAt w) (hE : errAt w) :
    Calls Tryd.prog 10 #[v, .int .i64 fr, .int .i64 tries, .int .i64 n] w fun e w' => e = .returned (.bool true) ∧ Below w.heap.size w w' := by
  have hg0 := rowAt_lt hT
  have HB := Lib.hid hb; have HT := Lib.hid hT; have HL := Lib.hid hl; have HE := Lib.hid hE
  clear hb hT hl hE
  by_cases h3 : 300 < tries ∧ tries ≤ 1073741824
  · obtain ⟨h1, h2⟩ := h3
    go_enter Tryd.func10, Tryd.ntmps10
    go_wp2
    go_ret
    exact ⟨rfl, Below.refl _ _⟩
  have hfin : ∀ (err : Value) (c : Int) (x : Int) (w2 : World), Below w.heap.size w w2 →
      ((err = .nilIface ∧ c = 0) ∨ err = .iface 47 (.int .i64 c)) →
      Calls Tryd.prog 27 #[err, .int .i64 c] w2 fun e w' => e = .returned (.bool true) ∧ Below w.heap.size w w' := by
    intro err c x w2 hb2 he
    rcases he with ⟨rfl, rfl⟩ | rfl
    · refine (same_nil 0 w2).mono ?_
      rintro e w' ⟨rfl, rfl⟩
      exact ⟨rfl, hb2⟩
    · refine (same_errno c c w2 (errAt_below HE.out hb2 (Nat.le_refl _))).mono ?_
      rintro e w' ⟨rfl, hb3⟩
      exact ⟨by simp, hb2.trans (hb3.mono hb2.size)⟩
  have HF := Lib.hid hfin; clear hfin
  have hmined : Calls Tryd.prog 33 #[v, .int .i64 fr, .int .i64 tries, .int .i64 n] w fun e w' => ∃ x c : Int, e = .returned (.tuple #[.int .i64 x, .int .i64 c]) ∧ Below w.heap.size w w' ∧
      ∀ w2, Below w.heap.size w w2 → Calls Tryd.prog 15 #[v, .int .i64 fr, .int .i64 tries, .int .i64 n] w2 fun e w' => ∃ err, e = .returned (.tuple #[.int .i64 x, err]) ∧ Below w.heap.size w w' ∧ ((err = .nilIface ∧ c = 0) ∨ err = .iface 47 (.int .i64 c)) := by
    by_cases h : fr < 0 ∨ 1073741824 < fr ∨ tries < 0 ∨ 1073741824 < tries ∨ n < 0 ∨ 40 < n
    · refine (mined_no v fr tries n w h).mono ?_
      rintro e w' ⟨rfl, rfl⟩
      refine ⟨0, 2, rfl, Below.refl _ _, fun w2 hb2 => ?_⟩
      refine (mine_no v fr tries n w2 h).mono ?_
      rintro e w3 ⟨rfl, hb3⟩
      exact ⟨_, rfl, hb2.trans (hb3.mono hb2.size), .inr rfl⟩
    · obtain ⟨f, rfl⟩ : ∃ k : Nat, fr = k := ⟨fr.toNat, by omega⟩
      obtain ⟨t, rfl⟩ : ∃ k : Nat, tries = k := ⟨tries.toNat, by omega⟩
      obtain ⟨m, rfl⟩ : ∃ k : Nat, n = k := ⟨n.toNat, by omega⟩
      refine (mined_any b v bn f t m w HB.out HL.out hbn (by omega) (by omega) (by omega)).mono ?_
      rintro e w1 ⟨hb1, hr⟩
      have hmine : ∀ w2, Below w.heap.size w w2 → _ := fun w2 hb2 => mine_any b v bn f t m w2 (rd_belowB HB.out hb2 (Nat.le_refl _)) HL.out (by omega) (by omega) (by omega) (by omega) ((rowAt_below hb2 hg0 0 64).trans HT.out)
      rcases hr with ⟨x, rfl, g1, g2, g3, g4⟩ | ⟨rfl, g1⟩
      · refine ⟨x, 0, rfl, hb1, fun w2 hb2 => ?_⟩
        refine (hmine w2 hb2).mono ?_
        rintro e w3 ⟨hb3, ⟨y, rfl, k1, k2, k3, k4⟩ | ⟨rfl, k1⟩⟩
        · have hxy : x = y := by
            by_cases a : x < y
            · rw [k4 x g1 a] at g3; cases g3
            · by_cases c : y < x
              · rw [g4 y k1 c] at k3; cases k3
              · omega
          subst hxy
          exact ⟨_, rfl, hb2.trans (hb3.mono hb2.size), .inl ⟨rfl, rfl⟩⟩
        · rw [k1 x g1 g2] at g3; cases g3
      · refine ⟨0, 5, rfl, hb1, fun w2 hb2 => ?_⟩
        refine (hmine w2 hb2).mono ?_
        rintro e w3 ⟨hb3, ⟨y, rfl, k1, k2, k3, k4⟩ | ⟨rfl, k1⟩⟩
        · rw [g1 y k1 k2] at k3; cases k3
        · exact ⟨_, rfl, hb2.trans (hb3.mono hb2.size), .inr rfl⟩
  have HM := Lib.hid hmined; clear hmined
  by_cases h1 : 300 < tries
  · have h2 : ¬ tries ≤ 1073741824 := by omega
    clear h3
    go_enter Tryd.func10, Tryd.ntmps10
    go_wp2_with fail
    refine Calls.mono HM.out ?_
    rintro e w1 ⟨x, c, rfl, hb1, hmine⟩
    have B1 := Lib.hid hb1; have HN := Lib.hid hmine; clear hb1 hmine
    go_wp2_with fail
    refine (HN.out _ B1.out).mono ?_
    rintro e w2 ⟨err, rfl, hb2, her⟩
    have B2 := Lib.hid hb2; have HR := Lib.hid her; clear hb2 her
    go_wp2_with fail
    refine (HF.out err c 0 _ B2.out HR.out).mono ?_
    rintro e w3 ⟨rfl, hb3⟩
    have B3 := Lib.hid hb3; clear hb3
    go_wp2
    go_ret
    exact ⟨by simp, B3.out⟩
  · clear h3
    go_enter Tryd.func10, Tryd.ntmps10
    go_wp2_with fail
    refine Calls.mono HM.out ?_
    rintro e w1 ⟨x, c, rfl, hb1, hmine⟩
    have B1 := Lib.hid hb1; have HN := Lib.hid hmine; clear hb1 hmine
    go_wp2_with fail
    refine (HN.out _ B1.out).mono ?_
    rintro e w2 ⟨err, rfl, hb2, her⟩
    have B2 := Lib.hid hb2; have HR := Lib.hid her; clear hb2 her
    go_wp2_with fail
    refine (HF.out err c 0 _ B2.out HR.out).mono ?_
    rintro e w3 ⟨rfl, hb3⟩
    have B3 := Lib.hid hb3; clear hb3
    go_wp2
    go_ret
    exact ⟨by simp, B3.out⟩
end Go.Proofs.YtamjldakllafcaaDoor
