/- Merged: Cnc. Conditions: none beyond each theorem's own. -/
import Derived.Test.YtljcdkfafknnpaaGreatDoorHdb
import Derived.Test.YtljcdkfafknnpaaGreatDoorMc
namespace Go.Proofs.YtljcdkfafknnpaaGreatDoor
set_option linter.unusedVariables false
set_option linter.unusedSimpArgs false
open Go.RowKit
attribute [local go_sem ↓] run_load_agg run_store_agg run_load_any

def GrewPost (w : World) (e : Ending) (w' : World) : Prop := ∃ ao cap, e = .returned (.slice ao 0 cap) ∧ own w' w.heap.size 5 1 (.slice ao 0 cap) 0 [] ∧ Below w.heap.size w w'
theorem grewPost_mk {w w' : World} {e : Ending} (ao : Option Addr) (cap : Nat) (he : e = .returned (.slice ao 0 cap)) (h1 : own w' w.heap.size 5 1 (.slice ao 0 cap) 0 []) (h2 : Below w.heap.size w w') : GrewPost w e w' := ⟨ao, cap, he, h1, h2⟩
set_option maxHeartbeats 2000000 in
set_option maxRecDepth 100000 in
theorem grow64_any (w : World) : Calls Tryz.prog 105 #[.slice none 0 0, .int .i64 64] w (GrewPost w) := by
  obtain ⟨i0, hi0, hz0, hz1, hz2⟩ := info_parts' info_u8
  go_enter Tryz.func105, Tryz.ntmps105
  go_wp2_with (at_builtin; refine wpList_grow_zeros rfl (.tmp 20) (.tmp 21) 26 3 rfl 5 i0 (.int .u8 0) .i64 .i64 1 1 Tryz.underlying26 Tryz.underlying3 hi0 hz0 hz1 hz2 rfl (by decide) w.heap.size 0 0 64 none [] rfl rfl (own_nil _ _ _ _) (by decide) (by decide) (by unfold maxLen; omega) (by decide) (Nat.le_refl _) ?_)
  intro cap' w1 ho hb
  have ht := own_take ho 0 (by omega)
  rw [Nat.zero_mul, List.take_zero] at ht
  have HT := Lib.hid ht; have HB := Lib.hid hb
  have ht' := ho
  obtain ⟨-, _, _, e, k1, k2, -⟩ := ht'
  cases e
  unfold maxLen at k2
  clear ho hb ht
  go_wp2
  go_ret
  exact grewPost_mk _ cap' rfl HT.out HB.out
set_option maxHeartbeats 4000000 in
set_option maxRecDepth 100000 in
theorem concat2_any (a b : List UInt8) (ha : a.length = 32) (hb : b.length = 32) (L : Nat) (x y : Option Addr) (c1 c2 : Nat) (w : World) (hL : w.heap[L]? = some (.cells #[.slice x 32 c1, .slice y 32 c2] 26 (0, 0)))
    (h1 : rd w (.slice x 32 c1) 32 (a.map vB)) (h2 : rd w (.slice y 32 c2) 32 (b.map vB)) :
    Calls Tryz.prog 70 #[.slice (some ⟨L, 0, none⟩) 2 2] w (BytesPost (a ++ b) w) := by
  have h1' := h1
  obtain ⟨_, _, e, k1, k2, -⟩ := h1'
  cases e
  have h2' := h2
  obtain ⟨_, _, e, p1, p2, -⟩ := h2'
  cases e
  unfold maxLen at k2 p2
  have HA := Lib.hid ha; have HB := Lib.hid hb; have H1 := Lib.hid h1; have H2 := Lib.hid h2
  have HK : Hid (Kept w [(L, #[.slice x 32 c1, .slice y 32 c2], 26)] w) := Lib.hid ⟨Below.refl _ _, fun q hq => by rw [List.mem_singleton.1 hq]; exact hL⟩
  have d0 : w.cell? ⟨L, 0, none⟩ = some (.slice x 32 c1) := HK.out.cell 0 0 _ _ rfl rfl
  have d1 : w.cell? ⟨L, 1, none⟩ = some (.slice y 32 c2) := HK.out.cell 0 1 _ _ rfl rfl
  clear ha hb h1 h2 hL
  go_enter Tryz.func70, Tryz.ntmps70
  go_wp2_with fail
  go_loopw [3, 11] (fun s c wr => Hid (wr = w) ∧ ∃ k : Nat, k ≤ 2 ∧ s = .int .i64 ((32 * k : Nat) : Int) ∧ c = .int .i64 k) (fun _ c _ => 2 - (intOf c).toNat)
  case atStart => exact ⟨Lib.hid rfl, 0, by omega, rfl, rfl⟩
  case round =>
    obtain ⟨hw, k, hk, rfl, rfl⟩ := hrel
    have hw' : w = wr := hw.out.symm
    subst hw'
    clear hw
    have hk3 : k = 0 ∨ k = 1 ∨ k = 2 := by omega
    rcases hk3 with rfl | rfl | rfl
    · go_wp2_with fail
      go_roundw
      case rel => exact ⟨trivial, 1, by omega, by go_num, by go_num⟩
      case measure => simp [intOf]
    · go_wp2_with fail
      go_roundw
      case rel => exact ⟨trivial, 2, by omega, by go_num, by go_num⟩
      case measure => simp [intOf]
    · go_wp2_with fail
      refine (grow64_any w).mono ?_
      rintro e w1 ⟨ao, cap, rfl, ho, hbb⟩
      have hoc := ho
      obtain ⟨-, _, _, e, g1, g2, -⟩ := hoc
      cases e
      unfold maxLen at g2
      have HG : Hid (Grow w [(L, #[.slice x 32 c1, .slice y 32 c2], 26)] (.slice ao 0 cap) ((a ++ b).take (32 * 0)) w1) := Lib.hid ⟨HK.out.on hbb, by simpa using ho⟩
      clear ho hbb d0 d1
      go_wp2_with fail
      go_loopw [6, 27] (fun s c ws => ∃ (k : Nat) (v : Value), k ≤ 2 ∧ v = s ∧ c = .int .i64 k ∧ Hid (Grow w [(L, #[.slice x 32 c1, .slice y 32 c2], 26)] v ((a ++ b).take (32 * k)) ws)) (fun _ c _ => 2 - (intOf c).toNat)
      case atStart => exact ⟨0, _, by omega, rfl, rfl, HG⟩
      case round =>
        obtain ⟨k, v, hk, rfl, rfl, HS⟩ := hrel
        have d0 : wr.cell? ⟨L, 0, none⟩ = some (.slice x 32 c1) := HS.out.kept.cell 0 0 _ _ rfl rfl
        have d1 : wr.cell? ⟨L, 1, none⟩ = some (.slice y 32 c2) := HS.out.kept.cell 0 1 _ _ rfl rfl
        obtain ⟨P, hP⟩ : ∃ P, (a ++ b).take (32 * k) = P := ⟨_, rfl⟩
        rw [hP] at HS
        have HP := Lib.hid hP
        clear hP
        have hk3 : k = 0 ∨ k = 1 ∨ k = 2 := by omega
        rcases hk3 with rfl | rfl | rfl
        · have HR : Hid (rd wr (.slice x 32 c1) a.length (a.map vB)) := Lib.hid (by rw [HA.out]; exact rd_below H1.out HS.out.kept.below)
          have hl : P.length + a.length ≤ 140737488355328 := by rw [HA.out, ← HP.out]; simp
          have HE : Hid (P ++ a = (a ++ b).take (32 * 1)) := Lib.hid (by rw [← HP.out, Nat.mul_zero, List.take_zero, List.nil_append, Nat.mul_one, List.take_left' HA.out])
          go_wp2_with (at_builtin; refine wpList_grow rfl (.tmp 31) (.tmp 32) rfl a HS.out rfl rfl HR.out hl ?_)
          intro v1 w1 HG1
          clear hl
          go_wp2_with fail
          go_roundw
          case rel => exact ⟨1, v1, by omega, rfl, by go_num, Lib.hid (by rw [← HE.out]; exact HG1.out)⟩
          case measure => simp [intOf]
        · have HR : Hid (rd wr (.slice y 32 c2) b.length (b.map vB)) := Lib.hid (by rw [HB.out]; exact rd_below H2.out HS.out.kept.below)
          have hl : P.length + b.length ≤ 140737488355328 := by rw [HB.out, ← HP.out, List.length_take]; omega
          have HE : Hid (P ++ b = (a ++ b).take (32 * 2)) := Lib.hid (by
            rw [← HP.out, Nat.mul_one, List.take_left' HA.out, List.take_of_length_le (by rw [List.length_append, HA.out, HB.out]; omega)])
          go_wp2_with (at_builtin; refine wpList_grow rfl (.tmp 31) (.tmp 32) rfl b HS.out rfl rfl HR.out hl ?_)
          intro v1 w1 HG1
          clear hl
          go_wp2_with fail
          go_roundw
          case rel => exact ⟨2, v1, by omega, rfl, by go_num, Lib.hid (by rw [← HE.out]; exact HG1.out)⟩
          case measure => simp [intOf]
        · have HE : Hid (P = a ++ b) := Lib.hid (by rw [← HP.out]; exact List.take_of_length_le (by rw [List.length_append, HA.out, HB.out]; omega))
          rw [HE.out] at HS
          go_wp2
          go_ret
          exact bytesPost_mk _ rfl HS.out.own_ HS.out.kept.below
end Go.Proofs.YtljcdkfafknnpaaGreatDoor
