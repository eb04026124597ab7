/- Merged: Lss. Conditions: none beyond each theorem's own. -/
import Derived.Test.YtljcdkfafknnpaaGreatDoorSel
import Derived.Test.YtljcdkfafknnpaaGreatDoorMrg
namespace Go.Proofs.YtljcdkfafknnpaaGreatDoor
set_option linter.unusedVariables false
set_option linter.unusedSimpArgs false
open Go.RowKit
attribute [local go_sem ↓] run_load_agg run_store_agg run_load_any run_build_coin

def SelPost (wl : World) (cs : List CoinD) (w : World) (e : Ending) (w' : World) : Prop := ∃ v, e = .returned v ∧ Sel wl w [] v cs w'
theorem selPost_mk {wl : World} {cs : List CoinD} {w w' : World} {e : Ending} (v : Value) (he : e = .returned v) (h : Sel wl w [] v cs w') : SelPost wl cs w e w' := ⟨v, he, h⟩
theorem coin_place {w : World} {g o : Nat} {c : CoinD} {s : Value} (h : rowAt w g o 36 = some (coinV c s)) (h32 : c.tx.length = 32) : rowAt w g o 33 = some (plV c.place) := by
  have := rowAt_part h 0 33 (by omega)
  rw [Nat.add_zero, Nat.zero_add, coinV_place _ _ h32] at this
  exact this
set_option maxHeartbeats 2000000 in
set_option maxRecDepth 100000 in
theorem less_any (cs gone : List CoinD) (ca ga : Option Addr) (cc gc : Nat) (wl w : World) (hl : Below wl.heap.size wl w) (hc : rdSl (constR coinR wl) 36 w (.slice ca cs.length cc) cs) (hg : rdSl coinR 36 w (.slice ga gone.length gc) gone) (hn : cs.length ≤ 100000) :
    Calls Tryz.prog 54 #[.slice ca cs.length cc, .slice ga gone.length gc] w (SelPost wl (lessC cs gone) w) := by
  obtain ⟨_, _, e, k1, k2⟩ := sl_bounds hc
  cases e
  obtain ⟨_, _, e, q1, q2⟩ := sl_bounds hg
  cases e
  unfold maxLen at k2 q2
  have HL := Lib.hid hl; have HC := Lib.hid hc; have HG := Lib.hid hg
  clear hl hc hg
  go_enter Tryz.func54, Tryz.ntmps54
  go_wp2_with fail
  go_loopw [5, 6] (fun s c wr => ∃ (j : Nat) (v : Value), j ≤ cs.length ∧ v = s ∧ c = .int .i64 j ∧ Hid (Sel wl w [] v (lessC (cs.take j) gone) wr)) (fun _ c _ => cs.length - (intOf c).toNat)
  case atStart => exact ⟨0, _, by omega, rfl, rfl, Lib.hid (Sel.nil (Kept.refl w) HL.out)⟩
  case round =>
    obtain ⟨j, v, hj, rfl, rfl, HS⟩ := hrel
    by_cases hlt : j < cs.length
    · obtain ⟨g, off, so, scap, rfl, -, h32, d1, d2, hlock, hrow0⟩ := coin_atL HC.out j hlt
      have hrow : rowAt wr g (off + j * 36) 36 = some (coinV cs[j] (.slice so cs[j].lock.length scap)) := (rowAt_below HS.out.kept.below (rowAt_lt hrow0) _ _).trans hrow0
      have HT := Lib.hid (lessC_take cs gone j hlt)
      have hle : (lessC (cs.take j) gone).length ≤ 100000 := by have := lessC_length (cs.take j) gone; rw [List.length_take] at this; omega
      obtain ⟨x, hx⟩ : ∃ x, cs[j] = x := ⟨_, rfl⟩
      rw [hx] at h32 d1 hlock hrow HT
      have hpl := coin_place hrow h32
      obtain ⟨y1, y2, y3⟩ := coin_cells h32 hlock
      obtain ⟨V, hV⟩ : ∃ V, coinV x (.slice so x.lock.length scap) = V := ⟨_, rfl⟩
      rw [hV] at hrow y1 y2 y3
      have HV1 := Lib.hid y1; have HV2 := Lib.hid y2
      have HROW := Lib.hid hrow
      have hgl := rowAt_lt hrow
      have hp32 : x.place.tx.length = 32 := h32
      obtain ⟨S, hS⟩ : ∃ S, lessC (cs.take j) gone = S := ⟨_, rfl⟩
      rw [hS] at HS HT hle
      clear hx hV hlock hrow0 hrow y1 y2 hS h32
      go_wp2_with fail
      refine (coinAt_any gone ga gc x.place hp32 _ (coinR_stays.slB HG.out (by first | exact HS.out.kept.below | exact HS.out.kept.below.drew) (Nat.le_refl _))).mono ?_
      rintro e w1 ⟨rfl, hb⟩
      have hb' : Below wr.heap.size wr w1 := by first | exact hb | exact (Below.refl _ _).drew.trans hb
      have HS1 := Lib.hid (HS.out.on hb')
      have hrow1 : rowAt w1 g (off + j * 36) 36 = some V := (rowAt_below hb' hgl _ _).trans HROW.out
      have HK := Lib.hid (atF_neg x.place gone)
      obtain ⟨k, hk⟩ : ∃ k, atF x.place gone 0 = k := ⟨_, rfl⟩
      rw [hk] at HK ⊢
      clear hk hb hb' hpl hgl
      by_cases hkn : k < 0
      · have HT2 : Hid (lessC (cs.take (j + 1)) gone = S ++ [x]) := Lib.hid (by rw [HT.out, if_neg (by rw [HK.out.1 hkn]; decide)])
        have HS2 := Lib.hid ((HS1.out.alloc V 105).tail)
        go_wp2_with (at_builtin; refine wpList_sel rfl (.tmp 21) (.tmp 26) rfl x V HS2.out rfl rfl (rd_new_row w1 V 105 _ rfl) HV1.out HV2.out y3 (by omega) ?_)
        intro va vcap w3 HS3
        go_wp2_with fail
        go_roundw
        case rel => exact ⟨j + 1, _, by omega, rfl, by go_num, Lib.hid (by rw [HT2.out]; exact HS3.out)⟩
        case measure => simp [intOf]; omega
      · have HT2 : Hid (lessC (cs.take (j + 1)) gone = S) := Lib.hid (by
          rw [HT.out]
          cases hb : atP gone x.place with
          | true => rw [if_pos rfl, List.append_nil]
          | false => exact absurd (HK.out.2 hb) hkn)
        go_wp2_with fail
        go_roundw
        case rel => exact ⟨j + 1, _, by omega, rfl, by go_num, Lib.hid (by rw [HT2.out]; exact HS1.out)⟩
        case measure => simp [intOf]; omega
    · have HE : Hid (lessC (cs.take j) gone = lessC cs gone) := Lib.hid (by rw [List.take_of_length_le (by omega)])
      go_wp2
      go_ret
      exact selPost_mk _ rfl (by rw [← HE.out]; exact HS.out)
end Go.Proofs.YtljcdkfafknnpaaGreatDoor
