/- The walk of work.Mine. Conditions: none beyond each theorem's own. -/
import Derived.Test.YtamjldakllafcaaDoorZer
import Derived.Test.YtamjldakllafcaaDoorSize
import Derived.Test.YtamjldakllafcaaDoorHash2
import Derived.Deep.RegionLaw
namespace Go.Proofs.YtamjldakllafcaaDoor
set_option linter.unusedVariables false
set_option linter.unusedSimpArgs false
open Go.RowKit
attribute [local go_sem ↓] run_load_agg run_store_agg run_load_any

/-- Is the digest behind this number good? -/
def goodM (b : List UInt8) (n i : Nat) : Bool := decide (n ≤ zerosM (shaM (b ++ sizeM i)))
def zHas : Array Value := #[.int .u32 0, .int .u32 0, .int .u32 0, .int .u32 0, .int .u32 0, .int .u32 0, .int .u32 0, .int .u32 0, .slice none 0 0, .int .i64 0]
theorem hasV_plain (s : St) (ao : Option Addr) (n c m : Nat) : plainCells (hasV s (.slice ao n c) m) = true := by rfl
theorem new_has (w : World) (s : St) (ao : Option Addr) (n c m : Nat) : (rowAt (w.alloc (.cells zHas 71)) w.heap.size 0 10).isSome = true ∧ wrAt (w.alloc (.cells zHas 71)) w.heap.size = true ∧
    plainCells (hasV s (.slice ao n c) m) = true ∧ (hasV s (.slice ao n c) m).size = 10 := by
  exact ⟨by rw [rowAt_whole (heap_alloc_new w _) 10 rfl]; rfl, wrAt_of_heap (heap_alloc_new w _), hasV_plain s ao n c m, hasV_size _ _ _⟩
theorem HasI.on {w w' : World} {base g : Nat} {l : List UInt8} {r : Value} (h : HasI w base g l r) (hb : Below w.heap.size w w') : HasI w' base g l r :=
  ⟨(hb.block _ (Array.getElem?_eq_some_iff.1 h.blk).1).trans h.blk, own_below hb h.rest (Nat.le_refl _), h.ge⟩
/-- A copy of a hasher in a new block. -/
theorem HasI.copy {w : World} {base g : Nat} {l : List UInt8} {r : Value} (h : HasI w base g l r) (hb : base ≤ w.heap.size) : HasI (w.alloc (.cells (hasV (blocksM St0 l (l.length / 64)) r l.length) 71)) base w.heap.size l r :=
  ⟨heap_alloc_new w _, own_alloc h.rest _, hb⟩
/-- .. and the first one stands behind a write to the copy. -/
theorem HasI.keep {w w' : World} {base g g2 : Nat} {l : List UInt8} {r : Value} (h : HasI w base g l r) (hne : g ≠ g2) (hk : KeepI w base g2 r (l.length % 64) ((l.drop (64 * (l.length / 64))).map vB) w') : HasI w' base g l r :=
  ⟨(hk.other g (Array.getElem?_eq_some_iff.1 h.blk).1 hne (own_ne h.rest h.blk (by decide))).trans h.blk, hk.rest, h.ge⟩
theorem height_ok (n : Int) (h0 : 0 ≤ n) (h1 : n ≤ 1073741824) (w : World) : Calls Tryd.prog 40 #[.int .i64 n] w fun e w' => e = .returned (.bool true) ∧ w' = w := by
  go_enter Tryd.func40, Tryd.ntmps40
  go_wp2
  go_ret
  exact ⟨rfl, rfl⟩
theorem within_ok (n : Int) (h0 : 0 ≤ n) (h1 : n ≤ 40) (w : World) : Calls Tryd.prog 41 #[.int .i64 n] w fun e w' => e = .returned (.bool true) ∧ w' = w := by
  go_enter Tryd.func41, Tryd.ntmps41
  go_wp2
  go_ret
  exact ⟨rfl, rfl⟩
set_option maxHeartbeats 4000000 in
set_option maxRecDepth 100000 in
theorem mine_any (b : List UInt8) (v : Value) (bn fr tries n : Nat) (w : World) (hb : rd w v bn (b.map vB)) (hl : b.length = bn) (hbn : bn ≤ 140737488352000) (hf : fr ≤ 1073741824) (ht : tries ≤ 1073741824) (hn : n ≤ 40) (hT : tabAt w) :
    Calls Tryd.prog 15 #[v, .int .i64 fr, .int .i64 tries, .int .i64 n] w fun e w' => Below w.heap.size w w' ∧
      ((∃ x : Nat, e = .returned (.tuple #[.int .i64 x, .nilIface]) ∧ fr ≤ x ∧ x < fr + tries ∧ goodM b n x = true ∧ ∀ i, fr ≤ i → i < x → goodM b n i = false) ∨
       (e = .returned (.tuple #[.int .i64 0, .iface 47 (.int .i64 5)]) ∧ ∀ i, fr ≤ i → i < fr + tries → goodM b n i = false)) := by
  have hg0 := rowAt_lt hT
  have hb' := hb
  obtain ⟨ao, cap, rfl, k1, k2, -⟩ := hb'
  unfold maxLen at k2
  have HB := Lib.hid hb; have HT := Lib.hid hT; have HL := Lib.hid hl
  clear hb hT hl
  have H1 := Lib.hid (height_ok fr (by omega) (by omega)); have H2 := Lib.hid (height_ok tries (by omega) (by omega)); have H3 := Lib.hid (within_ok n (by omega) (by omega))
  go_enter Tryd.func15, Tryd.ntmps15
  go_wp2_with fail
  refine (H1.out _).mono ?_
  rintro e w' ⟨rfl, hw'⟩
  rw [hw']
  clear hw' w'
  go_wp2_with fail
  refine (H2.out _).mono ?_
  rintro e w' ⟨rfl, hw'⟩
  rw [hw']
  clear hw' w'
  go_wp2_with fail
  refine (H3.out _).mono ?_
  rintro e w' ⟨rfl, hw'⟩
  rw [hw']
  clear hw' w'
  go_wp2_with fail
  refine (new_any _).mono ?_
  rintro e w1 ⟨g, rfl, hH, hb1⟩
  have HH := Lib.hid hH; have B1 := Lib.hid hb1; clear hH hb1
  go_wp2_with fail
  refine (write_any w.heap.size g [] b _ _ bn w1 HH.out (rd_belowB HB.out B1.out (Nat.le_refl _)) HL.out (by simp; omega) ((rowAt_below B1.out hg0 0 64).trans HT.out) (rowAt_lt HT.out) B1.out.size).mono ?_
  rintro e w2 ⟨rfl, ⟨r, hH2⟩, hb2⟩
  rw [List.nil_append] at hH2
  have HH2 := Lib.hid hH2; have B2 := Lib.hid (B1.out.trans hb2); clear hH2 hb2 HH
  go_wp2_with fail
  go_loopw [11] (fun c wr => ∃ k : Nat, k ≤ tries ∧ c = .int .i64 ((fr : Int) + k) ∧ HasI wr w.heap.size g b r ∧ Below w.heap.size w wr ∧ ∀ i, fr ≤ i → i < fr + k → goodM b n i = false) (fun c _ => (fr + tries) - (intOf c).toNat)
  case atStart => exact ⟨0, by omega, by simp, HH2.out, B2.out, fun i h1 h2 => by omega⟩
  case round =>
    obtain ⟨k, hk, rfl, hH, hB, hG⟩ := hrel
    obtain ⟨i, hi⟩ : ∃ i, fr + k = i := ⟨_, rfl⟩
    rw [show (fr : Int) + (k : Int) = (i : Int) from by omega]
    have HG := Lib.hid hG; have B3 := Lib.hid hB
    clear hG hB
    by_cases hlt : k < tries
    · have hr' := hH.rest
      obtain ⟨-, ro, rc, rfl, r1, r2, -⟩ := hr'
      unfold maxLen at r2
      have hblk := hH.blk
      have HI := Lib.hid hH; clear hH
      have hgl := (Array.getElem?_eq_some_iff.1 hblk).1
      have hcp := Lib.hid (HI.out.copy B3.out.size)
      have HI2 := Lib.hid (HI.out.on ((Below.refl _ _).alloc (Nat.le_refl _) (.cells (hasV (blocksM St0 b (b.length / 64)) (.slice ro (b.length % 64) rc) b.length) 71)))
      have hrow : rowAt wr g 0 10 = some (hasV (blocksM St0 b (b.length / 64)) (.slice ro (b.length % 64) rc) b.length) := rowAt_whole hblk 10 rfl
      obtain ⟨n1, n2, n3, n4⟩ := new_has wr (blocksM St0 b (b.length / 64)) ro (b.length % 64) rc b.length
      have HI3 := Lib.hid hi; have HBK := Lib.hid hblk
      clear hi hblk
      unfold zHas at n1 n2
      obtain ⟨CV, hCV⟩ : ∃ CV, hasV (blocksM St0 b (b.length / 64)) (.slice ro (b.length % 64) rc) b.length = CV := ⟨_, rfl⟩
      rw [hCV] at hrow n3 n4 hcp HI2
      have HCV := Lib.hid hCV; clear hCV
      have hcond : (i : Int) < (fr : Int) + tries := by have := HI3.out; omega
      have hi32 : i < 4294967296 := by have := HI3.out; omega
      go_wp2_with fail
      clear n1 n2
      obtain ⟨g2, hg2⟩ : ∃ g2, wr.heap.size = g2 := ⟨_, rfl⟩
      have hgg : g ≠ g2 := by omega
      have hz3 : (wr.alloc (.cells CV 71)).heap.size = g2 + 1 := by simp [hg2]
      have B4 := Lib.hid (B3.out.alloc B3.out.size (.cells CV 71))
      rw [hg2] at hcp ⊢
      generalize wr.alloc (.cells CV 71) = w3 at hcp HI2 hz3 B4 ⊢
      refine (sizeOf_any i hi32 w3).mono ?_
      rintro e w4 ⟨sv, sk, rfl, hos, hsk, hsk5, hb4⟩
      have HI4 := Lib.hid (HI2.out.on hb4); have hcp4 := Lib.hid (hcp.out.on hb4)
      have B5 := Lib.hid (B4.out.trans (hb4.mono B4.out.size))
      have hor := own_rd hos
      have hor' := hor
      obtain ⟨so, scap, rfl, s1, s2, -⟩ := hor'
      unfold maxLen at s2
      have HOS := Lib.hid hor; have HSK := Lib.hid hsk
      have hz4 := hb4.size
      clear hos hor hb4 hsk
      go_wp2_with fail
      refine (write_any2 w.heap.size g2 b (sizeM i) _ _ sk w4 hcp4.out HOS.out HSK.out.symm (by have := HL.out; omega) ((rowAt_below B5.out hg0 0 64).trans HT.out) (rowAt_lt HT.out) B5.out.size).mono ?_
      rintro e w5 ⟨rfl, ⟨r', hH5⟩, hb5, hK⟩
      have HI5 := Lib.hid (HI4.out.keep hgg hK)
      have hcp5 := Lib.hid hH5
      have B6 := Lib.hid (B5.out.trans hb5)
      clear hH5 hb5 hK
      have hlen : (b ++ sizeM i).length ≤ 140737488353000 := by have := HL.out; have := HSK.out; simp; omega
      go_wp2_with fail
      refine (sum_any w.heap.size g2 (b ++ sizeM i) r' w5 hcp5.out hlen ((rowAt_below B6.out hg0 0 64).trans HT.out)).mono ?_
      rintro e w6 ⟨rfl, hb6⟩
      have HI6 := Lib.hid (HI5.out.on hb6)
      have B7 := Lib.hid (B6.out.trans (hb6.mono B6.out.size))
      clear hb6
      go_wp2_with fail
      refine (good_any (shaM (b ++ sizeM i)) (shaM_length _) n w6).mono ?_
      rintro e w7 ⟨rfl, hb7⟩
      have HI7 := Lib.hid (HI6.out.on hb7)
      have B8 := Lib.hid (B7.out.trans (hb7.mono B7.out.size))
      clear hb7
      by_cases hgd : goodM b n i = true
      · have hd : decide ((n : Int) ≤ (zerosM (shaM (b ++ sizeM i)) : Int)) = true := by unfold goodM at hgd; simpa using hgd
        rw [hd]
        have HGD := Lib.hid hgd; clear hgd hd
        go_wp2
        go_ret2
        exact ⟨B8.out, .inl ⟨i, rfl, by have := HI3.out; omega, by have := HI3.out; omega, HGD.out, fun j h1 h2 => HG.out j h1 (by have := HI3.out; omega)⟩⟩
      · have hgf : goodM b n i = false := by simpa using hgd
        have hd : decide ((n : Int) ≤ (zerosM (shaM (b ++ sizeM i)) : Int)) = false := by unfold goodM at hgf; simpa using hgf
        rw [hd]
        have HGF := Lib.hid hgf; clear hgd hgf hd
        go_wp2
        go_roundw
        case rel =>
          refine ⟨k + 1, by omega, by have := HI3.out; go_num, HI7.out, B8.out, fun j h1 h2 => ?_⟩
          by_cases e : j = i
          · rw [e]; exact HGF.out
          · exact HG.out j h1 (by have := HI3.out; omega)
        case measure => have := HI3.out; simp [intOf]; omega
    · have hcond : ¬ ((i : Int) < (fr : Int) + tries) := by omega
      have hkt : k = tries := by omega
      have HKT := Lib.hid hkt
      clear hH
      go_wp2
      go_ret2
      exact ⟨B3.out, .inr ⟨rfl, fun j h1 h2 => HG.out j h1 (by have := HKT.out; omega)⟩⟩
end Go.Proofs.YtamjldakllafcaaDoor
