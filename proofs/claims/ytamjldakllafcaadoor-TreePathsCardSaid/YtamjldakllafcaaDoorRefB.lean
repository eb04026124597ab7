/- The walk of the reference's block. Conditions: none beyond each theorem's own. -/
import Derived.Test.YtamjldakllafcaaDoorRefW
import Derived.Test.YtamjldakllafcaaDoorHsum
import Derived.Test.YtamjldakllafcaaDoorRoot
namespace Go.Proofs.YtamjldakllafcaaDoor
set_option linter.unusedVariables false
set_option linter.unusedSimpArgs false
open Go.RowKit

/-- Cells in a row, each told; how many its block has. -/
def RowI (w : World) (g off n : Nat) (t : TypeId) (sz : Nat) (D : Nat → Value) : Prop :=
  ∃ c, w.heap[g]? = some (.cells c t (0, 0)) ∧ off + n ≤ c.size ∧ c.size = sz ∧ ∀ i, i < n → c[off + i]? = some (D i)
theorem RowI.lt {w : World} {g off n : Nat} {t : TypeId} {sz : Nat} {D : Nat → Value} (h : RowI w g off n t sz D) : g < w.heap.size := by
  obtain ⟨c, h1, -⟩ := h; exact (Array.getElem?_eq_some_iff.1 h1).1
theorem RowI.at {w : World} {g off n : Nat} {t : TypeId} {sz : Nat} {D : Nat → Value} (h : RowI w g off n t sz D) (i : Nat) (hi : i < n) : w.cell? ⟨g, off + i, none⟩ = some (D i) := by
  obtain ⟨c, h1, -, -, h2⟩ := h
  simp [World.cell?, h1, h2 i hi]
theorem RowI.free {w : World} {g off n : Nat} {t : TypeId} {sz : Nat} {D : Nat → Value} (h : RowI w g off n t sz D) (o : Nat) : w.frozen? ⟨g, o, none⟩ = false := by
  obtain ⟨c, h1, -⟩ := h
  simp [World.frozen?, h1]
theorem RowI.put {w : World} {g off n : Nat} {t : TypeId} {sz : Nat} {D : Nat → Value} (h : RowI w g off n t sz D) (i : Nat) (hi : i < n) (x : Value) :
    RowI (w.setCell ⟨g, off + i, none⟩ x) g off n t sz (fun m => if m = i then x else D m) := by
  obtain ⟨c, h1, h2, h3, h4⟩ := h
  refine ⟨_, setCell_heap h1 _, by simpa using h2, by simpa using h3, fun m hm => ?_⟩
  show (c.setIfInBounds (off + i) x)[off + m]? = some (if m = i then x else D m)
  by_cases e : m = i
  · subst e; rw [if_pos rfl, Array.getElem?_setIfInBounds, if_pos rfl, if_pos (by omega)]
  · rw [if_neg e, Array.getElem?_setIfInBounds, if_neg (by omega)]; exact h4 m hm
theorem RowI.kept {w w' : World} {g off n : Nat} {t : TypeId} {sz : Nat} {D : Nat → Value} (h : RowI w g off n t sz D) (hk : w'.heap[g]? = w.heap[g]?) : RowI w' g off n t sz D := by
  obtain ⟨c, h1, h2, h3, h4⟩ := h
  exact ⟨c, hk.trans h1, h2, h3, h4⟩
theorem RowI.set {w : World} {g off n : Nat} {t : TypeId} {sz : Nat} {D : Nat → Value} (h : RowI w g off n t sz D) (a : Addr) (x : Value) (hne : g ≠ a.block) : RowI (w.setCell a x) g off n t sz D :=
  h.kept (Below.heap_setCell _ _ _ _ hne)
theorem RowI.congr {w : World} {g off n : Nat} {t : TypeId} {sz : Nat} {D E : Nat → Value} (h : RowI w g off n t sz D) (he : ∀ i, i < n → D i = E i) : RowI w g off n t sz E := by
  obtain ⟨c, h1, h2, h3, h4⟩ := h
  exact ⟨c, h1, h2, h3, fun i hi => by rw [← he i hi]; exact h4 i hi⟩
theorem RowI.own {w : World} {base : Nat} {t : TypeId} {g off n cap sz : Nat} {xs : List Value} {D : Nat → Value} (h : RowI w g off n t sz D) (hl : xs.length = n) (hx : ∀ i, i < n → xs[i]? = some (D i))
    (hb : base ≤ g) (hn : n ≤ cap) (hm : cap ≤ maxLen) (hs : off + cap ≤ sz) : Go.Proofs.YtamjldakllafcaaDoor.own w base t 1 (.slice (some ⟨g, off, none⟩) n cap) n xs := by
  obtain ⟨c, h1, h2, h3, h4⟩ := h
  refine ⟨by rw [hl]; omega, _, _, rfl, hn, hm, .inr ⟨g, off, c, rfl, hb, h1, by omega, ?_⟩⟩
  apply List.ext_getElem?
  intro j
  rw [List.getElem?_take]
  split
  · rename_i hj
    rw [List.getElem?_drop, Array.getElem?_toList, h4 j (by omega), hx j (by omega)]
  · rw [List.getElem?_eq_none (by rw [hl]; omega)]
theorem RowI.of_own {w : World} {base : Nat} {t : TypeId} {ao : Option Addr} {n cap : Nat} {xs : List Value} (h : Go.Proofs.YtamjldakllafcaaDoor.own w base t 1 (.slice ao n cap) n xs) (hn : 0 < n) (D : Nat → Value) (hx : ∀ i, i < n → xs[i]? = some (D i)) :
    ∃ g off sz, ao = some ⟨g, off, none⟩ ∧ base ≤ g ∧ n ≤ cap ∧ cap ≤ maxLen ∧ off + cap ≤ sz ∧ RowI w g off n t sz D := by
  obtain ⟨hl, ao', cap', e, k1, k2, k3⟩ := h
  cases e
  rcases k3 with k3 | ⟨g, off, cur, rfl, hb, hg, hs, he⟩
  · omega
  · refine ⟨g, off, cur.size, rfl, hb, k1, k2, by omega, cur, hg, by omega, rfl, fun i hi => ?_⟩
    rw [← hx i hi, ← he, List.getElem?_take, if_pos (by omega), List.getElem?_drop, Array.getElem?_toList]
/-- 's[i:j]'. -/
theorem run_slice_mid {P : Program} (t e : TypeId) (sz : Nat) (ht : P.underlying t = some (.slice e)) (hs : (P.info? e).map (·.size) = some sz) (a : Option Addr) (n cap i j : Nat) (hij : i ≤ j) (hj : j ≤ cap) (w : World) :
    (Instr.sliceAt t (.slice a n cap) (some (.int .i64 (i : Int))) (some (.int .i64 (j : Int))) none).run P w = .ok (.slice (if cap = i then a else a.map (·.add (i * sz))) (j - i) (cap - i)) w := by
  obtain ⟨inf, hi, hsz⟩ : ∃ i, P.info? e = some i ∧ i.size = sz := by
    cases h : P.info? e with
    | none => simp [h] at hs
    | some i => exact ⟨i, rfl, by simpa [h] using hs⟩
  simp [Instr.sliceAt, Instr.slice, run_underlying ht, Instr.sliceBounds, Instr.sliceBound, asIntOf, sizeOf, typeInfo, hi, hsz]
  rw [if_pos (by omega)]
  rw [if_pos hij]
/-- .. reads so. -/
theorem rd_mid {w : World} {a : Option Addr} {n cap : Nat} {xs : List Value} (h : rd w (.slice a n cap) n xs) (hx : xs.length = n) (i j : Nat) (hij : i ≤ j) (hj : j ≤ n) :
    rd w (.slice (if cap = i then a else a.map (·.add (i * 1))) (j - i) (cap - i)) (j - i) ((xs.drop i).take (j - i)) := by
  have h1 := rd_drop h (sz := 1) (by omega) i (by omega)
  have h2 := rd_take h1 (j - i) (j - i) (by omega)
  simpa only [Nat.mul_one] using h2

def iV (x : UInt32) : Value := .int .i64 (wv x)
def stI (s : St) : List Value := [iV s.a, iV s.b, iV s.c, iV s.d, iV s.e, iV s.f, iV s.g, iV s.h]
theorem stI_get (s : St) (j : Nat) (h : j < 8) : (stI s)[j]? = some (iV (stWord s j)) := by
  obtain rfl | rfl | rfl | rfl | rfl | rfl | rfl | rfl : j = 0 ∨ j = 1 ∨ j = 2 ∨ j = 3 ∨ j = 4 ∨ j = 5 ∨ j = 6 ∨ j = 7 := by omega
  all_goals rfl
theorem u8_nat (x : UInt8) : x.toUInt32.toNat = x.toNat := by simp
theorem word_num (x y z t : UInt8) : (((x.toNat * 256 + y.toNat) * 256 + z.toNat) * 256 + t.toNat) = ((((x.toUInt32 <<< 24) ||| (y.toUInt32 <<< 16)) ||| (z.toUInt32 <<< 8)) ||| t.toUInt32).toNat := by
  have hx := x.toNat_lt; have hy := y.toNat_lt; have hz := z.toNat_lt; have ht := t.toNat_lt
  have e1 : (x.toUInt32 <<< 24).toNat = x.toNat * 16777216 := by
    rw [UInt32.toNat_shiftLeft, u8_nat, Nat.shiftLeft_eq]
    have : (24 : UInt32).toNat % 32 = 24 := by decide
    rw [this]; omega
  have e2 : (y.toUInt32 <<< 16).toNat = y.toNat * 65536 := by
    rw [UInt32.toNat_shiftLeft, u8_nat, Nat.shiftLeft_eq]
    have : (16 : UInt32).toNat % 32 = 16 := by decide
    rw [this]; omega
  have e3 : (z.toUInt32 <<< 8).toNat = z.toNat * 256 := by
    rw [UInt32.toNat_shiftLeft, u8_nat, Nat.shiftLeft_eq]
    have : (8 : UInt32).toNat % 32 = 8 := by decide
    rw [this]; omega
  rw [UInt32.toNat_or, UInt32.toNat_or, UInt32.toNat_or, e1, e2, e3, u8_nat, nat_join 24 (x.toNat * 16777216) (y.toNat * 65536) (by omega) (by omega), nat_join 16 (x.toNat * 16777216 + y.toNat * 65536) (z.toNat * 256) (by omega) (by omega), nat_join 8 _ t.toNat (by omega) (by omega)]
  omega
theorem num_word (b : List UInt8) (t : Nat) (h : 4 * t + 4 ≤ b.length) : ((numM ((b.drop (4 * t)).take 4) : Nat) : Int) = wv (wordAt b t) := by
  have e : (b.drop (4 * t)).take 4 = [b.getD (4 * t) 0, b.getD (4 * t + 1) 0, b.getD (4 * t + 2) 0, b.getD (4 * t + 3) 0] := by
    apply List.ext_getElem?
    intro j
    rw [List.getElem?_take]
    split
    · rw [List.getElem?_drop]
      have hj : j = 0 ∨ j = 1 ∨ j = 2 ∨ j = 3 := by omega
      rcases hj with rfl | rfl | rfl | rfl <;> simp [List.getD_eq_getElem?_getD, List.getElem?_eq_getElem (show 4 * t < b.length by omega), List.getElem?_eq_getElem (show 4 * t + 1 < b.length by omega), List.getElem?_eq_getElem (show 4 * t + 2 < b.length by omega), List.getElem?_eq_getElem (show 4 * t + 3 < b.length by omega)]
    · rw [List.getElem?_eq_none (by simp; omega)]
  rw [e]
  unfold wv wordAt
  rw [← word_num]
  simp [numM]
theorem sch_next (b : List UInt8) (t : Nat) (ht : t < 64) (j : Nat) : (sch b (t + 1)).getD j 0 = if j = t then wAt b t else (sch b t).getD j 0 := by
  have hl := sch_length b t
  rw [sch_wAt b t ht]
  by_cases h : j = t
  · subst h; rw [if_pos rfl, List.getD_eq_getElem?_getD, List.getElem?_append_right (by omega)]; simp [hl]
  · rw [if_neg h, List.getD_eq_getElem?_getD, List.getD_eq_getElem?_getD]
    by_cases h2 : j < t
    · rw [List.getElem?_append_left (by omega)]
    · rw [List.getElem?_eq_none (by simp; omega), List.getElem?_eq_none (by omega)]
theorem RowI.sch {w : World} {g : Nat} {t : TypeId} {b : List UInt8} {k : Nat} (h : RowI w g 0 64 t 64 (fun j => if j = k then iV (wAt b k) else iV ((sch b k).getD j 0))) (hk : k < 64) : RowI w g 0 64 t 64 (fun j => iV ((sch b (k + 1)).getD j 0)) :=
  h.congr fun j _ => by
    rw [sch_next b k hk]
    split <;> rfl
theorem kI_get (t : Nat) (h : t < 64) : kI.toList[t]? = some (.int .i64 (wv (kTab.getD t 0))) := by
  have : t < kTab.length := by have : kTab.length = 64 := by decide
                               omega
  rw [kI_eq]
  simp [List.getD_eq_getElem?_getD, List.getElem?_eq_getElem this]
theorem wrap64_small (n : Int) (h0 : 0 ≤ n) (h1 : n < 9223372036854775808) : wrap64 n = n := by
  unfold wrap64; omega
theorem own_empty (w : World) (base : Nat) (e : TypeId) (sz : Nat) (ao : Option Addr) : own w base e sz (.slice ao 0 0) 0 [] :=
  ⟨by simp, ao, 0, rfl, Nat.le_refl _, Nat.zero_le _, .inl rfl⟩
theorem iV_zero : Value.int .i64 0 = iV 0 := by rfl
set_option maxHeartbeats 2000000 in
set_option maxRecDepth 100000 in
theorem rblock_any (s : St) (b : List UInt8) (hv kv mv : Value) (w : World) (hh : rd w hv 8 (stI s)) (hk : rd w kv 64 kI.toList) (hb : rd w mv 64 (b.map vB)) (hl : b.length = 64) :
    Calls Tryd.prog 48 #[hv, kv, mv] w fun e w' => ∃ v, e = .returned v ∧ own w' w.heap.size 3 1 v 8 (stI (blockM s b)) ∧ Below w.heap.size w w' := by
  have hh' := hh; have hk' := hk; have hb' := hb
  obtain ⟨ha, hcap, rfl, h1, h2, h3⟩ := hh'
  obtain ⟨ka, kcap, rfl, k1, k2, k3⟩ := hk'
  obtain ⟨ma, mcap, rfl, m1, m2, m3⟩ := hb'
  unfold maxLen at h2 k2 m2
  have mk : ∀ w, (Instr.makeSlice 75 (.int .i64 64) (.int .i64 64)).run Tryd.prog w = .ok (.slice (some ⟨w.heap.size, 0, none⟩) 64 64) (w.alloc (.cells (Array.replicate 64 (.int .i64 0)) 3)) := mk_int 64 (by omega)
  have HM := Lib.hid (CellsI.made w 64 3 (.int .i64 0))
  have HB := Lib.hid hb; have HH := Lib.hid hh; have HK := Lib.hid hk
  clear hb hh hk h3 k3 m3
  go_enter Tryd.func48, Tryd.ntmps48
  go_wp2_with fail
  go_loopw [8] (fun i wr => ∃ k : Nat, k ≤ 64 ∧ i = .int .i64 k ∧ Below w.heap.size w wr ∧ RowI wr w.heap.size 0 64 3 64 (fun j => iV ((sch b k).getD j 0))) (fun i _ => 64 - (intOf i).toNat)
  case atStart =>
    obtain ⟨c, c1, c2, c3⟩ := HM.out.blk
    refine ⟨0, by omega, rfl, (Below.refl _ _).alloc (Nat.le_refl _) _, _, heap_alloc_new w _, by simp, by simp, fun i hi => ?_⟩
    rw [sch_zero]
    simp [hi, iV_zero]
  case round =>
    obtain ⟨t, ht, rfl, hB, hR⟩ := hrel
    by_cases hlt : t < 64
    · by_cases h16 : t < 16
      · have hmid := rd_mid HB.out (by rw [List.length_map, hl]) (4 * t) (4 * t + 4) (by omega) (by omega)
        rw [if_neg (by omega), show 4 * t + 4 - 4 * t = 4 from by omega, Nat.mul_one, ← List.map_drop, ← List.map_take] at hmid
        have HMID := Lib.hid (rd_belowB hmid hB (Nat.le_refl _))
        have hR0 := Lib.hid hR; have B0 := Lib.hid hB
        clear hmid hR hB
        go_wp2_with fail
        refine (num_any _ _ 4 wr HMID.out (by simp; omega) (by omega) (by omega)).mono ?_
        rintro e w1 ⟨rfl, hb1⟩
        rw [num_word b t (by omega), ← wAt_low b t h16]
        have hR1 := hR0.out.kept (hb1.block _ hR0.out.lt)
        have B1 := Lib.hid (B0.out.trans (hb1.mono B0.out.size))
        have hc := hR1.at t (by omega)
        have hf := hR1.free t
        have hput := hR1.put t (by omega) (iV (wAt b t))
        rw [Nat.zero_add] at hc hput
        unfold iV at hc
        have HP := Lib.hid hput
        clear hb1 hR1 hput
        go_wp2
        go_roundw
        case rel => exact ⟨t + 1, by omega, by go_num, B1.out.setCell (Nat.le_refl _) _, HP.out.sch hlt⟩
        case measure => simp [intOf]; omega
      · obtain ⟨m, rfl⟩ : ∃ m, t = m + 16 := ⟨t - 16, by omega⟩
        rw [show ((m + 16 : Nat) : Int) = (m : Int) + 16 from by omega]
        have hc : ∀ j, j < m + 16 → wr.cell? ⟨w.heap.size, j, none⟩ = some (.int .i64 (wv (wAt b j))) := fun j hj => by
          have := hR.at j (by omega)
          rw [Nat.zero_add, sch_getD_wAt b _ _ hj (by omega)] at this
          exact this
        have hc15 := hc (m + 1) (by omega)
        have hc2 := hc (m + 14) (by omega)
        have hc7 := hc (m + 9) (by omega)
        have hc16 := hc m (by omega)
        have hd := hR.at (m + 16) hlt
        have hf := hR.free (m + 16)
        have hput := hR.put (m + 16) hlt (iV (wAt b (m + 16)))
        rw [Nat.zero_add] at hd hput
        unfold iV at hd
        generalize (sch b (m + 16)).getD (m + 16) 0 = z at hd
        have hw := wAt_high b (m + 16) (by omega) (by omega)
        rw [show m + 16 - 2 = m + 14 from by omega, show m + 16 - 7 = m + 9 from by omega, show m + 16 - 15 = m + 1 from by omega, show m + 16 - 16 = m from by omega] at hw
        have HW := Lib.hid hw; have HP := Lib.hid hput; have HR := Lib.hid hR; have B0 := Lib.hid hB
        clear hw hput hR hB hc
        generalize wAt b (m + 1) = x15 at hc15 HW
        generalize wAt b (m + 14) = x2 at hc2 HW
        generalize wAt b (m + 9) = x7 at hc7 HW
        generalize wAt b m = x16 at hc16 HW
        have hx := wi_xor
        have h3 := wv_shr3
        have h10 := wv_shr10
        go_wp2_with fail
        refine (turn_7 x15 _).mono ?_
        rintro e w' ⟨rfl, rfl⟩
        go_wp2_with fail
        refine (turn_18 x15 _).mono ?_
        rintro e w' ⟨rfl, rfl⟩
        go_wp2_with fail
        refine (turn_17 x2 _).mono ?_
        rintro e w' ⟨rfl, rfl⟩
        go_wp2_with fail
        refine (turn_19 x2 _).mono ?_
        rintro e w' ⟨rfl, rfl⟩
        go_wp2_with fail
        generalize hS0 : rotr 7 x15 ^^^ rotr 18 x15 ^^^ x15 >>> 3 = S0
        generalize hS1 : rotr 17 x2 ^^^ rotr 19 x2 ^^^ x2 >>> 10 = S1
        have hsum : (wv S1 + wv x7 + wv S0 + wv x16) % 4294967296 = wv (wAt b (m + 16)) := by
          rw [HW.out, ← hS0, ← hS1]
          exact wi_sum (wi_sum (wi_sum (wi_self _) (wi_self _)) (wi_self _)) (wi_self _)
        have HSUM := Lib.hid hsum; have HS0 := Lib.hid hS0; have HS1 := Lib.hid hS1
        have n0 := wv_nonneg S0; have n1 := wv_nonneg S1; have n7 := wv_nonneg x7; have n16 := wv_nonneg x16
        have l0 := wv_lt S0; have l1 := wv_lt S1; have l7 := wv_lt x7; have l16 := wv_lt x16
        have hlow := i64_low (wv S1 + wv x7 + wv S0 + wv x16) (by omega) (by omega)
        clear hsum hS0 hS1 hx h3 h10
        go_region
        go_wp2
        go_roundw
        case rel =>
          refine ⟨m + 16 + 1, by omega, by go_num, (B0.out.setCell (Nat.le_refl _) _).drew.drew.drew.drew.drew, ?_⟩
          have e := HP.out.sch hlt
          unfold iV at e
          rw [HSUM.out]
          exact e
        case measure => simp [intOf]; omega
    · obtain rfl : t = 64 := by omega
      have hR0 := Lib.hid hR; have B0 := Lib.hid hB
      clear hR hB ht
      obtain ⟨i0, hi0, hz0, hz1, hz2⟩ := info_parts' info_int
      have B1 := Lib.hid (B0.out.alloc B0.out.size (.cells #[] 3))
      have hR1 := Lib.hid (hR0.out.kept (Below.heap_alloc wr (.cells #[] 3) _ hR0.out.lt))
      have HH1 := Lib.hid (rd_belowB HH.out B1.out (Nat.le_refl _))
      go_wp2_with (at_builtin; refine wpList_append_rd rfl (.tmp 87) (.tmp 88) 75 rfl 3 i0 (.int .i64 0) 1 8 Tryd.underlying75 hi0 hz0 hz1 hz2 rfl (by decide) (w.heap.size + 1) 0 [] (own_empty _ _ _ _ _) 8 (stI s) ?c1 HH1.out ?c5 ?c2 ?c3 ?c4 ?_)
      case c1 => rfl
      case c5 => intro u hu; simp only [stI, List.mem_cons, List.not_mem_nil, or_false] at hu; rcases hu with rfl | rfl | rfl | rfl | rfl | rfl | rfl | rfl <;> rfl
      case c2 => unfold maxLen; omega
      case c3 => omega
      case c4 => have := hR1.out.lt; omega
      intro v1 w2 ho1 _ hg1
      have B2 := Lib.hid (B1.out.grown hg1 B1.out.size (fun q hq => by cases hq))
      have hR2 := Lib.hid (hR1.out.kept (hg1.block _ hR1.out.lt (fun e => by cases e)))
      have ho1' := ho1
      obtain ⟨-, vo, vcap, rfl, -, -, -⟩ := ho1'
      obtain ⟨C, off, vsz, rfl, vb, v1, v2, v3, hV⟩ := RowI.of_own ho1 (by omega) (fun j => iV (stWord s j)) (fun i hi => stI_get s i hi)
      have hV2 := Lib.hid hV
      clear ho1 hg1 hV
      unfold maxLen at v2
      obtain ⟨w3, rfl⟩ : ∃ w3 : World, w3 = w2 := ⟨_, rfl⟩
      go_wp2_with fail
      go_loopw [14] (fun i wq => ∃ k : Nat, k ≤ 64 ∧ i = .int .i64 k ∧ Below w.heap.size w wq ∧ RowI wq w.heap.size 0 64 3 64 (fun j => iV ((sch b 64).getD j 0)) ∧ RowI wq C off 8 3 vsz (fun j => iV (stWord (rnds s b k) j))) (fun i _ => 64 - (intOf i).toNat)
      case atStart => exact ⟨0, by omega, rfl, B2.out, hR2.out, by rw [rnds_zero]; exact hV2.out⟩
      case round =>
        obtain ⟨t, ht, rfl, hB, hW, hV⟩ := hrel
        by_cases hlt2 : t < 64
        · have hw := hW.at t hlt2
          rw [Nat.zero_add, sch_getD_wAt b _ _ hlt2 (by omega)] at hw
          have hkk := HK.out
          obtain ⟨_, _, e1, -, -, e3⟩ := hkk
          cases e1
          rcases e3 with e3 | ⟨kg, koff, rfl, e3⟩
          · have := congrArg List.length e3; rw [Array.length_toList, kI_size] at this; cases this
          have hkc : w.cell? ⟨kg, koff + t, none⟩ = some (.int .i64 (wv (kTab.getD t 0))) := e3 t _ (kI_get t hlt2)
          have hk1 := (hB.cell (World.block_lt_of_cell? w _ hkc)).trans hkc
          have HR := Lib.hid (rnds_succ s b t)
          have hv : ∀ j, j < 8 → wr.cell? ⟨C, off + j, none⟩ = some (.int .i64 (wv (stWord (rnds s b t) j))) := fun j hj => hV.at j hj
          have hv0 : wr.cell? ⟨C, off, none⟩ = some (.int .i64 (wv (rnds s b t).a)) := hv 0 (by omega)
          have hv1 : wr.cell? ⟨C, off + 1, none⟩ = some (.int .i64 (wv (rnds s b t).b)) := hv 1 (by omega)
          have hv2 : wr.cell? ⟨C, off + 2, none⟩ = some (.int .i64 (wv (rnds s b t).c)) := hv 2 (by omega)
          have hv4 : wr.cell? ⟨C, off + 4, none⟩ = some (.int .i64 (wv (rnds s b t).e)) := hv 4 (by omega)
          have hv5 : wr.cell? ⟨C, off + 5, none⟩ = some (.int .i64 (wv (rnds s b t).f)) := hv 5 (by omega)
          have hv6 : wr.cell? ⟨C, off + 6, none⟩ = some (.int .i64 (wv (rnds s b t).g)) := hv 6 (by omega)
          have hv7 : wr.cell? ⟨C, off + 7, none⟩ = some (.int .i64 (wv (rnds s b t).h)) := hv 7 (by omega)
          have HV := Lib.hid hV; have B3 := Lib.hid hB; have HW := Lib.hid hW
          clear e3 hkc hv hV hB hW
          obtain ⟨V, hVV⟩ : ∃ V, rnds s b t = V := ⟨_, rfl⟩
          obtain ⟨x, hxx⟩ : ∃ x, wAt b t = x := ⟨_, rfl⟩
          obtain ⟨kt, hkt⟩ : ∃ kt, kTab.getD t 0 = kt := ⟨_, rfl⟩
          rw [hVV] at hv0 hv1 hv2 hv4 hv5 hv6 hv7 HV HR
          rw [hxx] at hw HR
          rw [hkt] at hk1 HR
          clear hVV hxx hkt
          obtain ⟨T6, hT6⟩ : ∃ z, rotr 6 V.e = z := ⟨_, rfl⟩
          have cT6 := fun wz => turn_6 V.e wz
          rw [hT6] at cT6
          have HT6 := Lib.hid cT6; clear cT6
          obtain ⟨T11, hT11⟩ : ∃ z, rotr 11 V.e = z := ⟨_, rfl⟩
          have cT11 := fun wz => turn_11 V.e wz
          rw [hT11] at cT11
          have HT11 := Lib.hid cT11; clear cT11
          obtain ⟨T25, hT25⟩ : ∃ z, rotr 25 V.e = z := ⟨_, rfl⟩
          have cT25 := fun wz => turn_25 V.e wz
          rw [hT25] at cT25
          have HT25 := Lib.hid cT25; clear cT25
          obtain ⟨T2, hT2⟩ : ∃ z, rotr 2 V.a = z := ⟨_, rfl⟩
          have cT2 := fun wz => turn_2 V.a wz
          rw [hT2] at cT2
          have HT2 := Lib.hid cT2; clear cT2
          obtain ⟨T13, hT13⟩ : ∃ z, rotr 13 V.a = z := ⟨_, rfl⟩
          have cT13 := fun wz => turn_13 V.a wz
          rw [hT13] at cT13
          have HT13 := Lib.hid cT13; clear cT13
          obtain ⟨T22, hT22⟩ : ∃ z, rotr 22 V.a = z := ⟨_, rfl⟩
          have cT22 := fun wz => turn_22 V.a wz
          rw [hT22] at cT22
          have HT22 := Lib.hid cT22; clear cT22
          obtain ⟨Y1, hY1⟩ : ∃ z, T6 ^^^ T11 = z := ⟨_, rfl⟩
          have EY1 : Hid (bits .xor .i64 (wv T6) (wv T11) = wv Y1) := by show _ = _; rw [wi_xor, hY1]
          obtain ⟨S1, hS1⟩ : ∃ z, Y1 ^^^ T25 = z := ⟨_, rfl⟩
          have ES1 : Hid (bits .xor .i64 (wv Y1) (wv T25) = wv S1) := by show _ = _; rw [wi_xor, hS1]
          obtain ⟨C1, hC1⟩ : ∃ z, V.e &&& V.f = z := ⟨_, rfl⟩
          have EC1 : Hid (bits .and .i64 (wv V.e) (wv V.f) = wv C1) := by show _ = _; rw [wi_and, hC1]
          obtain ⟨NE, hNE⟩ : ∃ z, ~~~ V.e = z := ⟨_, rfl⟩
          have ENE : Hid (4294967295 - wv V.e = wv NE) := by show _ = _; rw [wi_not, hNE]
          obtain ⟨C2, hC2⟩ : ∃ z, NE &&& V.g = z := ⟨_, rfl⟩
          have EC2 : Hid (bits .and .i64 (wv NE) (wv V.g) = wv C2) := by show _ = _; rw [wi_and, hC2]
          obtain ⟨CH, hCH⟩ : ∃ z, C1 ^^^ C2 = z := ⟨_, rfl⟩
          have ECH : Hid (bits .xor .i64 (wv C1) (wv C2) = wv CH) := by show _ = _; rw [wi_xor, hCH]
          obtain ⟨Y2, hY2⟩ : ∃ z, T2 ^^^ T13 = z := ⟨_, rfl⟩
          have EY2 : Hid (bits .xor .i64 (wv T2) (wv T13) = wv Y2) := by show _ = _; rw [wi_xor, hY2]
          obtain ⟨S0, hS0⟩ : ∃ z, Y2 ^^^ T22 = z := ⟨_, rfl⟩
          have ES0 : Hid (bits .xor .i64 (wv Y2) (wv T22) = wv S0) := by show _ = _; rw [wi_xor, hS0]
          obtain ⟨M1, hM1⟩ : ∃ z, V.a &&& V.b = z := ⟨_, rfl⟩
          have EM1 : Hid (bits .and .i64 (wv V.a) (wv V.b) = wv M1) := by show _ = _; rw [wi_and, hM1]
          obtain ⟨M2, hM2⟩ : ∃ z, V.a &&& V.c = z := ⟨_, rfl⟩
          have EM2 : Hid (bits .and .i64 (wv V.a) (wv V.c) = wv M2) := by show _ = _; rw [wi_and, hM2]
          obtain ⟨M3, hM3⟩ : ∃ z, M1 ^^^ M2 = z := ⟨_, rfl⟩
          have EM3 : Hid (bits .xor .i64 (wv M1) (wv M2) = wv M3) := by show _ = _; rw [wi_xor, hM3]
          obtain ⟨M4, hM4⟩ : ∃ z, V.b &&& V.c = z := ⟨_, rfl⟩
          have EM4 : Hid (bits .and .i64 (wv V.b) (wv V.c) = wv M4) := by show _ = _; rw [wi_and, hM4]
          obtain ⟨MJ, hMJ⟩ : ∃ z, M3 ^^^ M4 = z := ⟨_, rfl⟩
          have EMJ : Hid (bits .xor .i64 (wv M3) (wv M4) = wv MJ) := by show _ = _; rw [wi_xor, hMJ]
          have hP : rndP V kt x = V.h + S1 + CH + kt + x := by rw [← hS1, ← hY1, ← hT6, ← hT11, ← hT25, ← hCH, ← hC1, ← hC2, ← hNE]; rfl
          have hQ : rndQ V = S0 + MJ := by rw [← hS0, ← hY2, ← hT2, ← hT13, ← hT22, ← hMJ, ← hM3, ← hM1, ← hM2, ← hM4]; rfl
          have HP := Lib.hid hP; have HQ := Lib.hid hQ
          clear hP hQ hT6 hT11 hT25 hT2 hT13 hT22 hY1 hS1 hC1 hNE hC2 hCH hY2 hS0 hM1 hM2 hM3 hM4 hMJ
          unfold iV at hw
          clear B0 hR0 B1 hR1 HH1 B2 hR2 hV2 mk HM HB hlt
          go_wp2_with fail
          have eY1 := EY1.out
          have eS1 := ES1.out
          have eC1 := EC1.out
          have eNE := ENE.out
          have eC2 := EC2.out
          have eCH := ECH.out
          go_quiet ((go_at_call 66; first | with_reducible exact turn_add (HT6.out _) | with_reducible exact turn_left (HT6.out _) | with_reducible exact turn_add (HT11.out _) | with_reducible exact turn_left (HT11.out _) | with_reducible exact turn_add (HT25.out _) | with_reducible exact turn_left (HT25.out _)))
          generalize hp : wrap64 (wrap64 (wrap64 (wrap64 (wv V.h + wv S1) + bits .xor .i64 (wv C1) (bits .and .i64 (wrap64 (wv NE)) (wv V.g))) + wv kt) + wv x) = p
          have hp3 : 0 ≤ p ∧ p < 21474836480 ∧ p % 4294967296 = wv (rndP V kt x) := by
            have nh := wv_nonneg V.h; have lh := wv_lt V.h
            have nkt := wv_nonneg kt; have lkt := wv_lt kt
            have nx := wv_nonneg x; have lx := wv_lt x
            have nS1 := wv_nonneg S1; have lS1 := wv_lt S1
            have nCH := wv_nonneg CH; have lCH := wv_lt CH
            have nNE := wv_nonneg NE; have lNE := wv_lt NE
            rw [wrap64_small (wv NE) (by omega) (by omega), EC2.out, ECH.out, wrap64_small (wv V.h + wv S1) (by omega) (by omega), wrap64_small (wv V.h + wv S1 + wv CH) (by omega) (by omega), wrap64_small (wv V.h + wv S1 + wv CH + wv kt) (by omega) (by omega), wrap64_small _ (by omega) (by omega)] at hp
            refine ⟨by omega, by omega, ?_⟩
            rw [← hp, HP.out]
            exact wi_sum (wi_sum (wi_sum (wi_sum (wi_self _) (wi_self _)) (wi_self _)) (wi_self _)) (wi_self _)
          have HP3 := Lib.hid hp3
          clear hp hp3 eY1 eS1 eC1 eNE eC2 eCH
          go_wp2_with fail
          have eY2 := EY2.out; have eS0 := ES0.out; have eM1 := EM1.out; have eM2 := EM2.out; have eM3 := EM3.out; have eM4 := EM4.out; have eMJ := EMJ.out
          go_quiet ((go_at_call 66; first | with_reducible exact turn_add (HT2.out _) | with_reducible exact turn_left (HT2.out _) | with_reducible exact turn_add (HT13.out _) | with_reducible exact turn_left (HT13.out _) | with_reducible exact turn_add (HT22.out _) | with_reducible exact turn_left (HT22.out _)))
          generalize hq : wrap64 (wv S0 + wv MJ) = q
          have hq3 : 0 ≤ q ∧ q < 8589934592 ∧ q % 4294967296 = wv (rndQ V) := by
            have nS0 := wv_nonneg S0; have lS0 := wv_lt S0
            have nMJ := wv_nonneg MJ; have lMJ := wv_lt MJ
            rw [wrap64_small _ (by omega) (by omega)] at hq
            refine ⟨by omega, by omega, ?_⟩
            rw [← hq, HQ.out]
            exact wi_sum (wi_self _) (wi_self _)
          have HQ3 := Lib.hid hq3
          clear hq hq3 eY2 eS0 eM1 eM2 eM3 eM4 eMJ
          generalize hw5 : (wr.drewN _).drewN _ = w5
          have B5 : Hid (Below w.heap.size w w5) := by show Below _ _ _; rw [← hw5]; exact below_drewN (below_drewN B3.out _) _
          have HW5 := Lib.hid (HW.out.kept (w' := w5) (by rw [← hw5]; rfl))
          have HV5 := Lib.hid (HV.out.kept (w' := w5) (by rw [← hw5]; rfl))
          clear hw5 hv0 hv1 hv2 hv4 hv5 hv6 hv7 hw hk1 B3 HW HV HT6 HT11 HT25 HT2 HT13 HT22 EY1 ES1 EC1 ENE EC2 ECH EY2 ES0 EM1 EM2 EM3 EM4 EMJ HP HQ
          go_wp2_with fail
          obtain ⟨w6, rfl⟩ : ∃ w6 : World, w6 = w5 := ⟨_, rfl⟩
          go_loopw [19] (fun i wq => ∃ k : Nat, k ≤ 7 ∧ i = .int .i64 k ∧ Below w.heap.size w wq ∧ RowI wq w.heap.size 0 64 3 64 (fun j => iV ((sch b 64).getD j 0)) ∧ RowI wq C off 8 3 vsz (fun j => iV (stWord V (if k < j then j - 1 else j)))) (fun i _ => (intOf i).toNat)
          case atStart => exact ⟨7, by omega, rfl, B5.out, HW5.out, HV5.out.congr (fun i hi => by rw [if_neg (by omega)])⟩
          case round =>
            obtain ⟨i, hi, rfl, hB, hW, hV⟩ := hrel
            by_cases hi0 : 0 < i
            · obtain ⟨i', rfl⟩ : ∃ i', i = i' + 1 := ⟨i - 1, by omega⟩
              have hc1 := hV.at i' (by omega)
              have hc2 := hV.at (i' + 1) (by omega)
              rw [if_neg (by omega)] at hc1 hc2
              have hf := hV.free (off + (i' + 1))
              have hput := Lib.hid (hV.put (i' + 1) (by omega) (iV (stWord V i')))
              have hset := Lib.hid (hW.set ⟨C, off + (i' + 1), none⟩ (iV (stWord V i')) (by show _ ≠ C; omega))
              have B6 : Hid (Below w.heap.size w (wr.setCell ⟨C, off + (i' + 1), none⟩ (iV (stWord V i')))) := hB.setCell (by show _ ≤ C; omega) _
              rw [show ((i' + 1 : Nat) : Int) = (i' : Int) + 1 from by omega]
              clear hB hW hV
              obtain ⟨X1, hX1⟩ : ∃ z, stWord V i' = z := ⟨_, rfl⟩
              rw [hX1] at hc1 hput hset B6
              unfold iV at hc1 hc2
              have HX1 := Lib.hid hX1; clear hX1
              generalize stWord V (i' + 1) = X2 at hc2
              go_wp2
              go_roundw
              case rel =>
                refine ⟨i', by omega, by go_num, B6.out, hset.out, hput.out.congr (fun j hj => ?_)⟩
                by_cases e1 : j = i' + 1
                · rw [if_pos e1, if_pos (by omega), e1, Nat.add_sub_cancel, HX1.out]
                · rw [if_neg e1]
                  by_cases e2 : i' + 1 < j
                  · rw [if_pos e2, if_pos (by omega)]
                  · rw [if_neg e2, if_neg (by omega)]
              case measure => simp [intOf]
            · obtain rfl : i = 0 := by omega
              have HB6 := Lib.hid hB; have HW6 := Lib.hid hW
              have hv0 := hV.at 0 (by omega)
              have hv4 := hV.at 4 (by omega)
              rw [if_neg (by omega), Nat.add_zero] at hv0
              rw [if_pos (by omega)] at hv4
              have hf0 := hV.free off
              have hf4 := hV.free (off + 4)
              obtain ⟨p0, p1, p2⟩ := HP3.out
              obtain ⟨q0, q1, q2⟩ := HQ3.out
              have hv4' : wr.cell? ⟨C, off + 4, none⟩ = some (.int .i64 (wv V.d)) := hv4
              have nd := wv_nonneg V.d; have ld := wv_lt V.d
              have s4 : (wv V.d + p) % 4294967296 = wv (V.d + rndP V kt x) := wi_sum (wi_self _) p2
              have s0 : (p + q) % 4294967296 = wv (rndP V kt x + rndQ V) := wi_sum p2 q2
              have low4 := i64_low (wv V.d + p) (by omega) (by omega)
              have low0 := i64_low (p + q) (by omega) (by omega)
              obtain ⟨Y4, hY4⟩ : ∃ z, V.d + rndP V kt x = z := ⟨_, rfl⟩
              obtain ⟨Y0, hY0⟩ : ∃ z, rndP V kt x + rndQ V = z := ⟨_, rfl⟩
              rw [hY4] at s4; rw [hY0] at s0
              have hp4 := hV.put 4 (by omega) (iV Y4)
              have hp0 := hp4.put 0 (by omega) (iV Y0)
              rw [Nat.add_zero] at hp0
              have HP0 := Lib.hid hp0; have HY4 := Lib.hid hY4; have HY0 := Lib.hid hY0
              have c0 : (wr.setCell ⟨C, off + 4, none⟩ (iV Y4)).cell? ⟨C, off, none⟩ = some (iV (stWord V 0)) := by
                have := hp4.at 0 (by omega)
                rw [if_neg (by omega), if_neg (by omega), Nat.add_zero] at this
                exact this
              have f0 := hp4.free off
              unfold iV at hv0 c0 f0
              have hset : Hid (RowI ((wr.setCell ⟨C, off + 4, none⟩ (iV Y4)).setCell ⟨C, off, none⟩ (iV Y0)) w.heap.size 0 64 3 64 (fun j => iV ((sch b 64).getD j 0))) := (hW.set _ _ (by show _ ≠ C; omega)).set _ _ (by show _ ≠ C; omega)
              have B7 : Hid (Below w.heap.size w ((wr.setCell ⟨C, off + 4, none⟩ (iV Y4)).setCell ⟨C, off, none⟩ (iV Y0))) := (hB.setCell (by show _ ≤ C; omega) _).setCell (by show _ ≤ C; omega) _
              generalize stWord V 0 = X0 at hv0 c0
              clear hv4 hp4 hp0 hY4 hY0 p2 q2 hB hW hV
              go_wp2
              go_roundw
              case rel =>
                refine ⟨t + 1, by omega, by go_num, B7.out, hset.out, HP0.out.congr (fun j hj => ?_)⟩
                rw [HR.out]
                obtain rfl | rfl | rfl | rfl | rfl | rfl | rfl | rfl : j = 0 ∨ j = 1 ∨ j = 2 ∨ j = 3 ∨ j = 4 ∨ j = 5 ∨ j = 6 ∨ j = 7 := by omega
                · rw [if_pos rfl, ← HY0.out]; rfl
                · rfl
                · rfl
                · rfl
                · rw [if_neg (by omega), if_pos rfl, ← HY4.out]; rfl
                · rfl
                · rfl
                · rfl
              case measure => simp [intOf]; omega
        · obtain rfl : t = 64 := by omega
          have HV := Lib.hid hV; have B3 := Lib.hid hB
          have hst := blockM_eq s b
          obtain ⟨V, hVV⟩ : ∃ V, rnds s b 64 = V := ⟨_, rfl⟩
          rw [hVV] at HV hst
          have HST := Lib.hid hst
          clear hst hVV hV hB hW ht hR0 B0 B1 hR1 HH1 B2 hR2 hV2 HK HB mk HM
          go_wp2_with fail
          obtain ⟨w6, rfl⟩ : ∃ w6 : World, w6 = wr := ⟨_, rfl⟩
          go_loopw [20] (fun i wq => ∃ k : Nat, k ≤ 8 ∧ i = .int .i64 k ∧ Below w.heap.size w wq ∧ RowI wq C off 8 3 vsz (fun j => iV (if j < k then stWord V j + stWord s j else stWord V j))) (fun i _ => 8 - (intOf i).toNat)
          case atStart => exact ⟨0, by omega, rfl, B3.out, HV.out.congr (fun i hi => by rw [if_neg (by omega)])⟩
          case round =>
            obtain ⟨i, hi, rfl, hB, hV⟩ := hrel
            by_cases hi8 : i < 8
            · have hc1 := hV.at i hi8
              rw [if_neg (by omega)] at hc1
              have hf := hV.free (off + i)
              have hput := hV.put i hi8 (iV (stWord V i + stWord s i))
              have hkk := HH.out
              obtain ⟨_, _, e1, -, -, e3⟩ := hkk
              cases e1
              rcases e3 with e3 | ⟨hg, hoff, rfl, e3⟩
              · cases e3
              have hc2 := e3 i _ (stI_get s i hi8)
              have hc3 := (hB.cell (World.block_lt_of_cell? w _ hc2)).trans hc2
              have B6 : Hid (Below w.heap.size w (wr.setCell ⟨C, off + i, none⟩ (iV (stWord V i + stWord s i)))) := hB.setCell (by show _ ≤ C; omega) _
              obtain ⟨X1, hX1⟩ : ∃ z, stWord V i = z := ⟨_, rfl⟩
              obtain ⟨X2, hX2⟩ : ∃ z, stWord s i = z := ⟨_, rfl⟩
              rw [hX1, hX2] at hput B6
              rw [hX1] at hc1
              rw [hX2] at hc3
              obtain ⟨Y, hY⟩ : ∃ z, X1 + X2 = z := ⟨_, rfl⟩
              rw [hY] at hput B6
              have hs : (wv X1 + wv X2) % 4294967296 = wv Y := by rw [← hY]; exact wi_sum (wi_self _) (wi_self _)
              unfold iV at hc1 hc3
              have hval : Hid (bits .and .i64 (wrap64 (wv X1 + wv X2)) 4294967295 = wv Y) := by
                show _ = _
                have n1 := wv_nonneg X1; have l1 := wv_lt X1; have n2 := wv_nonneg X2; have l2 := wv_lt X2
                rw [wrap64_small _ (by omega) (by omega), i64_low _ (by omega) (by omega), hs]
              have HP := Lib.hid hput
              have HY := Lib.hid (show stWord V i + stWord s i = Y by rw [hX1, hX2, hY])
              clear hput hY hX1 hX2 hB hV e3 hc2 hs
              go_wp2_with fail
              go_region
              go_wp2
              go_roundw
              case rel =>
                rw [hval.out]
                refine ⟨i + 1, by omega, by go_num, B6.out.drew, (HP.out.congr (fun j hj => ?_)).kept rfl⟩
                by_cases e1 : j = i
                · rw [if_pos e1, if_pos (by omega), e1, HY.out]
                · rw [if_neg e1]
                  by_cases e2 : j < i
                  · rw [if_pos e2, if_pos (by omega)]
                  · rw [if_neg e2, if_neg (by omega)]
              case measure => simp [intOf]; omega
            · obtain rfl : i = 8 := by omega
              have hD := hV.congr (E := fun j => iV (stWord (blockM s b) j)) (fun j hj => by
                rw [if_pos hj, HST.out]
                obtain rfl | rfl | rfl | rfl | rfl | rfl | rfl | rfl : j = 0 ∨ j = 1 ∨ j = 2 ∨ j = 3 ∨ j = 4 ∨ j = 5 ∨ j = 6 ∨ j = 7 := by omega
                all_goals rfl)
              have HD := Lib.hid hD; have B6 := Lib.hid hB
              clear hV hB hD
              go_wp2
              go_ret
              exact ⟨_, rfl, HD.out.own rfl (fun i hi => stI_get _ i hi) (by omega) v1 v2 v3, B6.out⟩
end Go.Proofs.YtamjldakllafcaaDoor
