/- The walks of the reference's turn, Num, Put and rounds. Conditions: none beyond each theorem's own. -/
import Derived.Test.YtamjldakllafcaaDoorRevb
import Derived.Test.YtamjldakllafcaaDoorDig
import Derived.Laws.BitsLemmas
import Derived.Laws.MakeOwn
namespace Go.Proofs.YtamjldakllafcaaDoor
set_option linter.unusedVariables false
set_option linter.unusedSimpArgs false
open Go.RowKit

theorem ofInt_i64 (a : Nat) (ha : a < 9223372036854775808) : (BitVec.ofInt 64 (a : Int)).toNat = a := by
  rw [BitVec.ofInt_natCast, BitVec.toNat_ofNat]; exact Nat.mod_eq_of_lt (by omega)
theorem i64_and_nat (a b : Nat) (ha : a < 9223372036854775808) (hb : b < 9223372036854775808) : bits .and .i64 (a : Int) (b : Int) = ((a &&& b : Nat) : Int) := by
  have hx : a &&& b < 2 ^ 63 := Nat.and_lt_two_pow _ (by omega)
  show IntKind.i64.wrap ((BitVec.ofInt 64 (a : Int) &&& BitVec.ofInt 64 (b : Int)).toNat : Int) = _
  rw [BitVec.toNat_and, ofInt_i64 a ha, ofInt_i64 b hb, IntKind.wrap_i64]
  omega
theorem i64_or_nat (a b : Nat) (ha : a < 9223372036854775808) (hb : b < 9223372036854775808) : bits .or .i64 (a : Int) (b : Int) = ((a ||| b : Nat) : Int) := by
  have hx : a ||| b < 2 ^ 63 := Nat.or_lt_two_pow (by omega) (by omega)
  show IntKind.i64.wrap ((BitVec.ofInt 64 (a : Int) ||| BitVec.ofInt 64 (b : Int)).toNat : Int) = _
  rw [BitVec.toNat_or, ofInt_i64 a ha, ofInt_i64 b hb, IntKind.wrap_i64]
  omega
theorem i64_xor_nat (a b : Nat) (ha : a < 9223372036854775808) (hb : b < 9223372036854775808) : bits .xor .i64 (a : Int) (b : Int) = ((a ^^^ b : Nat) : Int) := by
  have hx : a ^^^ b < 2 ^ 63 := Nat.xor_lt_two_pow (by omega) (by omega)
  show IntKind.i64.wrap ((BitVec.ofInt 64 (a : Int) ^^^ BitVec.ofInt 64 (b : Int)).toNat : Int) = _
  rw [BitVec.toNat_xor, ofInt_i64 a ha, ofInt_i64 b hb, IntKind.wrap_i64]
  omega
theorem wi_and (a b : UInt32) : bits .and .i64 (wv a) (wv b) = wv (a &&& b) := by
  have h1 := a.toNat_lt; have h2 := b.toNat_lt
  unfold wv; rw [i64_and_nat _ _ (by omega) (by omega), UInt32.toNat_and]
theorem wi_or (a b : UInt32) : bits .or .i64 (wv a) (wv b) = wv (a ||| b) := by
  have h1 := a.toNat_lt; have h2 := b.toNat_lt
  unfold wv; rw [i64_or_nat _ _ (by omega) (by omega), UInt32.toNat_or]
theorem wi_xor (a b : UInt32) : bits .xor .i64 (wv a) (wv b) = wv (a ^^^ b) := by
  have h1 := a.toNat_lt; have h2 := b.toNat_lt
  unfold wv; rw [i64_xor_nat _ _ (by omega) (by omega), UInt32.toNat_xor]
/-- What is masked by 32 ones. -/
theorem i64_low (n : Int) (h0 : 0 ≤ n) (h1 : n < 9223372036854775808) : bits .and .i64 n 4294967295 = n % 4294967296 := by
  obtain ⟨a, rfl⟩ := Int.eq_ofNat_of_zero_le h0
  rw [show (4294967295 : Int) = ((4294967295 : Nat) : Int) from rfl, i64_and_nat _ _ (by omega) (by omega), nat_mask32]
  omega
theorem wi_not (a : UInt32) : 4294967295 - wv a = wv (~~~ a) := by
  unfold wv
  have h := a.toNat_lt
  rw [UInt32.toNat_not]
  have : UInt32.size = 4294967296 := rfl
  omega
theorem wi_sum {X Y : Int} {x y : UInt32} (hx : X % 4294967296 = wv x) (hy : Y % 4294967296 = wv y) : (X + Y) % 4294967296 = wv (x + y) := by
  rw [← wv_add', ← hx, ← hy]; omega
theorem wi_self (x : UInt32) : wv x % 4294967296 = wv x := by have := wv_nonneg x; have := wv_lt x; omega

theorem turn_val (x : UInt32) (k m : Nat) (a b : Int) (hm : 32 - k = m) (hk : k < 32) (hm2 : m < 32) (ha : a = 2 ^ k) (hb : b = 2 ^ m) : bits .or .i64 (wv x / a) (wv x * b % 4294967296) = wv (rotr k x) := by
  have e1 := wv_shl x m hm2
  rw [IntKind.wrap_u32'] at e1
  have e2 := wv_shr x k hk
  have e1' : wv x * b % 4294967296 = wv (x <<< UInt32.ofNat m) := by rw [hb]; simpa using e1
  have e2' : wv x / a = wv (x >>> UInt32.ofNat k) := by rw [ha]; simpa using e2
  rw [e1', e2', wi_or]
  unfold rotr
  rw [hm, UInt32.or_comm]
theorem drewN_drew (w : World) (n : Nat) : (w.drewN n).drew = w.drewN (n + 1) := by
  simp [World.drewN, World.drew, Nat.add_assoc]
theorem turn_add {P : Program} {f : FuncId} {args : Array Value} {w : World} {a n : Nat} {v : Value}
    (h : Calls P f args (w.drewN (a + n)) fun e w' => e = .returned v ∧ w' = (w.drewN (a + n)).drew) :
    Calls P f args (w.drewN (a + n)) fun e w'' => e = .returned v ∧ ∃ m, w'' = w.drewN (a + m) :=
  h.mono fun _ _ ⟨he, hm⟩ => ⟨he, n + 1, by rw [hm, drewN_drew]; rfl⟩
theorem turn_left {P : Program} {f : FuncId} {args : Array Value} {w : World} {n : Nat} {v : Value}
    (h : Calls P f args (w.drewN n) fun e w' => e = .returned v ∧ w' = (w.drewN n).drew) : Calls P f args (w.drewN n) fun e w'' => e = .returned v ∧ ∃ m, w'' = w.drewN m :=
  h.mono fun _ _ ⟨he, hm⟩ => ⟨he, n + 1, by rw [hm, drewN_drew]⟩
theorem turn_2 (x : UInt32) (w : World) : Calls Tryd.prog 66 #[.int .i64 (wv x), .int .i64 2] w fun e w' => e = .returned (.int .i64 (wv (rotr 2 x))) ∧ w' = w.drew := by
  have h0 := wv_nonneg x
  have h1 := wv_lt x
  have hl := i64_low (wv x * 1073741824) (by omega) (by omega)
  have Hx : Hid (bits .or .i64 (wv x / 4) (wv x * 1073741824 % 4294967296) = wv (rotr 2 x)) := turn_val x 2 30 4 1073741824 rfl (by decide) (by decide) (by decide) (by decide)
  go_enter Tryd.func66, Tryd.ntmps66
  go_wp2_with fail
  go_region
  go_wp2
  go_ret
  exact ⟨ret1 Hx.out, rfl⟩
theorem turn_6 (x : UInt32) (w : World) : Calls Tryd.prog 66 #[.int .i64 (wv x), .int .i64 6] w fun e w' => e = .returned (.int .i64 (wv (rotr 6 x))) ∧ w' = w.drew := by
  have h0 := wv_nonneg x
  have h1 := wv_lt x
  have hl := i64_low (wv x * 67108864) (by omega) (by omega)
  have Hx : Hid (bits .or .i64 (wv x / 64) (wv x * 67108864 % 4294967296) = wv (rotr 6 x)) := turn_val x 6 26 64 67108864 rfl (by decide) (by decide) (by decide) (by decide)
  go_enter Tryd.func66, Tryd.ntmps66
  go_wp2_with fail
  go_region
  go_wp2
  go_ret
  exact ⟨ret1 Hx.out, rfl⟩
theorem turn_7 (x : UInt32) (w : World) : Calls Tryd.prog 66 #[.int .i64 (wv x), .int .i64 7] w fun e w' => e = .returned (.int .i64 (wv (rotr 7 x))) ∧ w' = w.drew := by
  have h0 := wv_nonneg x
  have h1 := wv_lt x
  have hl := i64_low (wv x * 33554432) (by omega) (by omega)
  have Hx : Hid (bits .or .i64 (wv x / 128) (wv x * 33554432 % 4294967296) = wv (rotr 7 x)) := turn_val x 7 25 128 33554432 rfl (by decide) (by decide) (by decide) (by decide)
  go_enter Tryd.func66, Tryd.ntmps66
  go_wp2_with fail
  go_region
  go_wp2
  go_ret
  exact ⟨ret1 Hx.out, rfl⟩
theorem turn_11 (x : UInt32) (w : World) : Calls Tryd.prog 66 #[.int .i64 (wv x), .int .i64 11] w fun e w' => e = .returned (.int .i64 (wv (rotr 11 x))) ∧ w' = w.drew := by
  have h0 := wv_nonneg x
  have h1 := wv_lt x
  have hl := i64_low (wv x * 2097152) (by omega) (by omega)
  have Hx : Hid (bits .or .i64 (wv x / 2048) (wv x * 2097152 % 4294967296) = wv (rotr 11 x)) := turn_val x 11 21 2048 2097152 rfl (by decide) (by decide) (by decide) (by decide)
  go_enter Tryd.func66, Tryd.ntmps66
  go_wp2_with fail
  go_region
  go_wp2
  go_ret
  exact ⟨ret1 Hx.out, rfl⟩
theorem turn_13 (x : UInt32) (w : World) : Calls Tryd.prog 66 #[.int .i64 (wv x), .int .i64 13] w fun e w' => e = .returned (.int .i64 (wv (rotr 13 x))) ∧ w' = w.drew := by
  have h0 := wv_nonneg x
  have h1 := wv_lt x
  have hl := i64_low (wv x * 524288) (by omega) (by omega)
  have Hx : Hid (bits .or .i64 (wv x / 8192) (wv x * 524288 % 4294967296) = wv (rotr 13 x)) := turn_val x 13 19 8192 524288 rfl (by decide) (by decide) (by decide) (by decide)
  go_enter Tryd.func66, Tryd.ntmps66
  go_wp2_with fail
  go_region
  go_wp2
  go_ret
  exact ⟨ret1 Hx.out, rfl⟩
theorem turn_17 (x : UInt32) (w : World) : Calls Tryd.prog 66 #[.int .i64 (wv x), .int .i64 17] w fun e w' => e = .returned (.int .i64 (wv (rotr 17 x))) ∧ w' = w.drew := by
  have h0 := wv_nonneg x
  have h1 := wv_lt x
  have hl := i64_low (wv x * 32768) (by omega) (by omega)
  have Hx : Hid (bits .or .i64 (wv x / 131072) (wv x * 32768 % 4294967296) = wv (rotr 17 x)) := turn_val x 17 15 131072 32768 rfl (by decide) (by decide) (by decide) (by decide)
  go_enter Tryd.func66, Tryd.ntmps66
  go_wp2_with fail
  go_region
  go_wp2
  go_ret
  exact ⟨ret1 Hx.out, rfl⟩
theorem turn_18 (x : UInt32) (w : World) : Calls Tryd.prog 66 #[.int .i64 (wv x), .int .i64 18] w fun e w' => e = .returned (.int .i64 (wv (rotr 18 x))) ∧ w' = w.drew := by
  have h0 := wv_nonneg x
  have h1 := wv_lt x
  have hl := i64_low (wv x * 16384) (by omega) (by omega)
  have Hx : Hid (bits .or .i64 (wv x / 262144) (wv x * 16384 % 4294967296) = wv (rotr 18 x)) := turn_val x 18 14 262144 16384 rfl (by decide) (by decide) (by decide) (by decide)
  go_enter Tryd.func66, Tryd.ntmps66
  go_wp2_with fail
  go_region
  go_wp2
  go_ret
  exact ⟨ret1 Hx.out, rfl⟩
theorem turn_19 (x : UInt32) (w : World) : Calls Tryd.prog 66 #[.int .i64 (wv x), .int .i64 19] w fun e w' => e = .returned (.int .i64 (wv (rotr 19 x))) ∧ w' = w.drew := by
  have h0 := wv_nonneg x
  have h1 := wv_lt x
  have hl := i64_low (wv x * 8192) (by omega) (by omega)
  have Hx : Hid (bits .or .i64 (wv x / 524288) (wv x * 8192 % 4294967296) = wv (rotr 19 x)) := turn_val x 19 13 524288 8192 rfl (by decide) (by decide) (by decide) (by decide)
  go_enter Tryd.func66, Tryd.ntmps66
  go_wp2_with fail
  go_region
  go_wp2
  go_ret
  exact ⟨ret1 Hx.out, rfl⟩
theorem turn_22 (x : UInt32) (w : World) : Calls Tryd.prog 66 #[.int .i64 (wv x), .int .i64 22] w fun e w' => e = .returned (.int .i64 (wv (rotr 22 x))) ∧ w' = w.drew := by
  have h0 := wv_nonneg x
  have h1 := wv_lt x
  have hl := i64_low (wv x * 1024) (by omega) (by omega)
  have Hx : Hid (bits .or .i64 (wv x / 4194304) (wv x * 1024 % 4294967296) = wv (rotr 22 x)) := turn_val x 22 10 4194304 1024 rfl (by decide) (by decide) (by decide) (by decide)
  go_enter Tryd.func66, Tryd.ntmps66
  go_wp2_with fail
  go_region
  go_wp2
  go_ret
  exact ⟨ret1 Hx.out, rfl⟩
theorem turn_25 (x : UInt32) (w : World) : Calls Tryd.prog 66 #[.int .i64 (wv x), .int .i64 25] w fun e w' => e = .returned (.int .i64 (wv (rotr 25 x))) ∧ w' = w.drew := by
  have h0 := wv_nonneg x
  have h1 := wv_lt x
  have hl := i64_low (wv x * 128) (by omega) (by omega)
  have Hx : Hid (bits .or .i64 (wv x / 33554432) (wv x * 128 % 4294967296) = wv (rotr 25 x)) := turn_val x 25 7 33554432 128 rfl (by decide) (by decide) (by decide) (by decide)
  go_enter Tryd.func66, Tryd.ntmps66
  go_wp2_with fail
  go_region
  go_wp2
  go_ret
  exact ⟨ret1 Hx.out, rfl⟩
/-! ### Cells in a row of the call's own, each told -/
structure CellsI (w0 w : World) (g off n : Nat) (t : TypeId) (D : Nat → Value) : Prop where
  blk : ∃ c, w.heap[g]? = some (.cells c t (0, 0)) ∧ off + n ≤ c.size ∧ ∀ i, i < n → c[off + i]? = some (D i)
  grown : w0.grownBy w (some g)
theorem CellsI.drew {w0 w : World} {g off n : Nat} {t : TypeId} {D : Nat → Value} (h : CellsI w0 w g off n t D) : CellsI w0 w.drew g off n t D :=
  ⟨h.blk, let ⟨g1, g2, g3, g4, g5⟩ := h.grown; ⟨g1, g2, g3, g4, g5⟩⟩
theorem CellsI.at {w0 w : World} {g off n : Nat} {t : TypeId} {D : Nat → Value} (h : CellsI w0 w g off n t D) (i : Nat) (hi : i < n) : w.cell? ⟨g, off + i, none⟩ = some (D i) ∧ w.frozen? ⟨g, off + i, none⟩ = false := by
  obtain ⟨c, h1, -, h2⟩ := h.blk
  exact ⟨by simp [World.cell?, h1, h2 i hi], by simp [World.frozen?, h1]⟩
theorem CellsI.put {w0 w : World} {g off n : Nat} {t : TypeId} {D : Nat → Value} (h : CellsI w0 w g off n t D) (i : Nat) (hi : i < n) (x : Value) :
    CellsI w0 (w.setCell ⟨g, off + i, none⟩ x) g off n t (fun m => if m = i then x else D m) := by
  obtain ⟨c, h1, h2, h4⟩ := h.blk
  refine ⟨⟨_, setCell_heap h1 _, by simpa using h2, fun m hm => ?_⟩, ?_⟩
  · by_cases e : m = i
    · subst e; rw [if_pos rfl, Array.getElem?_setIfInBounds, if_pos rfl, if_pos (by omega)]
    · rw [if_neg e, Array.getElem?_setIfInBounds, if_neg (by omega)]; exact h4 m hm
  · obtain ⟨g1, g2, g3, g4, g5⟩ := h.grown
    refine ⟨g1, g2, g3, by simpa using g4, fun k hk hne => ?_⟩
    rw [Below.heap_setCell _ _ _ _ (fun e => hne (by simp at e; rw [e]))]
    exact g5 k hk hne
theorem CellsI.congr {w0 w : World} {g off n : Nat} {t : TypeId} {D E : Nat → Value} (h : CellsI w0 w g off n t D) (he : ∀ i, i < n → D i = E i) : CellsI w0 w g off n t E := by
  obtain ⟨c, h1, h2, h4⟩ := h.blk
  exact ⟨⟨c, h1, h2, fun i hi => by rw [← he i hi]; exact h4 i hi⟩, h.grown⟩
/-- .. as a slice of the call's own. -/
theorem CellsI.own {w0 w : World} {base : Nat} {t : TypeId} {g off n : Nat} {xs : List Value} {D : Nat → Value} (h : CellsI w0 w g off n t D) (hl : xs.length = n) (hx : ∀ i, i < n → xs[i]? = some (D i))
    (hb : base ≤ g) (hm : n ≤ maxLen) : Go.Proofs.YtamjldakllafcaaDoor.own w base t 1 (.slice (some ⟨g, off, none⟩) n n) n xs := by
  obtain ⟨c, h1, h2, h4⟩ := h.blk
  refine ⟨by rw [hl]; omega, _, _, rfl, Nat.le_refl _, hm, .inr ⟨g, off, c, rfl, hb, h1, by omega, ?_⟩⟩
  apply List.ext_getElem?
  intro j
  rw [List.getElem?_take]
  split
  · rename_i hj
    rw [List.getElem?_drop, Array.getElem?_toList, h4 j (by omega), hx j (by omega)]
  · rw [List.getElem?_eq_none (by rw [hl]; omega)]

/-! ### Numbers of bytes -/
def numM (b : List UInt8) : Nat := b.foldl (fun a x => a * 256 + x.toNat) 0
theorem numM_snoc (b : List UInt8) (x : UInt8) : numM (b ++ [x]) = numM b * 256 + x.toNat := by simp [numM]
theorem numM_lt (b : List UInt8) (h : b.length ≤ 7) : numM b < 72057594037927936 := by
  have key : ∀ k, ∀ c : List UInt8, c.length = k → numM c < 256 ^ k := by
    intro k
    induction k with
    | zero => intro c hc; obtain rfl := List.eq_nil_of_length_eq_zero hc; simp [numM]
    | succ k ih =>
      intro c hc
      obtain ⟨d, x, rfl⟩ : ∃ d x, c = d ++ [x] := ⟨c.dropLast, c.getLast (by intro e; subst e; simp at hc), (List.dropLast_concat_getLast _).symm⟩
      rw [numM_snoc]
      have := ih d (by simpa using hc)
      have := x.toNat_lt
      rw [Nat.pow_succ]
      omega
  have h2 := key b.length b rfl
  have h3 : 256 ^ b.length ≤ 256 ^ 7 := Nat.pow_le_pow_right (by omega) h
  omega
set_option maxHeartbeats 1000000 in
set_option maxRecDepth 100000 in
theorem num_any (b : List UInt8) (v : Value) (n : Nat) (w : World) (hb : rd w v n (b.map vB)) (hl : b.length = n) (h1 : 1 ≤ n) (h7 : n ≤ 7) :
    Calls Tryd.prog 65 #[v] w fun e w' => e = .returned (.tuple #[.int .i64 (numM b), .bool true]) ∧ Below w.heap.size w w' := by
  have hb' := hb
  obtain ⟨ao, cap, rfl, k1, k2, k3⟩ := hb'
  unfold maxLen at k2
  rcases k3 with k3 | ⟨g, off, rfl, k3⟩
  · have := congrArg List.length k3; rw [List.length_map, List.length_nil] at this; omega
  have hcell : ∀ j, j < n → w.cell? ⟨g, off + j, none⟩ = some (.int .u8 (bv (b.getD j 0))) := fun j hj => by
    apply k3; simp [List.getD_eq_getElem?_getD, List.getElem?_eq_getElem (show j < b.length by omega), vB]
  have HC := Lib.hid hcell; have HB := Lib.hid hb
  clear hcell hb k3
  have q0 : ((n : Int) == 0) = false := beq_false_of_ne (by omega)
  have q8 : ((n : Int) == 8) = false := beq_false_of_ne (by omega)
  go_enter Tryd.func65, Tryd.ntmps65
  go_wp2_with fail
  go_loopw [4, 5] (fun s i wr => ∃ k : Nat, k ≤ n ∧ i = .int .i64 k ∧ s = .int .i64 (numM (b.take k)) ∧ Below w.heap.size w wr) (fun _ i _ => n - (intOf i).toNat)
  case atStart => exact ⟨0, by omega, rfl, by simp [numM], Below.refl _ _⟩
  case round =>
    obtain ⟨k, hk, rfl, rfl, hB⟩ := hrel
    by_cases hlt : k < n
    · have hc : wr.cell? ⟨g, off + k, none⟩ = some (.int .u8 (bv (b.getD k 0))) := (hB.cell (World.block_lt_of_cell? w _ (HC.out k hlt))).trans (HC.out k hlt)
      have hs : b.take (k + 1) = b.take k ++ [b.getD k 0] := by
        rw [List.take_add_one, List.getD_eq_getElem?_getD, List.getElem?_eq_getElem (by omega)]; rfl
      have hlt2 := numM_lt (b.take k) (by simp; omega)
      have hst := numM_snoc (b.take k) (b.getD k 0)
      rw [← hs] at hst
      obtain ⟨N, hN⟩ : ∃ N, numM (b.take k) = N := ⟨_, rfl⟩
      obtain ⟨x, hx⟩ : ∃ x, b.getD k 0 = x := ⟨_, rfl⟩
      rw [hN] at hlt2 hst ⊢
      rw [hx] at hc hst
      have h256 := numM_lt (b.take (k + 1)) (by simp; omega)
      have hb1 := bv_nonneg x; have hb2 := bv_lt x
      have HS := Lib.hid hst; have B0 := Lib.hid hB
      have hN2 : (N : Int) * 256 + 255 < 9223372036854775807 := by omega
      clear hst hs hN hx hB h256
      go_wp2
      go_roundw
      case rel => exact ⟨k + 1, by omega, by go_num, by rw [HS.out, show ((N * 256 + x.toNat : Nat) : Int) = (N : Int) * 256 + bv x from by unfold bv; omega], B0.out⟩
      case measure => simp [intOf]; omega
    · obtain rfl : k = n := by omega
      rw [List.take_of_length_le (by omega)]
      have B0 := Lib.hid hB; clear hB
      go_wp2
      go_ret2
      exact ⟨rfl, B0.out⟩
def putM (n s : Nat) : List UInt8 := (List.range s).map fun j => UInt8.ofNat (n / 256 ^ (s - 1 - j))
theorem putM_length (n s : Nat) : (putM n s).length = s := by simp [putM]
theorem putM_get (n s j : Nat) (h : j < s) : (putM n s)[j]? = some (UInt8.ofNat (n / 256 ^ (s - 1 - j))) := by
  simp [putM, List.getElem?_range h]
theorem put_byte (n : Nat) : (n : Int) % 256 = bv (UInt8.ofNat n) := by
  unfold bv; rw [UInt8.toNat_ofNat']; omega
theorem madeCells_one (z : Value) (n : Nat) : madeCells #[z] n = Array.replicate n z := by
  apply Array.ext
  · simp [madeCells]
  · intro i h1 h2
    have : i % 1 = 0 := Nat.mod_one i
    simp [madeCells, this]
theorem mk_u8 (s : Nat) (hs : s ≤ 1000000) (w : World) : (Instr.makeSlice 32 (.int .i64 (s : Int)) (.int .i64 (s : Int))).run Tryd.prog w = .ok (.slice (some ⟨w.heap.size, 0, none⟩) s s) (w.alloc (.cells (Array.replicate s (.int .u8 0)) 5)) := by
  obtain ⟨i, hi, hz, hsz, hby⟩ := info_parts' info_u8
  have := run_make (P := Tryd.prog) w 32 5 i (.int .u8 0) Tryd.underlying32 hi hz .i64 .i64 s s (by omega) (Int.le_refl _) (by rw [hby]; omega) (by omega)
  rw [hsz] at this
  simpa [Value.cells, madeCells_one] using this
theorem info_int : (Tryd.prog.info? 3).map (fun i => (i.zero, i.size, i.bytes)) = some (some (.int .i64 0), 1, 8) := by kernel_rfl
theorem mk_int (s : Nat) (hs : s ≤ 1000000) (w : World) : (Instr.makeSlice 75 (.int .i64 (s : Int)) (.int .i64 (s : Int))).run Tryd.prog w = .ok (.slice (some ⟨w.heap.size, 0, none⟩) s s) (w.alloc (.cells (Array.replicate s (.int .i64 0)) 3)) := by
  obtain ⟨i, hi, hz, hsz, hby⟩ := info_parts' info_int
  have := run_make (P := Tryd.prog) w 75 3 i (.int .i64 0) Tryd.underlying75 hi hz .i64 .i64 s s (by omega) (Int.le_refl _) (by rw [hby]; omega) (by omega)
  rw [hsz] at this
  simpa [Value.cells, madeCells_one] using this
theorem CellsI.made (w : World) (n : Nat) (t : TypeId) (z : Value) : CellsI w (w.alloc (.cells (Array.replicate n z) t)) w.heap.size 0 n t (fun _ => z) := by
  refine ⟨⟨_, heap_alloc_new w _, by simp, fun i hi => by simp [hi]⟩, World.grownBy_alloc w _ _⟩
set_option maxHeartbeats 1000000 in
set_option maxRecDepth 100000 in
theorem put_any (n s : Nat) (w : World) (h1 : 1 ≤ s) (h8 : s ≤ 8) (hn : n < 9223372036854775808) :
    Calls Tryd.prog 46 #[.int .i64 n, .int .i64 s] w fun e w' => ∃ v, e = .returned (.tuple #[v, .bool ((n : Int) / 256 ^ s == 0)]) ∧ own w' w.heap.size 5 1 v s ((putM n s).map vB) ∧ Below w.heap.size w w' := by
  have mk := mk_u8 s (by omega)
  have q1 : ¬ ((s : Int) < 1) := by omega
  have q2 : ¬ (8 < (s : Int)) := by omega
  have HM := Lib.hid (CellsI.made w s 5 (.int .u8 0))
  go_enter Tryd.func46, Tryd.ntmps46
  go_wp2_with fail
  go_loopw [0, 7] (fun c i wr => ∃ k : Nat, k ≤ s ∧ i = .int .i64 ((s : Int) - 1 - k) ∧ c = .int .i64 ((n / 256 ^ k : Nat) : Int) ∧ CellsI w wr w.heap.size 0 s 5 (fun j => if s ≤ j + k then vB (UInt8.ofNat (n / 256 ^ (s - 1 - j))) else .int .u8 0)) (fun _ i _ => (intOf i + 1).toNat)
  case atStart => exact ⟨0, by omega, by simp, by simp, HM.out.congr (fun i hi => by rw [if_neg (by omega)])⟩
  case round =>
    obtain ⟨k, hk, rfl, rfl, hI⟩ := hrel
    by_cases hlt : k < s
    · obtain ⟨j, hj⟩ : ∃ j, s - 1 - k = j := ⟨_, rfl⟩
      rw [show (s : Int) - 1 - k = (j : Int) from by omega]
      obtain ⟨hc, hf⟩ := hI.at j (by omega)
      rw [if_neg (by omega)] at hc
      have hput := hI.put j (by omega) (vB (UInt8.ofNat (n / 256 ^ k)))
      rw [Nat.zero_add] at hc hf hput
      have hle : n / 256 ^ k ≤ n := Nat.div_le_self _ _
      have hnx : n / 256 ^ (k + 1) = n / 256 ^ k / 256 := by rw [Nat.pow_succ, Nat.div_div_eq_div_mul]
      obtain ⟨N, hN⟩ : ∃ N, n / 256 ^ k = N := ⟨_, rfl⟩
      rw [hN] at hle hnx hput ⊢
      have hby := put_byte N
      obtain ⟨x, hx⟩ : ∃ x, UInt8.ofNat N = x := ⟨_, rfl⟩
      rw [hx] at hby hput
      have HP := Lib.hid hput; have HN := Lib.hid hN; have HX := Lib.hid hx; have HY := Lib.hid hnx; have HJ := Lib.hid hj
      have hjs : j < s := by omega
      clear hput hN hx hnx hI hj
      go_wp2
      go_roundw
      case rel =>
        have hj := HJ.out
        refine ⟨k + 1, by omega, by rw [← hj]; congr 1; omega, by rw [HY.out]; rfl, HP.out.congr (fun m hm => ?_)⟩
        by_cases e1 : m = j
        · rw [if_pos e1, if_pos (by omega), ← HX.out, ← HN.out, e1, show s - 1 - j = k from by omega]
        · rw [if_neg e1]
          by_cases e2 : s ≤ m + k
          · rw [if_pos e2, if_pos (by omega)]
          · rw [if_neg e2, if_neg (by omega)]
      case measure => simp [intOf] <;> omega
    · obtain rfl : k = s := by omega
      have ho := hI.own (base := w.heap.size) (xs := (putM n k).map vB) (by simp [putM_length]) (fun i hi => by rw [List.getElem?_map, putM_get _ _ _ hi, if_pos (by omega)]; rfl) (Nat.le_refl _) (by unfold maxLen; omega)
      have hB := (Below.refl w.heap.size w).grown hI.grown (Nat.le_refl _) (fun q hq => by injection hq with hq; omega)
      have HO := Lib.hid ho; have HB := Lib.hid hB; clear ho hB hI
      have q3 : ¬ (0 ≤ (k : Int) - 1 - k) := by omega
      go_wp2
      go_ret2
      exact ⟨_, rfl, HO.out, HB.out⟩
/-- The table of rounds, as numbers of 64 bits. -/
def kI : Array Value := #[.int .i64 1116352408, .int .i64 1899447441, .int .i64 3049323471, .int .i64 3921009573, .int .i64 961987163, .int .i64 1508970993, .int .i64 2453635748, .int .i64 2870763221, .int .i64 3624381080, .int .i64 310598401, .int .i64 607225278, .int .i64 1426881987, .int .i64 1925078388, .int .i64 2162078206, .int .i64 2614888103, .int .i64 3248222580, .int .i64 3835390401, .int .i64 4022224774, .int .i64 264347078, .int .i64 604807628, .int .i64 770255983, .int .i64 1249150122, .int .i64 1555081692, .int .i64 1996064986, .int .i64 2554220882, .int .i64 2821834349, .int .i64 2952996808, .int .i64 3210313671, .int .i64 3336571891, .int .i64 3584528711, .int .i64 113926993, .int .i64 338241895, .int .i64 666307205, .int .i64 773529912, .int .i64 1294757372, .int .i64 1396182291, .int .i64 1695183700, .int .i64 1986661051, .int .i64 2177026350, .int .i64 2456956037, .int .i64 2730485921, .int .i64 2820302411, .int .i64 3259730800, .int .i64 3345764771, .int .i64 3516065817, .int .i64 3600352804, .int .i64 4094571909, .int .i64 275423344, .int .i64 430227734, .int .i64 506948616, .int .i64 659060556, .int .i64 883997877, .int .i64 958139571, .int .i64 1322822218, .int .i64 1537002063, .int .i64 1747873779, .int .i64 1955562222, .int .i64 2024104815, .int .i64 2227730452, .int .i64 2361852424, .int .i64 2428436474, .int .i64 2756734187, .int .i64 3204031479, .int .i64 3329325298]
theorem kI_eq : kI = (kTab.map fun x => Value.int .i64 (wv x)).toArray := by rfl
theorem kI_size : kI.size = 64 := by rfl
theorem rounds_any (w : World) : Calls Tryd.prog 47 #[] w fun e w' => e = .returned (.slice (some ⟨w.heap.size, 0, none⟩) 64 64) ∧ w' = w.alloc (.cells kI 3) := by
  go_enter Tryd.func47, Tryd.ntmps47
  go_wp2
  go_ret
  exact ⟨rfl, rfl⟩
attribute [irreducible] kI
end Go.Proofs.YtamjldakllafcaaDoor
