/- Merged: Rfw Rfb Rfs Rsz Rtx Rid. Conditions: none beyond each theorem's own. -/
import Derived.Test.YtljcdkfafknnpaaGreatDoorMc
import Derived.Test.YtljcdkfafknnpaaGreatDoorMb
import Derived.Test.YtljcdkfafknnpaaGreatDoorMa
import Derived.BigQuiet
import Derived.Sort.Row
import Derived.Laws.Rows
import Derived.Laws.BitsLemmas
import Derived.Laws.MakeOwn
import Derived.Test.YtljcdkfafknnpaaGreatDoorMd
namespace Go.Proofs.YtljcdkfafknnpaaGreatDoor
set_option linter.unusedVariables false
set_option linter.unusedSimpArgs false
open Go.RowKit

theorem setCell_heap {w : World} {g o : Nat} {c : Array Value} {t : TypeId} {fr : Nat × Nat} (h : w.heap[g]? = some (.cells c t fr)) (v : Value) : (w.setCell ⟨g, o, none⟩ v).heap[g]? = some (.cells (c.setIfInBounds o v) t fr) := by
  have := (Array.getElem?_eq_some_iff.1 h).1
  rw [Go.Sort.setCell_eq]
  simp only [Go.Sort.mapBlock]
  rw [Array.getElem?_modify, if_pos rfl, h]
  rfl
theorem ofInt_i64 (a : Nat) (ha : a < 9223372036854775808) : (BitVec.ofInt 64 (a : Int)).toNat = a := by
  rw [BitVec.ofInt_natCast, BitVec.toNat_ofNat]; exact Nat.mod_eq_of_lt (by omega)
theorem i64_and_nat (a b : Nat) (ha : a < 9223372036854775808) (hb : b < 9223372036854775808) : bits .and .i64 (a : Int) (b : Int) = ((a &&& b : Nat) : Int) := by
  have hx : a &&& b < 2 ^ 63 := Nat.and_lt_two_pow _ (by omega)
  show IntKind.i64.wrap ((BitVec.ofInt 64 (a : Int) &&& BitVec.ofInt 64 (b : Int)).toNat : Int) = _
  rw [BitVec.toNat_and, ofInt_i64 a ha, ofInt_i64 b hb, IntKind.wrap_i64]
  omega
theorem i64_or_nat (a b : Nat) (ha : a < 9223372036854775808) (hb : b < 9223372036854775808) : bits .or .i64 (a : Int) (b : Int) = ((a ||| b : Nat) : Int) := by
  have hx : a ||| b < 2 ^ 63 := Nat.or_lt_two_pow (by omega) (by omega)
  show IntKind.i64.wrap ((BitVec.ofInt 64 (a : Int) ||| BitVec.ofInt 64 (b : Int)).toNat : Int) = _
  rw [BitVec.toNat_or, ofInt_i64 a ha, ofInt_i64 b hb, IntKind.wrap_i64]
  omega
theorem i64_xor_nat (a b : Nat) (ha : a < 9223372036854775808) (hb : b < 9223372036854775808) : bits .xor .i64 (a : Int) (b : Int) = ((a ^^^ b : Nat) : Int) := by
  have hx : a ^^^ b < 2 ^ 63 := Nat.xor_lt_two_pow (by omega) (by omega)
  show IntKind.i64.wrap ((BitVec.ofInt 64 (a : Int) ^^^ BitVec.ofInt 64 (b : Int)).toNat : Int) = _
  rw [BitVec.toNat_xor, ofInt_i64 a ha, ofInt_i64 b hb, IntKind.wrap_i64]
  omega
theorem wi_and (a b : UInt32) : bits .and .i64 (wv a) (wv b) = wv (a &&& b) := by
  have h1 := a.toNat_lt; have h2 := b.toNat_lt
  unfold wv; rw [i64_and_nat _ _ (by omega) (by omega), UInt32.toNat_and]
theorem wi_or (a b : UInt32) : bits .or .i64 (wv a) (wv b) = wv (a ||| b) := by
  have h1 := a.toNat_lt; have h2 := b.toNat_lt
  unfold wv; rw [i64_or_nat _ _ (by omega) (by omega), UInt32.toNat_or]
theorem wi_xor (a b : UInt32) : bits .xor .i64 (wv a) (wv b) = wv (a ^^^ b) := by
  have h1 := a.toNat_lt; have h2 := b.toNat_lt
  unfold wv; rw [i64_xor_nat _ _ (by omega) (by omega), UInt32.toNat_xor]
/-- What is masked by 32 ones. -/
theorem i64_low (n : Int) (h0 : 0 ≤ n) (h1 : n < 9223372036854775808) : bits .and .i64 n 4294967295 = n % 4294967296 := by
  obtain ⟨a, rfl⟩ := Int.eq_ofNat_of_zero_le h0
  rw [show (4294967295 : Int) = ((4294967295 : Nat) : Int) from rfl, i64_and_nat _ _ (by omega) (by omega), nat_mask32]
  omega
theorem wi_not (a : UInt32) : 4294967295 - wv a = wv (~~~ a) := by
  unfold wv
  have h := a.toNat_lt
  rw [UInt32.toNat_not]
  have : UInt32.size = 4294967296 := rfl
  omega
theorem wi_sum {X Y : Int} {x y : UInt32} (hx : X % 4294967296 = wv x) (hy : Y % 4294967296 = wv y) : (X + Y) % 4294967296 = wv (x + y) := by
  rw [← wv_add', ← hx, ← hy]; omega
theorem wi_self (x : UInt32) : wv x % 4294967296 = wv x := by have := wv_nonneg x; have := wv_lt x; omega

theorem turn_val (x : UInt32) (k m : Nat) (a b : Int) (hm : 32 - k = m) (hk : k < 32) (hm2 : m < 32) (ha : a = 2 ^ k) (hb : b = 2 ^ m) : bits .or .i64 (wv x / a) (wv x * b % 4294967296) = wv (rotr k x) := by
  have e1 := wv_shl x m hm2
  rw [IntKind.wrap_u32'] at e1
  have e2 := wv_shr x k hk
  have e1' : wv x * b % 4294967296 = wv (x <<< UInt32.ofNat m) := by rw [hb]; simpa using e1
  have e2' : wv x / a = wv (x >>> UInt32.ofNat k) := by rw [ha]; simpa using e2
  rw [e1', e2', wi_or]
  unfold rotr
  rw [hm, UInt32.or_comm]
theorem drewN_drew (w : World) (n : Nat) : (w.drewN n).drew = w.drewN (n + 1) := by
  simp [World.drewN, World.drew, Nat.add_assoc]
theorem turn_add {P : Program} {f : FuncId} {args : Array Value} {w : World} {a n : Nat} {v : Value}
    (h : Calls P f args (w.drewN (a + n)) fun e w' => e = .returned v ∧ w' = (w.drewN (a + n)).drew) :
    Calls P f args (w.drewN (a + n)) fun e w'' => e = .returned v ∧ ∃ m, w'' = w.drewN (a + m) :=
  h.mono fun _ _ ⟨he, hm⟩ => ⟨he, n + 1, by rw [hm, drewN_drew]; rfl⟩
theorem turn_left {P : Program} {f : FuncId} {args : Array Value} {w : World} {n : Nat} {v : Value}
    (h : Calls P f args (w.drewN n) fun e w' => e = .returned v ∧ w' = (w.drewN n).drew) : Calls P f args (w.drewN n) fun e w'' => e = .returned v ∧ ∃ m, w'' = w.drewN m :=
  h.mono fun _ _ ⟨he, hm⟩ => ⟨he, n + 1, by rw [hm, drewN_drew]⟩
theorem turn_2 (x : UInt32) (w : World) : Calls Tryz.prog 104 #[.int .i64 (wv x), .int .i64 2] w fun e w' => e = .returned (.int .i64 (wv (rotr 2 x))) ∧ w' = w.drew := by
  have h0 := wv_nonneg x
  have h1 := wv_lt x
  have hl := i64_low (wv x * 1073741824) (by omega) (by omega)
  have Hx : Hid (bits .or .i64 (wv x / 4) (wv x * 1073741824 % 4294967296) = wv (rotr 2 x)) := turn_val x 2 30 4 1073741824 rfl (by decide) (by decide) (by decide) (by decide)
  go_enter Tryz.func104, Tryz.ntmps104
  go_wp2_with fail
  go_region
  go_wp2
  go_ret
  exact ⟨ret1 Hx.out, rfl⟩
theorem turn_6 (x : UInt32) (w : World) : Calls Tryz.prog 104 #[.int .i64 (wv x), .int .i64 6] w fun e w' => e = .returned (.int .i64 (wv (rotr 6 x))) ∧ w' = w.drew := by
  have h0 := wv_nonneg x
  have h1 := wv_lt x
  have hl := i64_low (wv x * 67108864) (by omega) (by omega)
  have Hx : Hid (bits .or .i64 (wv x / 64) (wv x * 67108864 % 4294967296) = wv (rotr 6 x)) := turn_val x 6 26 64 67108864 rfl (by decide) (by decide) (by decide) (by decide)
  go_enter Tryz.func104, Tryz.ntmps104
  go_wp2_with fail
  go_region
  go_wp2
  go_ret
  exact ⟨ret1 Hx.out, rfl⟩
theorem turn_7 (x : UInt32) (w : World) : Calls Tryz.prog 104 #[.int .i64 (wv x), .int .i64 7] w fun e w' => e = .returned (.int .i64 (wv (rotr 7 x))) ∧ w' = w.drew := by
  have h0 := wv_nonneg x
  have h1 := wv_lt x
  have hl := i64_low (wv x * 33554432) (by omega) (by omega)
  have Hx : Hid (bits .or .i64 (wv x / 128) (wv x * 33554432 % 4294967296) = wv (rotr 7 x)) := turn_val x 7 25 128 33554432 rfl (by decide) (by decide) (by decide) (by decide)
  go_enter Tryz.func104, Tryz.ntmps104
  go_wp2_with fail
  go_region
  go_wp2
  go_ret
  exact ⟨ret1 Hx.out, rfl⟩
theorem turn_11 (x : UInt32) (w : World) : Calls Tryz.prog 104 #[.int .i64 (wv x), .int .i64 11] w fun e w' => e = .returned (.int .i64 (wv (rotr 11 x))) ∧ w' = w.drew := by
  have h0 := wv_nonneg x
  have h1 := wv_lt x
  have hl := i64_low (wv x * 2097152) (by omega) (by omega)
  have Hx : Hid (bits .or .i64 (wv x / 2048) (wv x * 2097152 % 4294967296) = wv (rotr 11 x)) := turn_val x 11 21 2048 2097152 rfl (by decide) (by decide) (by decide) (by decide)
  go_enter Tryz.func104, Tryz.ntmps104
  go_wp2_with fail
  go_region
  go_wp2
  go_ret
  exact ⟨ret1 Hx.out, rfl⟩
theorem turn_13 (x : UInt32) (w : World) : Calls Tryz.prog 104 #[.int .i64 (wv x), .int .i64 13] w fun e w' => e = .returned (.int .i64 (wv (rotr 13 x))) ∧ w' = w.drew := by
  have h0 := wv_nonneg x
  have h1 := wv_lt x
  have hl := i64_low (wv x * 524288) (by omega) (by omega)
  have Hx : Hid (bits .or .i64 (wv x / 8192) (wv x * 524288 % 4294967296) = wv (rotr 13 x)) := turn_val x 13 19 8192 524288 rfl (by decide) (by decide) (by decide) (by decide)
  go_enter Tryz.func104, Tryz.ntmps104
  go_wp2_with fail
  go_region
  go_wp2
  go_ret
  exact ⟨ret1 Hx.out, rfl⟩
theorem turn_17 (x : UInt32) (w : World) : Calls Tryz.prog 104 #[.int .i64 (wv x), .int .i64 17] w fun e w' => e = .returned (.int .i64 (wv (rotr 17 x))) ∧ w' = w.drew := by
  have h0 := wv_nonneg x
  have h1 := wv_lt x
  have hl := i64_low (wv x * 32768) (by omega) (by omega)
  have Hx : Hid (bits .or .i64 (wv x / 131072) (wv x * 32768 % 4294967296) = wv (rotr 17 x)) := turn_val x 17 15 131072 32768 rfl (by decide) (by decide) (by decide) (by decide)
  go_enter Tryz.func104, Tryz.ntmps104
  go_wp2_with fail
  go_region
  go_wp2
  go_ret
  exact ⟨ret1 Hx.out, rfl⟩
theorem turn_18 (x : UInt32) (w : World) : Calls Tryz.prog 104 #[.int .i64 (wv x), .int .i64 18] w fun e w' => e = .returned (.int .i64 (wv (rotr 18 x))) ∧ w' = w.drew := by
  have h0 := wv_nonneg x
  have h1 := wv_lt x
  have hl := i64_low (wv x * 16384) (by omega) (by omega)
  have Hx : Hid (bits .or .i64 (wv x / 262144) (wv x * 16384 % 4294967296) = wv (rotr 18 x)) := turn_val x 18 14 262144 16384 rfl (by decide) (by decide) (by decide) (by decide)
  go_enter Tryz.func104, Tryz.ntmps104
  go_wp2_with fail
  go_region
  go_wp2
  go_ret
  exact ⟨ret1 Hx.out, rfl⟩
theorem turn_19 (x : UInt32) (w : World) : Calls Tryz.prog 104 #[.int .i64 (wv x), .int .i64 19] w fun e w' => e = .returned (.int .i64 (wv (rotr 19 x))) ∧ w' = w.drew := by
  have h0 := wv_nonneg x
  have h1 := wv_lt x
  have hl := i64_low (wv x * 8192) (by omega) (by omega)
  have Hx : Hid (bits .or .i64 (wv x / 524288) (wv x * 8192 % 4294967296) = wv (rotr 19 x)) := turn_val x 19 13 524288 8192 rfl (by decide) (by decide) (by decide) (by decide)
  go_enter Tryz.func104, Tryz.ntmps104
  go_wp2_with fail
  go_region
  go_wp2
  go_ret
  exact ⟨ret1 Hx.out, rfl⟩
theorem turn_22 (x : UInt32) (w : World) : Calls Tryz.prog 104 #[.int .i64 (wv x), .int .i64 22] w fun e w' => e = .returned (.int .i64 (wv (rotr 22 x))) ∧ w' = w.drew := by
  have h0 := wv_nonneg x
  have h1 := wv_lt x
  have hl := i64_low (wv x * 1024) (by omega) (by omega)
  have Hx : Hid (bits .or .i64 (wv x / 4194304) (wv x * 1024 % 4294967296) = wv (rotr 22 x)) := turn_val x 22 10 4194304 1024 rfl (by decide) (by decide) (by decide) (by decide)
  go_enter Tryz.func104, Tryz.ntmps104
  go_wp2_with fail
  go_region
  go_wp2
  go_ret
  exact ⟨ret1 Hx.out, rfl⟩
theorem turn_25 (x : UInt32) (w : World) : Calls Tryz.prog 104 #[.int .i64 (wv x), .int .i64 25] w fun e w' => e = .returned (.int .i64 (wv (rotr 25 x))) ∧ w' = w.drew := by
  have h0 := wv_nonneg x
  have h1 := wv_lt x
  have hl := i64_low (wv x * 128) (by omega) (by omega)
  have Hx : Hid (bits .or .i64 (wv x / 33554432) (wv x * 128 % 4294967296) = wv (rotr 25 x)) := turn_val x 25 7 33554432 128 rfl (by decide) (by decide) (by decide) (by decide)
  go_enter Tryz.func104, Tryz.ntmps104
  go_wp2_with fail
  go_region
  go_wp2
  go_ret
  exact ⟨ret1 Hx.out, rfl⟩
/-! ### Cells in a row of the call's own, each told -/
structure CellsI (w0 w : World) (g off n : Nat) (t : TypeId) (D : Nat → Value) : Prop where
  blk : ∃ c, w.heap[g]? = some (.cells c t (0, 0)) ∧ off + n ≤ c.size ∧ ∀ i, i < n → c[off + i]? = some (D i)
  grown : w0.grownBy w (some g)
theorem CellsI.drew {w0 w : World} {g off n : Nat} {t : TypeId} {D : Nat → Value} (h : CellsI w0 w g off n t D) : CellsI w0 w.drew g off n t D :=
  ⟨h.blk, let ⟨g1, g2, g3, g4, g5⟩ := h.grown; ⟨g1, g2, g3, g4, g5⟩⟩
theorem CellsI.at {w0 w : World} {g off n : Nat} {t : TypeId} {D : Nat → Value} (h : CellsI w0 w g off n t D) (i : Nat) (hi : i < n) : w.cell? ⟨g, off + i, none⟩ = some (D i) ∧ w.frozen? ⟨g, off + i, none⟩ = false := by
  obtain ⟨c, h1, -, h2⟩ := h.blk
  exact ⟨by simp [World.cell?, h1, h2 i hi], by simp [World.frozen?, h1]⟩
theorem CellsI.put {w0 w : World} {g off n : Nat} {t : TypeId} {D : Nat → Value} (h : CellsI w0 w g off n t D) (i : Nat) (hi : i < n) (x : Value) :
    CellsI w0 (w.setCell ⟨g, off + i, none⟩ x) g off n t (fun m => if m = i then x else D m) := by
  obtain ⟨c, h1, h2, h4⟩ := h.blk
  refine ⟨⟨_, setCell_heap h1 _, by simpa using h2, fun m hm => ?_⟩, ?_⟩
  · by_cases e : m = i
    · subst e; rw [if_pos rfl, Array.getElem?_setIfInBounds, if_pos rfl, if_pos (by omega)]
    · rw [if_neg e, Array.getElem?_setIfInBounds, if_neg (by omega)]; exact h4 m hm
  · obtain ⟨g1, g2, g3, g4, g5⟩ := h.grown
    refine ⟨g1, g2, g3, by simpa using g4, fun k hk hne => ?_⟩
    rw [Below.heap_setCell _ _ _ _ (fun e => hne (by simp at e; rw [e]))]
    exact g5 k hk hne
theorem CellsI.congr {w0 w : World} {g off n : Nat} {t : TypeId} {D E : Nat → Value} (h : CellsI w0 w g off n t D) (he : ∀ i, i < n → D i = E i) : CellsI w0 w g off n t E := by
  obtain ⟨c, h1, h2, h4⟩ := h.blk
  exact ⟨⟨c, h1, h2, fun i hi => by rw [← he i hi]; exact h4 i hi⟩, h.grown⟩
/-- .. as a slice of the call's own. -/
theorem CellsI.own {w0 w : World} {base : Nat} {t : TypeId} {g off n : Nat} {xs : List Value} {D : Nat → Value} (h : CellsI w0 w g off n t D) (hl : xs.length = n) (hx : ∀ i, i < n → xs[i]? = some (D i))
    (hb : base ≤ g) (hm : n ≤ maxLen) : Go.Proofs.YtljcdkfafknnpaaGreatDoor.own w base t 1 (.slice (some ⟨g, off, none⟩) n n) n xs := by
  obtain ⟨c, h1, h2, h4⟩ := h.blk
  refine ⟨by rw [hl]; omega, _, _, rfl, Nat.le_refl _, hm, .inr ⟨g, off, c, rfl, hb, h1, by omega, ?_⟩⟩
  apply List.ext_getElem?
  intro j
  rw [List.getElem?_take]
  split
  · rename_i hj
    rw [List.getElem?_drop, Array.getElem?_toList, h4 j (by omega), hx j (by omega)]
  · rw [List.getElem?_eq_none (by rw [hl]; omega)]

/-! ### Numbers of bytes -/
def numM (b : List UInt8) : Nat := b.foldl (fun a x => a * 256 + x.toNat) 0
theorem numM_snoc (b : List UInt8) (x : UInt8) : numM (b ++ [x]) = numM b * 256 + x.toNat := by simp [numM]
theorem numM_lt (b : List UInt8) (h : b.length ≤ 7) : numM b < 72057594037927936 := by
  have key : ∀ k, ∀ c : List UInt8, c.length = k → numM c < 256 ^ k := by
    intro k
    induction k with
    | zero => intro c hc; obtain rfl := List.eq_nil_of_length_eq_zero hc; simp [numM]
    | succ k ih =>
      intro c hc
      obtain ⟨d, x, rfl⟩ : ∃ d x, c = d ++ [x] := ⟨c.dropLast, c.getLast (by intro e; subst e; simp at hc), (List.dropLast_concat_getLast _).symm⟩
      rw [numM_snoc]
      have := ih d (by simpa using hc)
      have := x.toNat_lt
      rw [Nat.pow_succ]
      omega
  have h2 := key b.length b rfl
  have h3 : 256 ^ b.length ≤ 256 ^ 7 := Nat.pow_le_pow_right (by omega) h
  omega
set_option maxHeartbeats 1000000 in
set_option maxRecDepth 100000 in
theorem num_any (b : List UInt8) (v : Value) (n : Nat) (w : World) (hb : rd w v n (b.map vB)) (hl : b.length = n) (h1 : 1 ≤ n) (h7 : n ≤ 7) :
    Calls Tryz.prog 77 #[v] w fun e w' => e = .returned (.tuple #[.int .i64 (numM b), .bool true]) ∧ Below w.heap.size w w' := by
  have hb' := hb
  obtain ⟨ao, cap, rfl, k1, k2, k3⟩ := hb'
  unfold maxLen at k2
  rcases k3 with k3 | ⟨g, off, rfl, k3⟩
  · have := congrArg List.length k3; rw [List.length_map, List.length_nil] at this; omega
  have hcell : ∀ j, j < n → w.cell? ⟨g, off + j, none⟩ = some (.int .u8 (bv (b.getD j 0))) := fun j hj => by
    apply k3; simp [List.getD_eq_getElem?_getD, List.getElem?_eq_getElem (show j < b.length by omega), vB]
  have HC := Lib.hid hcell; have HB := Lib.hid hb
  clear hcell hb k3
  have q0 : ((n : Int) == 0) = false := beq_false_of_ne (by omega)
  have q8 : ((n : Int) == 8) = false := beq_false_of_ne (by omega)
  go_enter Tryz.func77, Tryz.ntmps77
  go_wp2_with fail
  go_loopw [4, 5] (fun s i wr => ∃ k : Nat, k ≤ n ∧ i = .int .i64 k ∧ s = .int .i64 (numM (b.take k)) ∧ Below w.heap.size w wr) (fun _ i _ => n - (intOf i).toNat)
  case atStart => exact ⟨0, by omega, rfl, by simp [numM], Below.refl _ _⟩
  case round =>
    obtain ⟨k, hk, rfl, rfl, hB⟩ := hrel
    by_cases hlt : k < n
    · have hc : wr.cell? ⟨g, off + k, none⟩ = some (.int .u8 (bv (b.getD k 0))) := (hB.cell (World.block_lt_of_cell? w _ (HC.out k hlt))).trans (HC.out k hlt)
      have hs : b.take (k + 1) = b.take k ++ [b.getD k 0] := by
        rw [List.take_add_one, List.getD_eq_getElem?_getD, List.getElem?_eq_getElem (by omega)]; rfl
      have hlt2 := numM_lt (b.take k) (by simp; omega)
      have hst := numM_snoc (b.take k) (b.getD k 0)
      rw [← hs] at hst
      obtain ⟨N, hN⟩ : ∃ N, numM (b.take k) = N := ⟨_, rfl⟩
      obtain ⟨x, hx⟩ : ∃ x, b.getD k 0 = x := ⟨_, rfl⟩
      rw [hN] at hlt2 hst ⊢
      rw [hx] at hc hst
      have h256 := numM_lt (b.take (k + 1)) (by simp; omega)
      have hb1 := bv_nonneg x; have hb2 := bv_lt x
      have HS := Lib.hid hst; have B0 := Lib.hid hB
      have hN2 : (N : Int) * 256 + 255 < 9223372036854775807 := by omega
      clear hst hs hN hx hB h256
      go_wp2
      go_roundw
      case rel => exact ⟨k + 1, by omega, by go_num, by rw [HS.out, show ((N * 256 + x.toNat : Nat) : Int) = (N : Int) * 256 + bv x from by unfold bv; omega], B0.out⟩
      case measure => simp [intOf]; omega
    · obtain rfl : k = n := by omega
      rw [List.take_of_length_le (by omega)]
      have B0 := Lib.hid hB; clear hB
      go_wp2
      go_ret2
      exact ⟨rfl, B0.out⟩
theorem madeCells_one (z : Value) (n : Nat) : madeCells #[z] n = Array.replicate n z := by
  apply Array.ext
  · simp [madeCells]
  · intro i h1 h2
    have : i % 1 = 0 := Nat.mod_one i
    simp [madeCells, this]
theorem mk_u8 (s : Nat) (hs : s ≤ 1000000) (w : World) : (Instr.makeSlice 26 (.int .i64 (s : Int)) (.int .i64 (s : Int))).run Tryz.prog w = .ok (.slice (some ⟨w.heap.size, 0, none⟩) s s) (w.alloc (.cells (Array.replicate s (.int .u8 0)) 5)) := by
  obtain ⟨i, hi, hz, hsz, hby⟩ := info_parts' info_u8
  have := run_make (P := Tryz.prog) w 26 5 i (.int .u8 0) Tryz.underlying26 hi hz .i64 .i64 s s (by omega) (Int.le_refl _) (by rw [hby]; omega) (by omega)
  rw [hsz] at this
  simpa [Value.cells, madeCells_one] using this
theorem mk_int (s : Nat) (hs : s ≤ 1000000) (w : World) : (Instr.makeSlice 80 (.int .i64 (s : Int)) (.int .i64 (s : Int))).run Tryz.prog w = .ok (.slice (some ⟨w.heap.size, 0, none⟩) s s) (w.alloc (.cells (Array.replicate s (.int .i64 0)) 3)) := by
  obtain ⟨i, hi, hz, hsz, hby⟩ := info_parts' info_int
  have := run_make (P := Tryz.prog) w 80 3 i (.int .i64 0) Tryz.underlying80 hi hz .i64 .i64 s s (by omega) (Int.le_refl _) (by rw [hby]; omega) (by omega)
  rw [hsz] at this
  simpa [Value.cells, madeCells_one] using this
theorem CellsI.made (w : World) (n : Nat) (t : TypeId) (z : Value) : CellsI w (w.alloc (.cells (Array.replicate n z) t)) w.heap.size 0 n t (fun _ => z) := by
  refine ⟨⟨_, heap_alloc_new w _, by simp, fun i hi => by simp [hi]⟩, World.grownBy_alloc w _ _⟩
set_option maxHeartbeats 1000000 in
set_option maxRecDepth 100000 in
theorem put_any (n s : Nat) (w : World) (h1 : 1 ≤ s) (h8 : s ≤ 8) (hn : n < 9223372036854775808) :
    Calls Tryz.prog 67 #[.int .i64 n, .int .i64 s] w fun e w' => ∃ v, e = .returned (.tuple #[v, .bool ((n : Int) / 256 ^ s == 0)]) ∧ own w' w.heap.size 5 1 v s ((putM n s).map vB) ∧ Below w.heap.size w w' := by
  have mk := mk_u8 s (by omega)
  have q1 : ¬ ((s : Int) < 1) := by omega
  have q2 : ¬ (8 < (s : Int)) := by omega
  have HM := Lib.hid (CellsI.made w s 5 (.int .u8 0))
  go_enter Tryz.func67, Tryz.ntmps67
  go_wp2_with fail
  go_loopw [0, 7] (fun c i wr => ∃ k : Nat, k ≤ s ∧ i = .int .i64 ((s : Int) - 1 - k) ∧ c = .int .i64 ((n / 256 ^ k : Nat) : Int) ∧ CellsI w wr w.heap.size 0 s 5 (fun j => if s ≤ j + k then vB (UInt8.ofNat (n / 256 ^ (s - 1 - j))) else .int .u8 0)) (fun _ i _ => (intOf i + 1).toNat)
  case atStart => exact ⟨0, by omega, by simp, by simp, HM.out.congr (fun i hi => by rw [if_neg (by omega)])⟩
  case round =>
    obtain ⟨k, hk, rfl, rfl, hI⟩ := hrel
    by_cases hlt : k < s
    · obtain ⟨j, hj⟩ : ∃ j, s - 1 - k = j := ⟨_, rfl⟩
      rw [show (s : Int) - 1 - k = (j : Int) from by omega]
      obtain ⟨hc, hf⟩ := hI.at j (by omega)
      rw [if_neg (by omega)] at hc
      have hput := hI.put j (by omega) (vB (UInt8.ofNat (n / 256 ^ k)))
      rw [Nat.zero_add] at hc hf hput
      have hle : n / 256 ^ k ≤ n := Nat.div_le_self _ _
      have hnx : n / 256 ^ (k + 1) = n / 256 ^ k / 256 := by rw [Nat.pow_succ, Nat.div_div_eq_div_mul]
      obtain ⟨N, hN⟩ : ∃ N, n / 256 ^ k = N := ⟨_, rfl⟩
      rw [hN] at hle hnx hput ⊢
      have hby := put_byte N
      obtain ⟨x, hx⟩ : ∃ x, UInt8.ofNat N = x := ⟨_, rfl⟩
      rw [hx] at hby hput
      have HP := Lib.hid hput; have HN := Lib.hid hN; have HX := Lib.hid hx; have HY := Lib.hid hnx; have HJ := Lib.hid hj
      have hjs : j < s := by omega
      clear hput hN hx hnx hI hj
      go_wp2
      go_roundw
      case rel =>
        have hj := HJ.out
        refine ⟨k + 1, by omega, by rw [← hj]; congr 1; omega, by rw [HY.out]; rfl, HP.out.congr (fun m hm => ?_)⟩
        by_cases e1 : m = j
        · rw [if_pos e1, if_pos (by omega), ← HX.out, ← HN.out, e1, show s - 1 - j = k from by omega]
        · rw [if_neg e1]
          by_cases e2 : s ≤ m + k
          · rw [if_pos e2, if_pos (by omega)]
          · rw [if_neg e2, if_neg (by omega)]
      case measure => simp [intOf] <;> omega
    · obtain rfl : k = s := by omega
      have ho := hI.own (base := w.heap.size) (xs := (putM n k).map vB) (by simp [putM_length]) (fun i hi => by rw [List.getElem?_map, putM_get _ _ _ hi, if_pos (by omega)]; rfl) (Nat.le_refl _) (by unfold maxLen; omega)
      have hB := (Below.refl w.heap.size w).grown hI.grown (Nat.le_refl _) (fun q hq => by injection hq with hq; omega)
      have HO := Lib.hid ho; have HB := Lib.hid hB; clear ho hB hI
      have q3 : ¬ (0 ≤ (k : Int) - 1 - k) := by omega
      go_wp2
      go_ret2
      exact ⟨_, rfl, HO.out, HB.out⟩
/-- The table of rounds, as numbers of 64 bits. -/
def kI : Array Value := #[.int .i64 1116352408, .int .i64 1899447441, .int .i64 3049323471, .int .i64 3921009573, .int .i64 961987163, .int .i64 1508970993, .int .i64 2453635748, .int .i64 2870763221, .int .i64 3624381080, .int .i64 310598401, .int .i64 607225278, .int .i64 1426881987, .int .i64 1925078388, .int .i64 2162078206, .int .i64 2614888103, .int .i64 3248222580, .int .i64 3835390401, .int .i64 4022224774, .int .i64 264347078, .int .i64 604807628, .int .i64 770255983, .int .i64 1249150122, .int .i64 1555081692, .int .i64 1996064986, .int .i64 2554220882, .int .i64 2821834349, .int .i64 2952996808, .int .i64 3210313671, .int .i64 3336571891, .int .i64 3584528711, .int .i64 113926993, .int .i64 338241895, .int .i64 666307205, .int .i64 773529912, .int .i64 1294757372, .int .i64 1396182291, .int .i64 1695183700, .int .i64 1986661051, .int .i64 2177026350, .int .i64 2456956037, .int .i64 2730485921, .int .i64 2820302411, .int .i64 3259730800, .int .i64 3345764771, .int .i64 3516065817, .int .i64 3600352804, .int .i64 4094571909, .int .i64 275423344, .int .i64 430227734, .int .i64 506948616, .int .i64 659060556, .int .i64 883997877, .int .i64 958139571, .int .i64 1322822218, .int .i64 1537002063, .int .i64 1747873779, .int .i64 1955562222, .int .i64 2024104815, .int .i64 2227730452, .int .i64 2361852424, .int .i64 2428436474, .int .i64 2756734187, .int .i64 3204031479, .int .i64 3329325298]
theorem kI_eq : kI = (kTab.map fun x => Value.int .i64 (wv x)).toArray := by rfl
theorem kI_size : kI.size = 64 := by rfl
theorem rounds_any (w : World) : Calls Tryz.prog 68 #[] w fun e w' => e = .returned (.slice (some ⟨w.heap.size, 0, none⟩) 64 64) ∧ w' = w.alloc (.cells kI 3) := by
  go_enter Tryz.func68, Tryz.ntmps68
  go_wp2
  go_ret
  exact ⟨rfl, rfl⟩
attribute [irreducible] kI
end Go.Proofs.YtljcdkfafknnpaaGreatDoor
namespace Go.Proofs.YtljcdkfafknnpaaGreatDoor
set_option linter.unusedVariables false
set_option linter.unusedSimpArgs false
open Go.RowKit

/-- Cells in a row, each told; how many its block has. -/
def RowI (w : World) (g off n : Nat) (t : TypeId) (sz : Nat) (D : Nat → Value) : Prop :=
  ∃ c, w.heap[g]? = some (.cells c t (0, 0)) ∧ off + n ≤ c.size ∧ c.size = sz ∧ ∀ i, i < n → c[off + i]? = some (D i)
theorem RowI.lt {w : World} {g off n : Nat} {t : TypeId} {sz : Nat} {D : Nat → Value} (h : RowI w g off n t sz D) : g < w.heap.size := by
  obtain ⟨c, h1, -⟩ := h; exact (Array.getElem?_eq_some_iff.1 h1).1
theorem RowI.at {w : World} {g off n : Nat} {t : TypeId} {sz : Nat} {D : Nat → Value} (h : RowI w g off n t sz D) (i : Nat) (hi : i < n) : w.cell? ⟨g, off + i, none⟩ = some (D i) := by
  obtain ⟨c, h1, -, -, h2⟩ := h
  simp [World.cell?, h1, h2 i hi]
theorem RowI.free {w : World} {g off n : Nat} {t : TypeId} {sz : Nat} {D : Nat → Value} (h : RowI w g off n t sz D) (o : Nat) : w.frozen? ⟨g, o, none⟩ = false := by
  obtain ⟨c, h1, -⟩ := h
  simp [World.frozen?, h1]
theorem RowI.put {w : World} {g off n : Nat} {t : TypeId} {sz : Nat} {D : Nat → Value} (h : RowI w g off n t sz D) (i : Nat) (hi : i < n) (x : Value) :
    RowI (w.setCell ⟨g, off + i, none⟩ x) g off n t sz (fun m => if m = i then x else D m) := by
  obtain ⟨c, h1, h2, h3, h4⟩ := h
  refine ⟨_, setCell_heap h1 _, by simpa using h2, by simpa using h3, fun m hm => ?_⟩
  show (c.setIfInBounds (off + i) x)[off + m]? = some (if m = i then x else D m)
  by_cases e : m = i
  · subst e; rw [if_pos rfl, Array.getElem?_setIfInBounds, if_pos rfl, if_pos (by omega)]
  · rw [if_neg e, Array.getElem?_setIfInBounds, if_neg (by omega)]; exact h4 m hm
theorem RowI.kept {w w' : World} {g off n : Nat} {t : TypeId} {sz : Nat} {D : Nat → Value} (h : RowI w g off n t sz D) (hk : w'.heap[g]? = w.heap[g]?) : RowI w' g off n t sz D := by
  obtain ⟨c, h1, h2, h3, h4⟩ := h
  exact ⟨c, hk.trans h1, h2, h3, h4⟩
theorem RowI.set {w : World} {g off n : Nat} {t : TypeId} {sz : Nat} {D : Nat → Value} (h : RowI w g off n t sz D) (a : Addr) (x : Value) (hne : g ≠ a.block) : RowI (w.setCell a x) g off n t sz D :=
  h.kept (Below.heap_setCell _ _ _ _ hne)
theorem RowI.congr {w : World} {g off n : Nat} {t : TypeId} {sz : Nat} {D E : Nat → Value} (h : RowI w g off n t sz D) (he : ∀ i, i < n → D i = E i) : RowI w g off n t sz E := by
  obtain ⟨c, h1, h2, h3, h4⟩ := h
  exact ⟨c, h1, h2, h3, fun i hi => by rw [← he i hi]; exact h4 i hi⟩
theorem RowI.own {w : World} {base : Nat} {t : TypeId} {g off n cap sz : Nat} {xs : List Value} {D : Nat → Value} (h : RowI w g off n t sz D) (hl : xs.length = n) (hx : ∀ i, i < n → xs[i]? = some (D i))
    (hb : base ≤ g) (hn : n ≤ cap) (hm : cap ≤ maxLen) (hs : off + cap ≤ sz) : Go.Proofs.YtljcdkfafknnpaaGreatDoor.own w base t 1 (.slice (some ⟨g, off, none⟩) n cap) n xs := by
  obtain ⟨c, h1, h2, h3, h4⟩ := h
  refine ⟨by rw [hl]; omega, _, _, rfl, hn, hm, .inr ⟨g, off, c, rfl, hb, h1, by omega, ?_⟩⟩
  apply List.ext_getElem?
  intro j
  rw [List.getElem?_take]
  split
  · rename_i hj
    rw [List.getElem?_drop, Array.getElem?_toList, h4 j (by omega), hx j (by omega)]
  · rw [List.getElem?_eq_none (by rw [hl]; omega)]
theorem RowI.of_own {w : World} {base : Nat} {t : TypeId} {ao : Option Addr} {n cap : Nat} {xs : List Value} (h : Go.Proofs.YtljcdkfafknnpaaGreatDoor.own w base t 1 (.slice ao n cap) n xs) (hn : 0 < n) (D : Nat → Value) (hx : ∀ i, i < n → xs[i]? = some (D i)) :
    ∃ g off sz, ao = some ⟨g, off, none⟩ ∧ base ≤ g ∧ n ≤ cap ∧ cap ≤ maxLen ∧ off + cap ≤ sz ∧ RowI w g off n t sz D := by
  obtain ⟨hl, ao', cap', e, k1, k2, k3⟩ := h
  cases e
  rcases k3 with k3 | ⟨g, off, cur, rfl, hb, hg, hs, he⟩
  · omega
  · refine ⟨g, off, cur.size, rfl, hb, k1, k2, by omega, cur, hg, by omega, rfl, fun i hi => ?_⟩
    rw [← hx i hi, ← he, List.getElem?_take, if_pos (by omega), List.getElem?_drop, Array.getElem?_toList]
/-- 's[i:j]'. -/
theorem run_slice_mid {P : Program} (t e : TypeId) (sz : Nat) (ht : P.underlying t = some (.slice e)) (hs : (P.info? e).map (·.size) = some sz) (a : Option Addr) (n cap i j : Nat) (hij : i ≤ j) (hj : j ≤ cap) (w : World) :
    (Instr.sliceAt t (.slice a n cap) (some (.int .i64 (i : Int))) (some (.int .i64 (j : Int))) none).run P w = .ok (.slice (if cap = i then a else a.map (·.add (i * sz))) (j - i) (cap - i)) w := by
  obtain ⟨inf, hi, hsz⟩ : ∃ i, P.info? e = some i ∧ i.size = sz := by
    cases h : P.info? e with
    | none => simp [h] at hs
    | some i => exact ⟨i, rfl, by simpa [h] using hs⟩
  simp [Instr.sliceAt, Instr.slice, run_underlying ht, Instr.sliceBounds, Instr.sliceBound, asIntOf, sizeOf, typeInfo, hi, hsz]
  rw [if_pos (by omega)]
  rw [if_pos hij]
def iV (x : UInt32) : Value := .int .i64 (wv x)
def stI (s : St) : List Value := [iV s.a, iV s.b, iV s.c, iV s.d, iV s.e, iV s.f, iV s.g, iV s.h]
theorem stI_get (s : St) (j : Nat) (h : j < 8) : (stI s)[j]? = some (iV (stWord s j)) := by
  obtain rfl | rfl | rfl | rfl | rfl | rfl | rfl | rfl : j = 0 ∨ j = 1 ∨ j = 2 ∨ j = 3 ∨ j = 4 ∨ j = 5 ∨ j = 6 ∨ j = 7 := by omega
  all_goals rfl
theorem u8_nat (x : UInt8) : x.toUInt32.toNat = x.toNat := by simp
theorem word_num (x y z t : UInt8) : (((x.toNat * 256 + y.toNat) * 256 + z.toNat) * 256 + t.toNat) = ((((x.toUInt32 <<< 24) ||| (y.toUInt32 <<< 16)) ||| (z.toUInt32 <<< 8)) ||| t.toUInt32).toNat := by
  have hx := x.toNat_lt; have hy := y.toNat_lt; have hz := z.toNat_lt; have ht := t.toNat_lt
  have e1 : (x.toUInt32 <<< 24).toNat = x.toNat * 16777216 := by
    rw [UInt32.toNat_shiftLeft, u8_nat, Nat.shiftLeft_eq]
    have : (24 : UInt32).toNat % 32 = 24 := by decide
    rw [this]; omega
  have e2 : (y.toUInt32 <<< 16).toNat = y.toNat * 65536 := by
    rw [UInt32.toNat_shiftLeft, u8_nat, Nat.shiftLeft_eq]
    have : (16 : UInt32).toNat % 32 = 16 := by decide
    rw [this]; omega
  have e3 : (z.toUInt32 <<< 8).toNat = z.toNat * 256 := by
    rw [UInt32.toNat_shiftLeft, u8_nat, Nat.shiftLeft_eq]
    have : (8 : UInt32).toNat % 32 = 8 := by decide
    rw [this]; omega
  rw [UInt32.toNat_or, UInt32.toNat_or, UInt32.toNat_or, e1, e2, e3, u8_nat, nat_join 24 (x.toNat * 16777216) (y.toNat * 65536) (by omega) (by omega), nat_join 16 (x.toNat * 16777216 + y.toNat * 65536) (z.toNat * 256) (by omega) (by omega), nat_join 8 _ t.toNat (by omega) (by omega)]
  omega
theorem num_word (b : List UInt8) (t : Nat) (h : 4 * t + 4 ≤ b.length) : ((numM ((b.drop (4 * t)).take 4) : Nat) : Int) = wv (wordAt b t) := by
  have e : (b.drop (4 * t)).take 4 = [b.getD (4 * t) 0, b.getD (4 * t + 1) 0, b.getD (4 * t + 2) 0, b.getD (4 * t + 3) 0] := by
    apply List.ext_getElem?
    intro j
    rw [List.getElem?_take]
    split
    · rw [List.getElem?_drop]
      have hj : j = 0 ∨ j = 1 ∨ j = 2 ∨ j = 3 := by omega
      rcases hj with rfl | rfl | rfl | rfl <;> simp [List.getD_eq_getElem?_getD, List.getElem?_eq_getElem (show 4 * t < b.length by omega), List.getElem?_eq_getElem (show 4 * t + 1 < b.length by omega), List.getElem?_eq_getElem (show 4 * t + 2 < b.length by omega), List.getElem?_eq_getElem (show 4 * t + 3 < b.length by omega)]
    · rw [List.getElem?_eq_none (by simp; omega)]
  rw [e]
  unfold wv wordAt
  rw [← word_num]
  simp [numM]
theorem sch_next (b : List UInt8) (t : Nat) (ht : t < 64) (j : Nat) : (sch b (t + 1)).getD j 0 = if j = t then wAt b t else (sch b t).getD j 0 := by
  have hl := sch_length b t
  rw [sch_wAt b t ht]
  by_cases h : j = t
  · subst h; rw [if_pos rfl, List.getD_eq_getElem?_getD, List.getElem?_append_right (by omega)]; simp [hl]
  · rw [if_neg h, List.getD_eq_getElem?_getD, List.getD_eq_getElem?_getD]
    by_cases h2 : j < t
    · rw [List.getElem?_append_left (by omega)]
    · rw [List.getElem?_eq_none (by simp; omega), List.getElem?_eq_none (by omega)]
theorem RowI.sch {w : World} {g : Nat} {t : TypeId} {b : List UInt8} {k : Nat} (h : RowI w g 0 64 t 64 (fun j => if j = k then iV (wAt b k) else iV ((sch b k).getD j 0))) (hk : k < 64) : RowI w g 0 64 t 64 (fun j => iV ((sch b (k + 1)).getD j 0)) :=
  h.congr fun j _ => by
    rw [sch_next b k hk]
    split <;> rfl
theorem kI_get (t : Nat) (h : t < 64) : kI.toList[t]? = some (.int .i64 (wv (kTab.getD t 0))) := by
  have : t < kTab.length := by have : kTab.length = 64 := by decide
                               omega
  rw [kI_eq]
  simp [List.getD_eq_getElem?_getD, List.getElem?_eq_getElem this]
theorem wrap64_small (n : Int) (h0 : 0 ≤ n) (h1 : n < 9223372036854775808) : wrap64 n = n := by
  unfold wrap64; omega
theorem iV_zero : Value.int .i64 0 = iV 0 := by rfl
set_option maxHeartbeats 2000000 in
set_option maxRecDepth 100000 in
theorem rblock_any (s : St) (b : List UInt8) (hv kv mv : Value) (w : World) (hh : rd w hv 8 (stI s)) (hk : rd w kv 64 kI.toList) (hb : rd w mv 64 (b.map vB)) (hl : b.length = 64) :
    Calls Tryz.prog 69 #[hv, kv, mv] w fun e w' => ∃ v, e = .returned v ∧ own w' w.heap.size 3 1 v 8 (stI (blockM s b)) ∧ Below w.heap.size w w' := by
  have hh' := hh; have hk' := hk; have hb' := hb
  obtain ⟨ha, hcap, rfl, h1, h2, h3⟩ := hh'
  obtain ⟨ka, kcap, rfl, k1, k2, k3⟩ := hk'
  obtain ⟨ma, mcap, rfl, m1, m2, m3⟩ := hb'
  unfold maxLen at h2 k2 m2
  have mk : ∀ w, (Instr.makeSlice 80 (.int .i64 64) (.int .i64 64)).run Tryz.prog w = .ok (.slice (some ⟨w.heap.size, 0, none⟩) 64 64) (w.alloc (.cells (Array.replicate 64 (.int .i64 0)) 3)) := mk_int 64 (by omega)
  have HM := Lib.hid (CellsI.made w 64 3 (.int .i64 0))
  have HB := Lib.hid hb; have HH := Lib.hid hh; have HK := Lib.hid hk
  clear hb hh hk h3 k3 m3
  go_enter Tryz.func69, Tryz.ntmps69
  go_wp2_with fail
  go_loopw [8] (fun i wr => ∃ k : Nat, k ≤ 64 ∧ i = .int .i64 k ∧ Below w.heap.size w wr ∧ RowI wr w.heap.size 0 64 3 64 (fun j => iV ((sch b k).getD j 0))) (fun i _ => 64 - (intOf i).toNat)
  case atStart =>
    obtain ⟨c, c1, c2, c3⟩ := HM.out.blk
    refine ⟨0, by omega, rfl, (Below.refl _ _).alloc (Nat.le_refl _) _, _, heap_alloc_new w _, by simp, by simp, fun i hi => ?_⟩
    rw [sch_zero]
    simp [hi, iV_zero]
  case round =>
    obtain ⟨t, ht, rfl, hB, hR⟩ := hrel
    by_cases hlt : t < 64
    · by_cases h16 : t < 16
      · have hmid := rd_mid HB.out (by rw [List.length_map, hl]) (4 * t) (4 * t + 4) (by omega) (by omega)
        rw [if_neg (by omega), show 4 * t + 4 - 4 * t = 4 from by omega, Nat.mul_one, ← List.map_drop, ← List.map_take] at hmid
        have HMID := Lib.hid (rd_belowB hmid hB (Nat.le_refl _))
        have hR0 := Lib.hid hR; have B0 := Lib.hid hB
        clear hmid hR hB
        go_wp2_with fail
        refine (num_any _ _ 4 wr HMID.out (by simp; omega) (by omega) (by omega)).mono ?_
        rintro e w1 ⟨rfl, hb1⟩
        rw [num_word b t (by omega), ← wAt_low b t h16]
        have hR1 := hR0.out.kept (hb1.block _ hR0.out.lt)
        have B1 := Lib.hid (B0.out.trans (hb1.mono B0.out.size))
        have hc := hR1.at t (by omega)
        have hf := hR1.free t
        have hput := hR1.put t (by omega) (iV (wAt b t))
        rw [Nat.zero_add] at hc hput
        unfold iV at hc
        have HP := Lib.hid hput
        clear hb1 hR1 hput
        go_wp2
        go_roundw
        case rel => exact ⟨t + 1, by omega, by go_num, B1.out.setCell (Nat.le_refl _) _, HP.out.sch hlt⟩
        case measure => simp [intOf]; omega
      · obtain ⟨m, rfl⟩ : ∃ m, t = m + 16 := ⟨t - 16, by omega⟩
        rw [show ((m + 16 : Nat) : Int) = (m : Int) + 16 from by omega]
        have hc : ∀ j, j < m + 16 → wr.cell? ⟨w.heap.size, j, none⟩ = some (.int .i64 (wv (wAt b j))) := fun j hj => by
          have := hR.at j (by omega)
          rw [Nat.zero_add, sch_getD_wAt b _ _ hj (by omega)] at this
          exact this
        have hc15 := hc (m + 1) (by omega)
        have hc2 := hc (m + 14) (by omega)
        have hc7 := hc (m + 9) (by omega)
        have hc16 := hc m (by omega)
        have hd := hR.at (m + 16) hlt
        have hf := hR.free (m + 16)
        have hput := hR.put (m + 16) hlt (iV (wAt b (m + 16)))
        rw [Nat.zero_add] at hd hput
        unfold iV at hd
        generalize (sch b (m + 16)).getD (m + 16) 0 = z at hd
        have hw := wAt_high b (m + 16) (by omega) (by omega)
        rw [show m + 16 - 2 = m + 14 from by omega, show m + 16 - 7 = m + 9 from by omega, show m + 16 - 15 = m + 1 from by omega, show m + 16 - 16 = m from by omega] at hw
        have HW := Lib.hid hw; have HP := Lib.hid hput; have HR := Lib.hid hR; have B0 := Lib.hid hB
        clear hw hput hR hB hc
        generalize wAt b (m + 1) = x15 at hc15 HW
        generalize wAt b (m + 14) = x2 at hc2 HW
        generalize wAt b (m + 9) = x7 at hc7 HW
        generalize wAt b m = x16 at hc16 HW
        have hx := wi_xor
        have h3 := wv_shr3
        have h10 := wv_shr10
        go_wp2_with fail
        refine (turn_7 x15 _).mono ?_
        rintro e w' ⟨rfl, rfl⟩
        go_wp2_with fail
        refine (turn_18 x15 _).mono ?_
        rintro e w' ⟨rfl, rfl⟩
        go_wp2_with fail
        refine (turn_17 x2 _).mono ?_
        rintro e w' ⟨rfl, rfl⟩
        go_wp2_with fail
        refine (turn_19 x2 _).mono ?_
        rintro e w' ⟨rfl, rfl⟩
        go_wp2_with fail
        generalize hS0 : rotr 7 x15 ^^^ rotr 18 x15 ^^^ x15 >>> 3 = S0
        generalize hS1 : rotr 17 x2 ^^^ rotr 19 x2 ^^^ x2 >>> 10 = S1
        have hsum : (wv S1 + wv x7 + wv S0 + wv x16) % 4294967296 = wv (wAt b (m + 16)) := by
          rw [HW.out, ← hS0, ← hS1]
          exact wi_sum (wi_sum (wi_sum (wi_self _) (wi_self _)) (wi_self _)) (wi_self _)
        have HSUM := Lib.hid hsum; have HS0 := Lib.hid hS0; have HS1 := Lib.hid hS1
        have n0 := wv_nonneg S0; have n1 := wv_nonneg S1; have n7 := wv_nonneg x7; have n16 := wv_nonneg x16
        have l0 := wv_lt S0; have l1 := wv_lt S1; have l7 := wv_lt x7; have l16 := wv_lt x16
        have hlow := i64_low (wv S1 + wv x7 + wv S0 + wv x16) (by omega) (by omega)
        clear hsum hS0 hS1 hx h3 h10
        go_region
        go_wp2
        go_roundw
        case rel =>
          refine ⟨m + 16 + 1, by omega, by go_num, (B0.out.setCell (Nat.le_refl _) _).drew.drew.drew.drew.drew, ?_⟩
          have e := HP.out.sch hlt
          unfold iV at e
          rw [HSUM.out]
          exact e
        case measure => simp [intOf]; omega
    · obtain rfl : t = 64 := by omega
      have hR0 := Lib.hid hR; have B0 := Lib.hid hB
      clear hR hB ht
      obtain ⟨i0, hi0, hz0, hz1, hz2⟩ := info_parts' info_int
      have B1 := Lib.hid (B0.out.alloc B0.out.size (.cells #[] 3))
      have hR1 := Lib.hid (hR0.out.kept (Below.heap_alloc wr (.cells #[] 3) _ hR0.out.lt))
      have HH1 := Lib.hid (rd_belowB HH.out B1.out (Nat.le_refl _))
      go_wp2_with (at_builtin; refine wpList_append_rd rfl (.tmp 87) (.tmp 88) 80 rfl 3 i0 (.int .i64 0) 1 8 Tryz.underlying80 hi0 hz0 hz1 hz2 rfl (by decide) (w.heap.size + 1) 0 [] (own_empty _ _ _ _ _) 8 (stI s) ?c1 HH1.out ?c5 ?c2 ?c3 ?c4 ?_)
      case c1 => rfl
      case c5 => intro u hu; simp only [stI, List.mem_cons, List.not_mem_nil, or_false] at hu; rcases hu with rfl | rfl | rfl | rfl | rfl | rfl | rfl | rfl <;> rfl
      case c2 => unfold maxLen; omega
      case c3 => omega
      case c4 => have := hR1.out.lt; omega
      intro v1 w2 ho1 _ hg1
      have B2 := Lib.hid (B1.out.grown hg1 B1.out.size (fun q hq => by cases hq))
      have hR2 := Lib.hid (hR1.out.kept (hg1.block _ hR1.out.lt (fun e => by cases e)))
      have ho1' := ho1
      obtain ⟨-, vo, vcap, rfl, -, -, -⟩ := ho1'
      obtain ⟨C, off, vsz, rfl, vb, v1, v2, v3, hV⟩ := RowI.of_own ho1 (by omega) (fun j => iV (stWord s j)) (fun i hi => stI_get s i hi)
      have hV2 := Lib.hid hV
      clear ho1 hg1 hV
      unfold maxLen at v2
      obtain ⟨w3, rfl⟩ : ∃ w3 : World, w3 = w2 := ⟨_, rfl⟩
      go_wp2_with fail
      go_loopw [14] (fun i wq => ∃ k : Nat, k ≤ 64 ∧ i = .int .i64 k ∧ Below w.heap.size w wq ∧ RowI wq w.heap.size 0 64 3 64 (fun j => iV ((sch b 64).getD j 0)) ∧ RowI wq C off 8 3 vsz (fun j => iV (stWord (rnds s b k) j))) (fun i _ => 64 - (intOf i).toNat)
      case atStart => exact ⟨0, by omega, rfl, B2.out, hR2.out, by rw [rnds_zero]; exact hV2.out⟩
      case round =>
        obtain ⟨t, ht, rfl, hB, hW, hV⟩ := hrel
        by_cases hlt2 : t < 64
        · have hw := hW.at t hlt2
          rw [Nat.zero_add, sch_getD_wAt b _ _ hlt2 (by omega)] at hw
          have hkk := HK.out
          obtain ⟨_, _, e1, -, -, e3⟩ := hkk
          cases e1
          rcases e3 with e3 | ⟨kg, koff, rfl, e3⟩
          · have := congrArg List.length e3; rw [Array.length_toList, kI_size] at this; cases this
          have hkc : w.cell? ⟨kg, koff + t, none⟩ = some (.int .i64 (wv (kTab.getD t 0))) := e3 t _ (kI_get t hlt2)
          have hk1 := (hB.cell (World.block_lt_of_cell? w _ hkc)).trans hkc
          have HR := Lib.hid (rnds_succ s b t)
          have hv : ∀ j, j < 8 → wr.cell? ⟨C, off + j, none⟩ = some (.int .i64 (wv (stWord (rnds s b t) j))) := fun j hj => hV.at j hj
          have hv0 : wr.cell? ⟨C, off, none⟩ = some (.int .i64 (wv (rnds s b t).a)) := hv 0 (by omega)
          have hv1 : wr.cell? ⟨C, off + 1, none⟩ = some (.int .i64 (wv (rnds s b t).b)) := hv 1 (by omega)
          have hv2 : wr.cell? ⟨C, off + 2, none⟩ = some (.int .i64 (wv (rnds s b t).c)) := hv 2 (by omega)
          have hv4 : wr.cell? ⟨C, off + 4, none⟩ = some (.int .i64 (wv (rnds s b t).e)) := hv 4 (by omega)
          have hv5 : wr.cell? ⟨C, off + 5, none⟩ = some (.int .i64 (wv (rnds s b t).f)) := hv 5 (by omega)
          have hv6 : wr.cell? ⟨C, off + 6, none⟩ = some (.int .i64 (wv (rnds s b t).g)) := hv 6 (by omega)
          have hv7 : wr.cell? ⟨C, off + 7, none⟩ = some (.int .i64 (wv (rnds s b t).h)) := hv 7 (by omega)
          have HV := Lib.hid hV; have B3 := Lib.hid hB; have HW := Lib.hid hW
          clear e3 hkc hv hV hB hW
          obtain ⟨V, hVV⟩ : ∃ V, rnds s b t = V := ⟨_, rfl⟩
          obtain ⟨x, hxx⟩ : ∃ x, wAt b t = x := ⟨_, rfl⟩
          obtain ⟨kt, hkt⟩ : ∃ kt, kTab.getD t 0 = kt := ⟨_, rfl⟩
          rw [hVV] at hv0 hv1 hv2 hv4 hv5 hv6 hv7 HV HR
          rw [hxx] at hw HR
          rw [hkt] at hk1 HR
          clear hVV hxx hkt
          obtain ⟨T6, hT6⟩ : ∃ z, rotr 6 V.e = z := ⟨_, rfl⟩
          have cT6 := fun wz => turn_6 V.e wz
          rw [hT6] at cT6
          have HT6 := Lib.hid cT6; clear cT6
          obtain ⟨T11, hT11⟩ : ∃ z, rotr 11 V.e = z := ⟨_, rfl⟩
          have cT11 := fun wz => turn_11 V.e wz
          rw [hT11] at cT11
          have HT11 := Lib.hid cT11; clear cT11
          obtain ⟨T25, hT25⟩ : ∃ z, rotr 25 V.e = z := ⟨_, rfl⟩
          have cT25 := fun wz => turn_25 V.e wz
          rw [hT25] at cT25
          have HT25 := Lib.hid cT25; clear cT25
          obtain ⟨T2, hT2⟩ : ∃ z, rotr 2 V.a = z := ⟨_, rfl⟩
          have cT2 := fun wz => turn_2 V.a wz
          rw [hT2] at cT2
          have HT2 := Lib.hid cT2; clear cT2
          obtain ⟨T13, hT13⟩ : ∃ z, rotr 13 V.a = z := ⟨_, rfl⟩
          have cT13 := fun wz => turn_13 V.a wz
          rw [hT13] at cT13
          have HT13 := Lib.hid cT13; clear cT13
          obtain ⟨T22, hT22⟩ : ∃ z, rotr 22 V.a = z := ⟨_, rfl⟩
          have cT22 := fun wz => turn_22 V.a wz
          rw [hT22] at cT22
          have HT22 := Lib.hid cT22; clear cT22
          obtain ⟨Y1, hY1⟩ : ∃ z, T6 ^^^ T11 = z := ⟨_, rfl⟩
          have EY1 : Hid (bits .xor .i64 (wv T6) (wv T11) = wv Y1) := by show _ = _; rw [wi_xor, hY1]
          obtain ⟨S1, hS1⟩ : ∃ z, Y1 ^^^ T25 = z := ⟨_, rfl⟩
          have ES1 : Hid (bits .xor .i64 (wv Y1) (wv T25) = wv S1) := by show _ = _; rw [wi_xor, hS1]
          obtain ⟨C1, hC1⟩ : ∃ z, V.e &&& V.f = z := ⟨_, rfl⟩
          have EC1 : Hid (bits .and .i64 (wv V.e) (wv V.f) = wv C1) := by show _ = _; rw [wi_and, hC1]
          obtain ⟨NE, hNE⟩ : ∃ z, ~~~ V.e = z := ⟨_, rfl⟩
          have ENE : Hid (4294967295 - wv V.e = wv NE) := by show _ = _; rw [wi_not, hNE]
          obtain ⟨C2, hC2⟩ : ∃ z, NE &&& V.g = z := ⟨_, rfl⟩
          have EC2 : Hid (bits .and .i64 (wv NE) (wv V.g) = wv C2) := by show _ = _; rw [wi_and, hC2]
          obtain ⟨CH, hCH⟩ : ∃ z, C1 ^^^ C2 = z := ⟨_, rfl⟩
          have ECH : Hid (bits .xor .i64 (wv C1) (wv C2) = wv CH) := by show _ = _; rw [wi_xor, hCH]
          obtain ⟨Y2, hY2⟩ : ∃ z, T2 ^^^ T13 = z := ⟨_, rfl⟩
          have EY2 : Hid (bits .xor .i64 (wv T2) (wv T13) = wv Y2) := by show _ = _; rw [wi_xor, hY2]
          obtain ⟨S0, hS0⟩ : ∃ z, Y2 ^^^ T22 = z := ⟨_, rfl⟩
          have ES0 : Hid (bits .xor .i64 (wv Y2) (wv T22) = wv S0) := by show _ = _; rw [wi_xor, hS0]
          obtain ⟨M1, hM1⟩ : ∃ z, V.a &&& V.b = z := ⟨_, rfl⟩
          have EM1 : Hid (bits .and .i64 (wv V.a) (wv V.b) = wv M1) := by show _ = _; rw [wi_and, hM1]
          obtain ⟨M2, hM2⟩ : ∃ z, V.a &&& V.c = z := ⟨_, rfl⟩
          have EM2 : Hid (bits .and .i64 (wv V.a) (wv V.c) = wv M2) := by show _ = _; rw [wi_and, hM2]
          obtain ⟨M3, hM3⟩ : ∃ z, M1 ^^^ M2 = z := ⟨_, rfl⟩
          have EM3 : Hid (bits .xor .i64 (wv M1) (wv M2) = wv M3) := by show _ = _; rw [wi_xor, hM3]
          obtain ⟨M4, hM4⟩ : ∃ z, V.b &&& V.c = z := ⟨_, rfl⟩
          have EM4 : Hid (bits .and .i64 (wv V.b) (wv V.c) = wv M4) := by show _ = _; rw [wi_and, hM4]
          obtain ⟨MJ, hMJ⟩ : ∃ z, M3 ^^^ M4 = z := ⟨_, rfl⟩
          have EMJ : Hid (bits .xor .i64 (wv M3) (wv M4) = wv MJ) := by show _ = _; rw [wi_xor, hMJ]
          have hP : rndP V kt x = V.h + S1 + CH + kt + x := by rw [← hS1, ← hY1, ← hT6, ← hT11, ← hT25, ← hCH, ← hC1, ← hC2, ← hNE]; rfl
          have hQ : rndQ V = S0 + MJ := by rw [← hS0, ← hY2, ← hT2, ← hT13, ← hT22, ← hMJ, ← hM3, ← hM1, ← hM2, ← hM4]; rfl
          have HP := Lib.hid hP; have HQ := Lib.hid hQ
          clear hP hQ hT6 hT11 hT25 hT2 hT13 hT22 hY1 hS1 hC1 hNE hC2 hCH hY2 hS0 hM1 hM2 hM3 hM4 hMJ
          unfold iV at hw
          clear B0 hR0 B1 hR1 HH1 B2 hR2 hV2 mk HM HB hlt
          go_wp2_with fail
          have eY1 := EY1.out
          have eS1 := ES1.out
          have eC1 := EC1.out
          have eNE := ENE.out
          have eC2 := EC2.out
          have eCH := ECH.out
          go_quiet ((go_at_call 104; first | with_reducible exact turn_add (HT6.out _) | with_reducible exact turn_left (HT6.out _) | with_reducible exact turn_add (HT11.out _) | with_reducible exact turn_left (HT11.out _) | with_reducible exact turn_add (HT25.out _) | with_reducible exact turn_left (HT25.out _)))
          generalize hp : wrap64 (wrap64 (wrap64 (wrap64 (wv V.h + wv S1) + bits .xor .i64 (wv C1) (bits .and .i64 (wrap64 (wv NE)) (wv V.g))) + wv kt) + wv x) = p
          have hp3 : 0 ≤ p ∧ p < 21474836480 ∧ p % 4294967296 = wv (rndP V kt x) := by
            have nh := wv_nonneg V.h; have lh := wv_lt V.h
            have nkt := wv_nonneg kt; have lkt := wv_lt kt
            have nx := wv_nonneg x; have lx := wv_lt x
            have nS1 := wv_nonneg S1; have lS1 := wv_lt S1
            have nCH := wv_nonneg CH; have lCH := wv_lt CH
            have nNE := wv_nonneg NE; have lNE := wv_lt NE
            rw [wrap64_small (wv NE) (by omega) (by omega), EC2.out, ECH.out, wrap64_small (wv V.h + wv S1) (by omega) (by omega), wrap64_small (wv V.h + wv S1 + wv CH) (by omega) (by omega), wrap64_small (wv V.h + wv S1 + wv CH + wv kt) (by omega) (by omega), wrap64_small _ (by omega) (by omega)] at hp
            refine ⟨by omega, by omega, ?_⟩
            rw [← hp, HP.out]
            exact wi_sum (wi_sum (wi_sum (wi_sum (wi_self _) (wi_self _)) (wi_self _)) (wi_self _)) (wi_self _)
          have HP3 := Lib.hid hp3
          clear hp hp3 eY1 eS1 eC1 eNE eC2 eCH
          go_wp2_with fail
          have eY2 := EY2.out; have eS0 := ES0.out; have eM1 := EM1.out; have eM2 := EM2.out; have eM3 := EM3.out; have eM4 := EM4.out; have eMJ := EMJ.out
          go_quiet ((go_at_call 104; first | with_reducible exact turn_add (HT2.out _) | with_reducible exact turn_left (HT2.out _) | with_reducible exact turn_add (HT13.out _) | with_reducible exact turn_left (HT13.out _) | with_reducible exact turn_add (HT22.out _) | with_reducible exact turn_left (HT22.out _)))
          generalize hq : wrap64 (wv S0 + wv MJ) = q
          have hq3 : 0 ≤ q ∧ q < 8589934592 ∧ q % 4294967296 = wv (rndQ V) := by
            have nS0 := wv_nonneg S0; have lS0 := wv_lt S0
            have nMJ := wv_nonneg MJ; have lMJ := wv_lt MJ
            rw [wrap64_small _ (by omega) (by omega)] at hq
            refine ⟨by omega, by omega, ?_⟩
            rw [← hq, HQ.out]
            exact wi_sum (wi_self _) (wi_self _)
          have HQ3 := Lib.hid hq3
          clear hq hq3 eY2 eS0 eM1 eM2 eM3 eM4 eMJ
          generalize hw5 : (wr.drewN _).drewN _ = w5
          have B5 : Hid (Below w.heap.size w w5) := by show Below _ _ _; rw [← hw5]; exact below_drewN (below_drewN B3.out _) _
          have HW5 := Lib.hid (HW.out.kept (w' := w5) (by rw [← hw5]; rfl))
          have HV5 := Lib.hid (HV.out.kept (w' := w5) (by rw [← hw5]; rfl))
          clear hw5 hv0 hv1 hv2 hv4 hv5 hv6 hv7 hw hk1 B3 HW HV HT6 HT11 HT25 HT2 HT13 HT22 EY1 ES1 EC1 ENE EC2 ECH EY2 ES0 EM1 EM2 EM3 EM4 EMJ HP HQ
          go_wp2_with fail
          obtain ⟨w6, rfl⟩ : ∃ w6 : World, w6 = w5 := ⟨_, rfl⟩
          go_loopw [19] (fun i wq => ∃ k : Nat, k ≤ 7 ∧ i = .int .i64 k ∧ Below w.heap.size w wq ∧ RowI wq w.heap.size 0 64 3 64 (fun j => iV ((sch b 64).getD j 0)) ∧ RowI wq C off 8 3 vsz (fun j => iV (stWord V (if k < j then j - 1 else j)))) (fun i _ => (intOf i).toNat)
          case atStart => exact ⟨7, by omega, rfl, B5.out, HW5.out, HV5.out.congr (fun i hi => by rw [if_neg (by omega)])⟩
          case round =>
            obtain ⟨i, hi, rfl, hB, hW, hV⟩ := hrel
            by_cases hi0 : 0 < i
            · obtain ⟨i', rfl⟩ : ∃ i', i = i' + 1 := ⟨i - 1, by omega⟩
              have hc1 := hV.at i' (by omega)
              have hc2 := hV.at (i' + 1) (by omega)
              rw [if_neg (by omega)] at hc1 hc2
              have hf := hV.free (off + (i' + 1))
              have hput := Lib.hid (hV.put (i' + 1) (by omega) (iV (stWord V i')))
              have hset := Lib.hid (hW.set ⟨C, off + (i' + 1), none⟩ (iV (stWord V i')) (by show _ ≠ C; omega))
              have B6 : Hid (Below w.heap.size w (wr.setCell ⟨C, off + (i' + 1), none⟩ (iV (stWord V i')))) := hB.setCell (by show _ ≤ C; omega) _
              rw [show ((i' + 1 : Nat) : Int) = (i' : Int) + 1 from by omega]
              clear hB hW hV
              obtain ⟨X1, hX1⟩ : ∃ z, stWord V i' = z := ⟨_, rfl⟩
              rw [hX1] at hc1 hput hset B6
              unfold iV at hc1 hc2
              have HX1 := Lib.hid hX1; clear hX1
              generalize stWord V (i' + 1) = X2 at hc2
              go_wp2
              go_roundw
              case rel =>
                refine ⟨i', by omega, by go_num, B6.out, hset.out, hput.out.congr (fun j hj => ?_)⟩
                by_cases e1 : j = i' + 1
                · rw [if_pos e1, if_pos (by omega), e1, Nat.add_sub_cancel, HX1.out]
                · rw [if_neg e1]
                  by_cases e2 : i' + 1 < j
                  · rw [if_pos e2, if_pos (by omega)]
                  · rw [if_neg e2, if_neg (by omega)]
              case measure => simp [intOf]
            · obtain rfl : i = 0 := by omega
              have HB6 := Lib.hid hB; have HW6 := Lib.hid hW
              have hv0 := hV.at 0 (by omega)
              have hv4 := hV.at 4 (by omega)
              rw [if_neg (by omega), Nat.add_zero] at hv0
              rw [if_pos (by omega)] at hv4
              have hf0 := hV.free off
              have hf4 := hV.free (off + 4)
              obtain ⟨p0, p1, p2⟩ := HP3.out
              obtain ⟨q0, q1, q2⟩ := HQ3.out
              have hv4' : wr.cell? ⟨C, off + 4, none⟩ = some (.int .i64 (wv V.d)) := hv4
              have nd := wv_nonneg V.d; have ld := wv_lt V.d
              have s4 : (wv V.d + p) % 4294967296 = wv (V.d + rndP V kt x) := wi_sum (wi_self _) p2
              have s0 : (p + q) % 4294967296 = wv (rndP V kt x + rndQ V) := wi_sum p2 q2
              have low4 := i64_low (wv V.d + p) (by omega) (by omega)
              have low0 := i64_low (p + q) (by omega) (by omega)
              obtain ⟨Y4, hY4⟩ : ∃ z, V.d + rndP V kt x = z := ⟨_, rfl⟩
              obtain ⟨Y0, hY0⟩ : ∃ z, rndP V kt x + rndQ V = z := ⟨_, rfl⟩
              rw [hY4] at s4; rw [hY0] at s0
              have hp4 := hV.put 4 (by omega) (iV Y4)
              have hp0 := hp4.put 0 (by omega) (iV Y0)
              rw [Nat.add_zero] at hp0
              have HP0 := Lib.hid hp0; have HY4 := Lib.hid hY4; have HY0 := Lib.hid hY0
              have c0 : (wr.setCell ⟨C, off + 4, none⟩ (iV Y4)).cell? ⟨C, off, none⟩ = some (iV (stWord V 0)) := by
                have := hp4.at 0 (by omega)
                rw [if_neg (by omega), if_neg (by omega), Nat.add_zero] at this
                exact this
              have f0 := hp4.free off
              unfold iV at hv0 c0 f0
              have hset : Hid (RowI ((wr.setCell ⟨C, off + 4, none⟩ (iV Y4)).setCell ⟨C, off, none⟩ (iV Y0)) w.heap.size 0 64 3 64 (fun j => iV ((sch b 64).getD j 0))) := (hW.set _ _ (by show _ ≠ C; omega)).set _ _ (by show _ ≠ C; omega)
              have B7 : Hid (Below w.heap.size w ((wr.setCell ⟨C, off + 4, none⟩ (iV Y4)).setCell ⟨C, off, none⟩ (iV Y0))) := (hB.setCell (by show _ ≤ C; omega) _).setCell (by show _ ≤ C; omega) _
              generalize stWord V 0 = X0 at hv0 c0
              clear hv4 hp4 hp0 hY4 hY0 p2 q2 hB hW hV
              go_wp2
              go_roundw
              case rel =>
                refine ⟨t + 1, by omega, by go_num, B7.out, hset.out, HP0.out.congr (fun j hj => ?_)⟩
                rw [HR.out]
                obtain rfl | rfl | rfl | rfl | rfl | rfl | rfl | rfl : j = 0 ∨ j = 1 ∨ j = 2 ∨ j = 3 ∨ j = 4 ∨ j = 5 ∨ j = 6 ∨ j = 7 := by omega
                · rw [if_pos rfl, ← HY0.out]; rfl
                · rfl
                · rfl
                · rfl
                · rw [if_neg (by omega), if_pos rfl, ← HY4.out]; rfl
                · rfl
                · rfl
                · rfl
              case measure => simp [intOf]; omega
        · obtain rfl : t = 64 := by omega
          have HV := Lib.hid hV; have B3 := Lib.hid hB
          have hst := blockM_eq s b
          obtain ⟨V, hVV⟩ : ∃ V, rnds s b 64 = V := ⟨_, rfl⟩
          rw [hVV] at HV hst
          have HST := Lib.hid hst
          clear hst hVV hV hB hW ht hR0 B0 B1 hR1 HH1 B2 hR2 hV2 HK HB mk HM
          go_wp2_with fail
          obtain ⟨w6, rfl⟩ : ∃ w6 : World, w6 = wr := ⟨_, rfl⟩
          go_loopw [20] (fun i wq => ∃ k : Nat, k ≤ 8 ∧ i = .int .i64 k ∧ Below w.heap.size w wq ∧ RowI wq C off 8 3 vsz (fun j => iV (if j < k then stWord V j + stWord s j else stWord V j))) (fun i _ => 8 - (intOf i).toNat)
          case atStart => exact ⟨0, by omega, rfl, B3.out, HV.out.congr (fun i hi => by rw [if_neg (by omega)])⟩
          case round =>
            obtain ⟨i, hi, rfl, hB, hV⟩ := hrel
            by_cases hi8 : i < 8
            · have hc1 := hV.at i hi8
              rw [if_neg (by omega)] at hc1
              have hf := hV.free (off + i)
              have hput := hV.put i hi8 (iV (stWord V i + stWord s i))
              have hkk := HH.out
              obtain ⟨_, _, e1, -, -, e3⟩ := hkk
              cases e1
              rcases e3 with e3 | ⟨hg, hoff, rfl, e3⟩
              · cases e3
              have hc2 := e3 i _ (stI_get s i hi8)
              have hc3 := (hB.cell (World.block_lt_of_cell? w _ hc2)).trans hc2
              have B6 : Hid (Below w.heap.size w (wr.setCell ⟨C, off + i, none⟩ (iV (stWord V i + stWord s i)))) := hB.setCell (by show _ ≤ C; omega) _
              obtain ⟨X1, hX1⟩ : ∃ z, stWord V i = z := ⟨_, rfl⟩
              obtain ⟨X2, hX2⟩ : ∃ z, stWord s i = z := ⟨_, rfl⟩
              rw [hX1, hX2] at hput B6
              rw [hX1] at hc1
              rw [hX2] at hc3
              obtain ⟨Y, hY⟩ : ∃ z, X1 + X2 = z := ⟨_, rfl⟩
              rw [hY] at hput B6
              have hs : (wv X1 + wv X2) % 4294967296 = wv Y := by rw [← hY]; exact wi_sum (wi_self _) (wi_self _)
              unfold iV at hc1 hc3
              have hval : Hid (bits .and .i64 (wrap64 (wv X1 + wv X2)) 4294967295 = wv Y) := by
                show _ = _
                have n1 := wv_nonneg X1; have l1 := wv_lt X1; have n2 := wv_nonneg X2; have l2 := wv_lt X2
                rw [wrap64_small _ (by omega) (by omega), i64_low _ (by omega) (by omega), hs]
              have HP := Lib.hid hput
              have HY := Lib.hid (show stWord V i + stWord s i = Y by rw [hX1, hX2, hY])
              clear hput hY hX1 hX2 hB hV e3 hc2 hs
              go_wp2_with fail
              go_region
              go_wp2
              go_roundw
              case rel =>
                rw [hval.out]
                refine ⟨i + 1, by omega, by go_num, B6.out.drew, (HP.out.congr (fun j hj => ?_)).kept rfl⟩
                by_cases e1 : j = i
                · rw [if_pos e1, if_pos (by omega), e1, HY.out]
                · rw [if_neg e1]
                  by_cases e2 : j < i
                  · rw [if_pos e2, if_pos (by omega)]
                  · rw [if_neg e2, if_neg (by omega)]
              case measure => simp [intOf]; omega
            · obtain rfl : i = 8 := by omega
              have hD := hV.congr (E := fun j => iV (stWord (blockM s b) j)) (fun j hj => by
                rw [if_pos hj, HST.out]
                obtain rfl | rfl | rfl | rfl | rfl | rfl | rfl | rfl : j = 0 ∨ j = 1 ∨ j = 2 ∨ j = 3 ∨ j = 4 ∨ j = 5 ∨ j = 6 ∨ j = 7 := by omega
                all_goals rfl)
              have HD := Lib.hid hD; have B6 := Lib.hid hB
              clear hV hB hD
              go_wp2
              go_ret
              exact ⟨_, rfl, HD.out.own rfl (fun i hi => stI_get _ i hi) (by omega) v1 v2 v3, B6.out⟩
end Go.Proofs.YtljcdkfafknnpaaGreatDoor
namespace Go.Proofs.YtljcdkfafknnpaaGreatDoor
set_option linter.unusedVariables false
set_option linter.unusedSimpArgs false
open Go.RowKit
attribute [local go_sem ↓] run_load_agg run_store_agg

theorem SmI.below' {w wr w' : World} (h : SmI w wr) (hb : Below wr.heap.size wr w') : SmI w w' :=
  ⟨h.below.trans (hb.mono h.below.size), (hb.block _ (Array.getElem?_eq_some_iff.1 h.d0).1).trans h.d0⟩
theorem rpad_more (n j : Nat) (h : j < (119 - n % 64) % 64) : (((n + 1 + j : Nat) : Int) % 64 != 56) = true := by
  rw [bne_iff_ne]; omega
theorem rpad_done (n j : Nat) (h : j = (119 - n % 64) % 64) : (((n + 1 + j : Nat) : Int) % 64 != 56) = false := by
  rw [bne_eq_false_iff_eq]; omega
theorem putM_len (n : Nat) : putM (n * 8) 8 = (List.range 8).map (lenByte n) := by
  unfold putM lenByte
  apply List.map_congr_left
  intro j hj
  have hj : j < 8 := List.mem_range.1 hj
  have : (256 : Nat) ^ (8 - 1 - j) = 2 ^ (8 * (7 - j)) := by
    rw [Nat.pow_mul]
  rw [this]
theorem iI (x : UInt32) (n : Int) (h : wv x = n) : iV x = .int .i64 n := by unfold iV; rw [h]
theorem stI0 : stI St0 = [.int .i64 1779033703, .int .i64 3144134277, .int .i64 1013904242, .int .i64 2773480762, .int .i64 1359893119, .int .i64 2600822924, .int .i64 528734635, .int .i64 1541459225] := by
  unfold stI St0
  rw [iI _ 1779033703 (by decide), iI _ 3144134277 (by decide), iI _ 1013904242 (by decide), iI _ 2773480762 (by decide), iI _ 1359893119 (by decide), iI _ 2600822924 (by decide), iI _ 528734635 (by decide), iI _ 1541459225 (by decide)]
set_option maxHeartbeats 2000000 in
set_option maxRecDepth 100000 in
theorem rsum_any (b : List UInt8) (v : Value) (n : Nat) (w : World) (hb : rd w v n (b.map vB)) (hl : b.length = n) (hn : n ≤ 140737488353000) :
    Calls Tryz.prog 31 #[v] w fun e w' => e = .returned (.agg (dgV (shaM b))) ∧ Below w.heap.size w w' := by
  have hb' := hb
  obtain ⟨ao, cap, rfl, k1, k2, -⟩ := hb'
  unfold maxLen at k2
  have HB := Lib.hid hb; clear hb
  have HL := Lib.hid hl; clear hl
  obtain ⟨i0, hi0, hz0, hz1, hz2⟩ := info_parts info_u8
  have HS0 := Lib.hid ((SmI.start w).alloc (.cells #[] 5))
  have HR0 := Lib.hid (rd_belowB HB.out HS0.out.below (Nat.le_refl _))
  go_enter Tryz.func31, Tryz.ntmps31
  go_wp2_with (at_builtin; refine wpList_append_rd rfl (.tmp 11) (.tmp 12) 26 rfl 5 i0 (.int .u8 0) 1 1 Tryz.underlying26 hi0 hz0 hz1 hz2 rfl (by decide) (w.heap.size + 1) 0 [] (own_empty _ _ _ _ _) n (b.map vB) ?c1 HR0.out (vB_plain _) ?c2 ?c3 ?c4 ?_)
  case c1 => have := HL.out; simp [this]
  case c2 => unfold maxLen; omega
  case c3 => omega
  case c4 => simp
  intro v1 w1 ho1 _ hg1
  have HS1 := Lib.hid (SmI.grown HS0.out hg1 (fun k hk => by cases hk))
  have HO1 := Lib.hid ho1
  clear hg1 ho1
  go_wp2_with (at_builtin; refine wpList_append_rd rfl (.tmp 13) (.tmp 14) 26 rfl 5 i0 (.int .u8 0) 1 1 Tryz.underlying26 hi0 hz0 hz1 hz2 rfl (by decide) (w.heap.size + 1) n (b.map vB) (own_alloc HO1.out _) 1 [vB 128] ?d1 (rd_new1 _ _ _ _ rfl) (vB_plain [128]) ?d2 ?d3 ?d4 ?_)
  case d1 => rfl
  case d2 => unfold maxLen; omega
  case d3 => omega
  case d4 => have := HS1.out.below.size; have := (Array.getElem?_eq_some_iff.1 HS1.out.d0).1; simp; omega
  intro v2 w2 ho2 _ hg2
  have HS2 := Lib.hid (SmI.grown (HS1.out.alloc _) hg2 (fun k hk => own_rows HO1.out k hk))
  have ho2 : own w2 (w.heap.size + 1) 5 1 v2 (n + 1) ((b ++ 128 :: List.replicate 0 0).map vB) := by simpa using ho2
  have HO2 := Lib.hid ho2; clear hg2 ho2 HS1 HO1
  go_wp2_with fail
  go_loopg [3] ((119 - n % 64) % 64) (fun k t wr => ∃ j : Nat, j + k = (119 - n % 64) % 64 ∧ own wr (w.heap.size + 1) 5 1 t (n + 1 + j) ((b ++ 128 :: List.replicate j 0).map vB) ∧ SmI w wr)
  case atStart => exact ⟨0, by omega, HO2.out, HS2.out⟩
  case round =>
    obtain ⟨j, hjk, ho, hS⟩ := hrel
    have ho' := ho
    obtain ⟨-, a3, cap3, rfl, p1, p2, -⟩ := ho'
    unfold maxLen at p2
    have HO := Lib.hid ho; have HSr := Lib.hid hS; clear ho hS
    by_cases hj : j < (119 - n % 64) % 64
    · have hm := rpad_more n j hj
      obtain ⟨N, hN⟩ : ∃ N, n + 1 + j = N := ⟨_, rfl⟩
      have HO3 := HO.out
      rw [hN] at hm p1 HO3
      rw [hN]
      have hNb : N ≤ 140737488354000 := by omega
      have HN := Lib.hid hN; clear hN
      have HO4 := Lib.hid HO3; clear HO3
      go_wp2_with (at_builtin; refine wpList_append_rd rfl (.tmp 20) (.tmp 21) 26 rfl 5 i0 (.int .u8 0) 1 1 Tryz.underlying26 hi0 hz0 hz1 hz2 rfl (by decide) (w.heap.size + 1) N _ (own_alloc HO4.out _) 1 [vB 0] ?f1 (rd_new1 _ _ _ _ rfl) (vB_plain [0]) ?f2 ?f3 ?f4 ?_)
      case f1 => rfl
      case f2 => unfold maxLen; omega
      case f3 => omega
      case f4 => have := HSr.out.below.size; have := (Array.getElem?_eq_some_iff.1 HSr.out.d0).1; simp; omega
      intro v3 w3 ho3 _ hg3
      have HS3 := Lib.hid (SmI.grown (HSr.out.alloc _) hg3 (fun k hk => own_rows HO4.out k hk))
      have HO5 := Lib.hid ho3; clear ho3 hg3
      go_wp2
      go_roundg (gk - 1)
      case rel =>
        refine ⟨j + 1, by omega, ?_, HS3.out⟩
        have e := HO5.out
        have e1 := HN.out
        rw [show n + 1 + (j + 1) = N + 1 from by omega, List.replicate_succ']
        simpa using e
      case measure => omega
    · have hjz : j = (119 - n % 64) % 64 := by omega
      have hm := rpad_done n j hjz
      obtain ⟨N, hN⟩ : ∃ N, n + 1 + j = N := ⟨_, rfl⟩
      have HO3 := HO.out
      rw [hN] at hm p1 HO3
      rw [hN]
      have hNb : N ≤ 140737488354000 := by omega
      obtain ⟨T, hT⟩ : ∃ T, b ++ 128 :: List.replicate j 0 = T := ⟨_, rfl⟩
      rw [hT] at HO3
      have HTT := Lib.hid (show b ++ 128 :: List.replicate (padZ n) 0 = T by rw [← hT, hjz]; rfl)
      have HN := Lib.hid (show n + 1 + padZ n = N by rw [← hN, hjz]; rfl)
      have HO4 := Lib.hid HO3; clear HO3 hjk hT hjz hN
      have hput := put_any (n * 8) 8 wr (by omega) (by omega) (by omega)
      rw [show ((n * 8 : Nat) : Int) = (n : Int) * 8 from by omega, putM_len] at hput
      have HPUT := Lib.hid hput; clear hput
      go_wp2_with fail
      refine HPUT.out.mono ?_
      rintro e w3 ⟨lv, rfl, hol, hb3⟩
      have hor := own_rd hol
      have hor' := hor
      obtain ⟨lo, lcap, rfl, l1, l2, -⟩ := hor'
      unfold maxLen at l2
      have HS3 := Lib.hid (SmI.below' HSr.out hb3)
      have HO5 := Lib.hid (own_below hb3 HO4.out (Nat.le_refl _))
      have HLR := Lib.hid hor
      clear hol hb3 hor
      go_wp2_with (at_builtin; refine wpList_append_rd rfl (.tmp 30) (.tmp 31) 26 rfl 5 i0 (.int .u8 0) 1 1 Tryz.underlying26 hi0 hz0 hz1 hz2 rfl (by decide) (w.heap.size + 1) N _ HO5.out 8 _ ?g1 HLR.out (vB_plain _) ?g2 ?g3 ?g4 ?_)
      case g1 => simp
      case g2 => unfold maxLen; omega
      case g3 => omega
      case g4 => have := HS3.out.below.size; have := (Array.getElem?_eq_some_iff.1 HS3.out.d0).1; omega
      intro v4 w4 ho4 _ hg4
      have HS4 := Lib.hid (SmI.grown HS3.out hg4 (fun k hk => own_rows HO5.out k hk))
      have hP : T.map vB ++ ((List.range 8).map (lenByte n)).map vB = (padM b).map vB := by
        rw [← HTT.out]
        unfold padM padTail
        rw [HL.out]; simp
      have ho4 : own w4 (w.heap.size + 1) 5 1 v4 (N + 8) ((padM b).map vB) := by rw [← hP]; exact ho4
      obtain ⟨M, hM⟩ : ∃ M, N + 8 = M := ⟨_, rfl⟩
      rw [hM] at ho4
      have hML : (padM b).length = M := by have := ho4.1; rw [List.length_map] at this; omega
      have hM64 : M % 64 = 0 := by rw [← hML]; exact padM_mod b
      obtain ⟨P, hPP⟩ : ∃ P, padM b = P := ⟨_, rfl⟩
      rw [hPP] at ho4 hML
      have ho4' := ho4
      obtain ⟨-, mo, mcap, rfl, m1, m2, -⟩ := ho4'
      unfold maxLen at m2
      have hMb : M ≤ 140737488354200 := by omega
      have hwS := HS4.out.d0
      have hws : w.heap.size + 1 ≤ w4.heap.size := (Array.getElem?_eq_some_iff.1 hwS).1
      have HP := Lib.hid hPP; have HML := Lib.hid hML
      have HS5 := Lib.hid (HS4.out.alloc (.cells (stI St0).toArray 3))
      have HO6 := Lib.hid (own_alloc ho4 (.cells (stI St0).toArray 3))
      have hh0 := own_rd (own_lit (w := w4) (base := w.heap.size + 1) (e := 3) (sz := 1) (stI St0).toArray 8 hws (by decide) (by rfl))
      have HH0 := Lib.hid hh0
      clear hg4 ho4 hP hM hPP hML hwS hh0 HS3 HO5 HLR HS0 HR0 HS2 HO2 HO HSr HO4 HTT HN hm
      rw [stI0] at HS5 HO6 HH0
      go_wp2_with fail
      refine (rounds_any _).mono ?_
      rintro e w5 ⟨rfl, rfl⟩
      change Hid (SmI w (w4.alloc (.cells #[.int .i64 1779033703, .int .i64 3144134277, .int .i64 1013904242, .int .i64 2773480762, .int .i64 1359893119, .int .i64 2600822924, .int .i64 528734635, .int .i64 1541459225] 3))) at HS5
      change Hid (own (w4.alloc (.cells #[.int .i64 1779033703, .int .i64 3144134277, .int .i64 1013904242, .int .i64 2773480762, .int .i64 1359893119, .int .i64 2600822924, .int .i64 528734635, .int .i64 1541459225] 3)) _ _ _ _ _ _) at HO6
      have HH1 : Hid (rd (w4.alloc (.cells #[.int .i64 1779033703, .int .i64 3144134277, .int .i64 1013904242, .int .i64 2773480762, .int .i64 1359893119, .int .i64 2600822924, .int .i64 528734635, .int .i64 1541459225] 3)) (.slice (some ⟨w4.heap.size, 0, none⟩) 8 8) 8 (stI St0)) := by
        have e := HH0.out
        rw [stI0]
        exact e
      clear HH0
      generalize w4.alloc (.cells #[.int .i64 1779033703, .int .i64 3144134277, .int .i64 1013904242, .int .i64 2773480762, .int .i64 1359893119, .int .i64 2600822924, .int .i64 528734635, .int .i64 1541459225] 3) = w5 at HS5 HO6 HH1 ⊢
      have HS6 := Lib.hid (HS5.out.alloc (.cells kI 3))
      have HO7 := Lib.hid (own_alloc HO6.out (.cells kI 3))
      have HH2 := Lib.hid (rd_alloc HH1.out (.cells kI 3))
      have HK := Lib.hid (rd_block (heap_alloc_new w5 (.cells kI 3)) 64 kI_size (by decide))
      generalize w5.heap.size = kg at HK ⊢
      generalize w5.alloc (.cells kI 3) = w6 at HS6 HO7 HH2 HK ⊢
      clear HS5 HO6 HH1
      go_wp2_with fail
      go_loopw [6, 8] (fun hv at_ wr => ∃ i : Nat, 64 * i ≤ M ∧ at_ = .int .i64 ((64 * i : Nat) : Int) ∧ rd wr hv 8 (stI (blocksM St0 P i)) ∧ SmI w wr ∧ rd wr (.slice (some ⟨kg, 0, none⟩) 64 64) 64 kI.toList ∧ own wr (w.heap.size + 1) 5 1 (.slice mo M mcap) M (P.map vB)) (fun _ at_ _ => M - (intOf at_).toNat)
      case atStart => exact ⟨0, by omega, rfl, by rw [blocksM_zero]; exact HH2.out, HS6.out, HK.out, HO7.out⟩
      case round =>
        obtain ⟨i, hiM, rfl, hh, hS, hk, ho⟩ := hrel
        obtain ⟨A, hA⟩ : ∃ A, 64 * i = A := ⟨_, rfl⟩
        rw [hA] at hiM ⊢
        have hh' := hh
        obtain ⟨ho_, hcap, rfl, h1, h2, -⟩ := hh'
        unfold maxLen at h2
        by_cases hlt : A < M
        · have hAM : A + 64 ≤ M := by omega
          have hmid := rd_mid (own_rd ho) (by rw [List.length_map]; exact HML.out) A (A + 64) (by omega) (by omega)
          rw [if_neg (by omega), show A + 64 - A = 64 from by omega, Nat.mul_one, ← List.map_drop, ← List.map_take] at hmid
          have HMID := Lib.hid hmid; have HH3 := Lib.hid hh; have HS7 := Lib.hid hS; have HK3 := Lib.hid hk; have HO8 := Lib.hid ho; have HA := Lib.hid hA
          clear hmid hh hS hk ho hA
          go_wp2_with fail
          refine (rblock_any (blocksM St0 P i) ((P.drop A).take 64) _ _ _ wr HH3.out HK3.out HMID.out (by have := HML.out; simp; omega)).mono ?_
          rintro e w7 ⟨hv7, rfl, ho7, hb7⟩
          have hst : blockM (blocksM St0 P i) ((P.drop A).take 64) = blocksM St0 P (i + 1) := by
            rw [blocksM_succ, HA.out]
            apply blockM_congr
            intro j hj
            rw [List.getD_eq_getElem?_getD, List.getD_eq_getElem?_getD, List.getElem?_take, if_pos hj]
          rw [hst] at ho7
          have HS9 := Lib.hid (SmI.below' HS7.out hb7)
          have HK9 := Lib.hid (rd_below HK3.out hb7)
          have HO9 := Lib.hid (own_below hb7 HO8.out (Nat.le_refl _))
          have HH9 := Lib.hid (own_rd ho7)
          clear ho7 hb7 hst
          go_wp2
          go_roundw
          case rel => exact ⟨i + 1, by have := HA.out; omega, by rw [← HA.out]; go_num, HH9.out, HS9.out, HK9.out, HO9.out⟩
          case measure => simp [intOf]; omega
        · have hi : i = M / 64 := by omega
          have hF : shaM b = digestM (blocksM St0 P i) := by rw [shaM_eq, HP.out, HML.out, hi]
          obtain ⟨F, hFF⟩ : ∃ F, blocksM St0 P i = F := ⟨_, rfl⟩
          rw [hFF] at hF hh
          have HF := Lib.hid hF; have HH3 := Lib.hid hh; have HS7 := Lib.hid hS
          have hz := (Array.getElem?_eq_some_iff.1 hS.d0).1
          have HS8 := Lib.hid (hS.alloc (.cells zD 23))
          have HD8 := Lib.hid (heap_alloc_new wr (.cells zD 23))
          have HH4 := Lib.hid (rd_alloc hh (.cells zD 23))
          clear hh hS hk ho hA hF hFF hi
          go_wp2_with fail
          obtain ⟨D, hD⟩ : ∃ D, wr.heap.size = D := ⟨_, rfl⟩
          change Code.wp _ _ _ _ (wr.alloc (.cells zD 23))
          rw [hD] at hz HD8 ⊢
          generalize wr.alloc (.cells zD 23) = w8 at HS8 HD8 HH4 ⊢
          clear hD HS7 HH3
          go_loopw [10] (fun i wq => ∃ k : Nat, k ≤ 32 ∧ i = .int .i64 k ∧ Below w.heap.size w wq ∧ wq.heap[w.heap.size]? = some (.cells zD 23 (0, 0)) ∧ rd wq (.slice ho_ 8 hcap) 8 (stI F) ∧ wq.heap[D]? = some (.cells (dgV (dgP F k)) 23 (0, 0))) (fun i _ => 32 - (intOf i).toNat)
          case atStart => exact ⟨0, by omega, rfl, HS8.out.below, HS8.out.d0, HH4.out, by rw [dgP_zero]; exact HD8.out⟩
          case round =>
            obtain ⟨k, hk32, rfl, hB, h0, hh, hD⟩ := hrel
            by_cases hk : k < 32
            · obtain ⟨a, c, hkac, hc4⟩ : ∃ a c, k = 4 * a + c ∧ c < 4 := ⟨k / 4, k % 4, by omega, by omega⟩
              have hby := byte_val F a c (by omega) hc4
              obtain ⟨_, _, e1, -, -, e3⟩ := hh
              cases e1
              rcases e3 with e3 | ⟨hg, hoff, rfl, e3⟩
              · cases e3
              have hcx := e3 a _ (stI_get F a (by omega))
              obtain ⟨x, hx⟩ : ∃ x, stWord F a = x := ⟨_, rfl⟩
              rw [hx] at hcx hby
              unfold iV at hcx
              have hcl : wr.cell? ⟨D, k, none⟩ = some (.int .u8 (bv ((dgP F k).getD k 0))) := by
                rw [cell_of_row _ _ _ _ _ _ hD, dgV_get _ _ (by rw [dgP_length]; omega)]
              generalize (dgP F k).getD k 0 = z at hcl
              have hfr : wr.frozen? ⟨D, k, none⟩ = false := frozen_of_row _ _ _ _ _ hD
              have HBY := Lib.hid hby
              have qa : (k : Int) / 4 = (a : Int) := by omega
              have qb : (k : Int).tdiv 4 = (a : Int) := by rw [Int.tdiv_eq_ediv_of_nonneg (by omega)]; exact qa
              have qc : (k : Int) % 4 = (c : Int) := by omega
              have qd : (k : Int).tmod 4 = (c : Int) := by rw [Int.tmod_eq_emod_of_nonneg (by omega)]; exact qc
              have ha8 : a < 8 := by omega
              have B5 : Hid (Below w.heap.size w (wr.setCell ⟨D, k, none⟩ (.int .u8 (bv (stByte F k))))) := hB.setCell (by show _ ≤ D; omega) _
              have h5 : Hid ((wr.setCell ⟨D, k, none⟩ (.int .u8 (bv (stByte F k)))).heap[w.heap.size]? = some (.cells zD 23 (0, 0))) := by show _ = _; rw [Below.heap_setCell _ _ _ _ (by show _ ≠ D; omega)]; exact h0
              have H5 : Hid (rd (wr.setCell ⟨D, k, none⟩ (.int .u8 (bv (stByte F k)))) (.slice (some ⟨hg, hoff, none⟩) 8 hcap) 8 (stI F)) := by
                refine rd_setCell_ne ⟨_, _, rfl, by omega, by unfold maxLen; omega, .inr ⟨hg, hoff, rfl, e3⟩⟩ _ hcl (fun u hu e => ?_)
                simp only [stI, List.mem_cons, List.not_mem_nil, or_false] at hu
                rcases hu with rfl | rfl | rfl | rfl | rfl | rfl | rfl | rfl <;> cases e
              have HD5 : Hid ((wr.setCell ⟨D, k, none⟩ (.int .u8 (bv (stByte F k)))).heap[D]? = some (.cells (dgV (dgP F (k + 1))) 23 (0, 0))) := by show _ = _; rw [heap_setCell_same _ _ _ _ _ _ hD, dgP_set]
              clear hby hB h0 hD e3 hx
              obtain rfl | rfl | rfl | rfl : c = 0 ∨ c = 1 ∨ c = 2 ∨ c = 3 := by omega
              · have he : wv x / 16777216 % 256 = bv (stByte F k) := by have := HBY.out; rw [hkac]; simpa using this
                have HE := Lib.hid he; clear he hkac
                go_wp2
                go_roundw
                case rel => exact ⟨k + 1, by omega, by go_num, by rw [HE.out]; exact ⟨B5.out, h5.out, H5.out, HD5.out⟩⟩
                case measure => simp [intOf]; omega
              · have he : wv x / 65536 % 256 = bv (stByte F k) := by have := HBY.out; rw [hkac]; simpa using this
                have HE := Lib.hid he; clear he hkac
                go_wp2
                go_roundw
                case rel => exact ⟨k + 1, by omega, by go_num, by rw [HE.out]; exact ⟨B5.out, h5.out, H5.out, HD5.out⟩⟩
                case measure => simp [intOf]; omega
              · have he : wv x / 256 % 256 = bv (stByte F k) := by have := HBY.out; rw [hkac]; simpa using this
                have HE := Lib.hid he; clear he hkac
                go_wp2
                go_roundw
                case rel => exact ⟨k + 1, by omega, by go_num, by rw [HE.out]; exact ⟨B5.out, h5.out, H5.out, HD5.out⟩⟩
                case measure => simp [intOf]; omega
              · have he : wv x % 256 = bv (stByte F k) := by have := HBY.out; rw [hkac]; simpa using this
                have HE := Lib.hid he; clear he hkac
                go_wp2
                go_roundw
                case rel => exact ⟨k + 1, by omega, by go_num, by rw [HE.out]; exact ⟨B5.out, h5.out, H5.out, HD5.out⟩⟩
                case measure => simp [intOf]; omega
            · obtain rfl : k = 32 := by omega
              have hrw : rowAt wr D 0 32 = some (dgV (dgP F 32)) := rowAt_whole hD 32 (by rw [dgV_size, dgP_length])
              have e1 := HF.out
              rw [dgP_done, ← e1] at hrw
              have m1 : (rowAt wr w.heap.size 0 32).isSome = true := by rw [rowAt_whole h0 32 rfl]; rfl
              have m2 : wrAt wr w.heap.size = true := wrAt_of_heap h0
              have m3 : plainCells (dgV (shaM b)) = true := dgV_plain _
              have m4 : (dgV (shaM b)).size = 32 := by rw [dgV_size, shaM_length]
              have H0 := Lib.hid h0; have B5 := Lib.hid hB
              clear h0 hB hD hh e1 hk32
              go_wp2
              refine bodyPost_ret (v := .agg (dgV (shaM b))) (results_cell_at rfl _ _ w.heap.size 0 _ rfl agg_digest ?_) rfl ⟨rfl, ?_⟩
              · rw [cells_digest]; exact rowAt_put_same H0.out (dgV (shaM b)) (by rw [m4]; rfl) 32 m4.symm
              · exact putAt_below B5.out (Nat.le_refl _) _ _
end Go.Proofs.YtljcdkfafknnpaaGreatDoor
namespace Go.Proofs.YtljcdkfafknnpaaGreatDoor
set_option linter.unusedVariables false
set_option linter.unusedSimpArgs false
open Go.RowKit
/-- In the walk: a row of bytes is appended to one of the call's own. -/
theorem wpList_bytes {ops : Array Oper} {rest : List Oper} {o : Oper} {a : Act} {w : World} {Q : Exit → Act → World → Prop} (hgd : o.guard = none) (s x : Operand)
    (ho : o.op = .call { callee := .builtin .append, args := #[s, x], argTypes := #[26, 26] }) (base : Nat) (b c : List UInt8)
    (hown : own w base 5 1 (a.eval s) b.length (b.map vB)) (hx : rd w (a.eval x) c.length (c.map vB)) (hlen : b.length + c.length ≤ 140737488355328) (hbase : base ≤ w.heap.size)
    (h : ∀ v' w', own w' base 5 1 v' (b ++ c).length ((b ++ c).map vB) → w.grownBy w' (wrow (a.eval s)) → wpList Tryz.prog ops Q rest (a.put o.dst v') w') : wpList Tryz.prog ops Q (o :: rest) a w := by
  obtain ⟨i0, hi0, hz0, hz1, hz2⟩ := info_parts info_u8
  refine wpList_plain hgd fun K hK => ?_
  obtain ⟨v', w', hrun, r1, r2, r3, r4⟩ := run_append_row (P := Tryz.prog) w base 26 o.type 5 i0 (.int .u8 0) 1 1 Tryz.underlying26 hi0 hz0 hz1 hz2 rfl (by decide) (a.eval s) b.length _ hown (a.eval x) c.length (c.map vB) (by simp) hx (vB_plain _) (by unfold maxLen; omega) (by omega) hbase
  unfold Oper.wp
  simp [execOp, ho, resolve, invoke, builtin, hrun, Result.andThen]
  exact hK _ _ (h v' w' (by rw [List.length_append, List.map_append]; exact r1) r3)
theorem szM_big {n : Nat} (h1 : ¬ n < 253) : ∃ s hd, szM n = hd :: putM n s ∧ ((s = 2 ∧ hd = 253 ∧ n < 65536) ∨ (s = 4 ∧ hd = 254 ∧ 65536 ≤ n ∧ n < 4294967296) ∨ (s = 8 ∧ hd = 255 ∧ 4294967296 ≤ n)) := by
  refine ⟨szW n, szH n, by unfold szM; rw [if_neg h1], ?_⟩
  unfold szW szH
  rw [if_neg h1]
  by_cases h2 : n < 65536
  · rw [if_pos h2, if_pos h2]; exact .inl ⟨rfl, rfl, h2⟩
  · rw [if_neg h2, if_neg h2]
    by_cases h3 : n < 4294967296
    · rw [if_pos h3, if_pos h3]; exact .inr (.inl ⟨rfl, rfl, by omega, h3⟩)
    · rw [if_neg h3, if_neg h3]; exact .inr (.inr ⟨rfl, rfl, by omega⟩)
set_option maxHeartbeats 4000000 in
set_option maxRecDepth 100000 in
theorem rsize_any (n : Nat) (hn : n < 4611686018427387904) (w : World) :
    Calls Tryz.prog 30 #[.int .i64 n] w fun e w' => ∃ v, e = .returned v ∧ own w' w.heap.size 5 1 v (szM n).length ((szM n).map vB) ∧ Below w.heap.size w w' := by
  by_cases h1 : n < 253
  · have hm : szM n = [UInt8.ofNat n] := by unfold szM; rw [if_pos h1]
    have hb := put_byte n
    have HB := Lib.hid hb; have HM := Lib.hid hm; clear hm hb
    have HO := Lib.hid (own_lit (w := w) (base := w.heap.size) (e := 5) (sz := 1) #[.int .u8 (n : Int)] 1 (Nat.le_refl _) (by decide) rfl)
    have hv : Value.int .u8 (n : Int) = vB (UInt8.ofNat n) := by unfold vB; rw [← HB.out]; congr 1; omega
    have HV := Lib.hid hv; clear hv
    go_enter Tryz.func30, Tryz.ntmps30
    go_wp2
    go_ret
    refine ⟨_, rfl, ?_, (Below.refl _ _).alloc (Nat.le_refl _) _⟩
    have e := HO.out
    rw [HM.out, List.map_singleton, ← HV.out]
    exact e
  obtain ⟨s, hd, hm, hs8⟩ := szM_big h1
  have HM := Lib.hid hm
  have HP := Lib.hid (fun W => put_any n s W (by omega) (by omega) (by omega))
  clear hm
  rcases hs8 with ⟨rfl, rfl, h2⟩ | ⟨rfl, rfl, h2, h3⟩ | ⟨rfl, rfl, h2⟩
  · go_enter Tryz.func30, Tryz.ntmps30
    go_wp2_with fail
    refine (HP.out w).mono ?_
    rintro e w1 ⟨v, rfl, ho, hb⟩
    have B1 := Lib.hid hb
    have HL : Hid (own (w1.alloc (.cells #[vB 253] 5)) w.heap.size 5 1 (.slice (some ⟨w1.heap.size, 0, none⟩) 1 1) [(253 : UInt8)].length ([(253 : UInt8)].map vB)) := Lib.hid (own_base (own_lit (w := w1) (base := w1.heap.size) (e := 5) (sz := 1) #[vB 253] 1 (Nat.le_refl _) (by decide) rfl) hb.size)
    have HV := Lib.hid (rd_below (own_rd ho) ((Below.refl w1.heap.size w1).alloc (Nat.le_refl _) (.cells #[vB 253] 5)))
    have B2 := Lib.hid (B1.out.alloc B1.out.size (.cells #[vB 253] 5))
    clear ho hb HP
    go_wp2_with (at_builtin; refine wpList_bytes rfl (.tmp 23) (.tmp 24) rfl w.heap.size [(253 : UInt8)] (putM n 2) HL.out (by rw [putM_length]; exact HV.out) (by simp [putM_length]) B2.out.size ?_)
    intro v3 w3 ho3 hg3
    have B3 := Lib.hid (B2.out.grown hg3 B2.out.size (fun q hq => (own_lt HL.out hq).1))
    have HO3 : Hid (own w3 w.heap.size 5 1 v3 (szM n).length ((szM n).map vB)) := Lib.hid (by rw [HM.out]; exact ho3)
    clear ho3 hg3
    go_wp2
    go_ret
    exact ⟨_, rfl, HO3.out, B3.out⟩
  · go_enter Tryz.func30, Tryz.ntmps30
    go_wp2_with fail
    refine (HP.out w).mono ?_
    rintro e w1 ⟨v, rfl, ho, hb⟩
    have B1 := Lib.hid hb
    have HL : Hid (own (w1.alloc (.cells #[vB 254] 5)) w.heap.size 5 1 (.slice (some ⟨w1.heap.size, 0, none⟩) 1 1) [(254 : UInt8)].length ([(254 : UInt8)].map vB)) := Lib.hid (own_base (own_lit (w := w1) (base := w1.heap.size) (e := 5) (sz := 1) #[vB 254] 1 (Nat.le_refl _) (by decide) rfl) hb.size)
    have HV := Lib.hid (rd_below (own_rd ho) ((Below.refl w1.heap.size w1).alloc (Nat.le_refl _) (.cells #[vB 254] 5)))
    have B2 := Lib.hid (B1.out.alloc B1.out.size (.cells #[vB 254] 5))
    clear ho hb HP
    go_wp2_with (at_builtin; refine wpList_bytes rfl (.tmp 23) (.tmp 24) rfl w.heap.size [(254 : UInt8)] (putM n 4) HL.out (by rw [putM_length]; exact HV.out) (by simp [putM_length]) B2.out.size ?_)
    intro v3 w3 ho3 hg3
    have B3 := Lib.hid (B2.out.grown hg3 B2.out.size (fun q hq => (own_lt HL.out hq).1))
    have HO3 : Hid (own w3 w.heap.size 5 1 v3 (szM n).length ((szM n).map vB)) := Lib.hid (by rw [HM.out]; exact ho3)
    clear ho3 hg3
    go_wp2
    go_ret
    exact ⟨_, rfl, HO3.out, B3.out⟩
  · go_enter Tryz.func30, Tryz.ntmps30
    go_wp2_with fail
    refine (HP.out w).mono ?_
    rintro e w1 ⟨v, rfl, ho, hb⟩
    have B1 := Lib.hid hb
    have HL : Hid (own (w1.alloc (.cells #[vB 255] 5)) w.heap.size 5 1 (.slice (some ⟨w1.heap.size, 0, none⟩) 1 1) [(255 : UInt8)].length ([(255 : UInt8)].map vB)) := Lib.hid (own_base (own_lit (w := w1) (base := w1.heap.size) (e := 5) (sz := 1) #[vB 255] 1 (Nat.le_refl _) (by decide) rfl) hb.size)
    have HV := Lib.hid (rd_below (own_rd ho) ((Below.refl w1.heap.size w1).alloc (Nat.le_refl _) (.cells #[vB 255] 5)))
    have B2 := Lib.hid (B1.out.alloc B1.out.size (.cells #[vB 255] 5))
    clear ho hb HP
    go_wp2_with (at_builtin; refine wpList_bytes rfl (.tmp 23) (.tmp 24) rfl w.heap.size [(255 : UInt8)] (putM n 8) HL.out (by rw [putM_length]; exact HV.out) (by simp [putM_length]) B2.out.size ?_)
    intro v3 w3 ho3 hg3
    have B3 := Lib.hid (B2.out.grown hg3 B2.out.size (fun q hq => (own_lt HL.out hq).1))
    have HO3 : Hid (own w3 w.heap.size 5 1 v3 (szM n).length ((szM n).map vB)) := Lib.hid (by rw [HM.out]; exact ho3)
    clear ho3 hg3
    go_wp2
    go_ret
    exact ⟨_, rfl, HO3.out, B3.out⟩
set_option maxHeartbeats 4000000 in
set_option maxRecDepth 100000 in
theorem rpacked_any (b : List UInt8) (v : Value) (w : World) (h : rd w v b.length (b.map vB)) (hn : b.length ≤ 1000000000) :
    Calls Tryz.prog 117 #[v] w fun e w' => ∃ v', e = .returned v' ∧ own w' w.heap.size 5 1 v' (packM b).length ((packM b).map vB) ∧ Below w.heap.size w w' := by
  have h' := h
  obtain ⟨ao, cap, rfl, k1, k2, -⟩ := h'
  unfold maxLen at k2
  have HB := Lib.hid h; clear h
  have hle := szM_le b.length
  have HE : Hid (packM b = szM b.length ++ b) := Lib.hid rfl
  go_enter Tryz.func117, Tryz.ntmps117
  go_wp2_with fail
  refine (rsize_any b.length (by omega) w).mono ?_
  rintro e w1 ⟨v, rfl, ho, hb⟩
  have HO := Lib.hid ho; have B1 := Lib.hid hb; have HR := Lib.hid (rd_below HB.out hb)
  clear ho hb
  go_wp2_with (at_builtin; refine wpList_bytes rfl (.tmp 5) (.tmp 6) rfl w.heap.size (szM b.length) b HO.out HR.out (by omega) B1.out.size ?_)
  intro v3 w3 ho3 hg3
  have B3 := Lib.hid (B1.out.grown hg3 B1.out.size (fun q hq => (own_lt HO.out hq).1))
  have HO3 := Lib.hid ho3
  clear ho3 hg3
  go_wp2
  go_ret
  exact ⟨_, rfl, by rw [HE.out, List.length_append, List.map_append]; exact HO3.out, B3.out⟩
end Go.Proofs.YtljcdkfafknnpaaGreatDoor
namespace Go.Proofs.YtljcdkfafknnpaaGreatDoor
set_option linter.unusedVariables false
set_option linter.unusedSimpArgs false
open Go.RowKit
attribute [local go_sem ↓] run_load_agg run_store_agg run_load_any

def packsM (ks : List (List UInt8)) : List UInt8 := (ks.map packM).flatten
def keysM (x : InD) : List UInt8 := szM x.keys.length ++ packsM x.keys
def inK (b : Bool) (x : InD) : List UInt8 := x.tx ++ szM x.ix.toNat ++ (if b = true then keysM x else [0])
def insK (b : Bool) (xs : List InD) : List UInt8 := (xs.map (inK b)).flatten
def txM (b : Bool) (t : TxD) : List UInt8 := szM t.ins.length ++ insK b t.ins ++ szM t.outs.length ++ outsM t.outs ++ szM t.time.toNat
theorem szM_zero : szM 0 = [0] := by rfl
theorem txM_bare (t : TxD) : txM false t = bareM t := by
  have : insK false t.ins = insB t.ins := by
    unfold insK insB
    congr 1
  unfold txM bareM
  rw [this]
/-- What the keys of a payment without a fault have. -/
def KeysOk (t : TxD) : Prop := ∀ x ∈ t.ins, x.keys.length ≤ 30 ∧ ∀ k ∈ x.keys, k.length ≤ 3000
theorem insF_keys : ∀ (xs : List InD) (met : List PlaceD), insF met xs = 0 → ∀ x ∈ xs, x.keys.length ≤ 30 ∧ ∀ k ∈ x.keys, k.length ≤ 3000
  | [], _, _, x, hx => by cases hx
  | a :: xs, met, h, x, hx => by
    unfold insF at h
    split at h
    · rename_i ha
      rcases List.mem_cons.1 hx with rfl | hx
      · unfold inF at ha
        split at ha
        · cases ha
        · split at ha
          · cases ha
          · split at ha
            · cases ha
            · split at ha
              · cases ha
              · rename_i h1 h2
                refine ⟨by omega, fun k hk => ?_⟩
                rw [List.any_eq_true] at h2
                rcases Nat.lt_or_ge 3000 k.length with h | h
                · exact absurd ⟨k, hk, by simpa using h⟩ h2
                · exact h
      · exact insF_keys xs _ h x hx
    · rename_i ha; exact absurd h ha
theorem keysOk_of {t : TxD} (h : txF t = 0) : KeysOk t := by
  unfold txF at h
  split at h
  · cases h
  · split at h
    · cases h
    · split at h
      · cases h
      · split at h
        · rename_i h4; exact insF_keys t.ins [] h4
        · rename_i h1; exact absurd h h1
theorem packsM_le {ks : List (List UInt8)} (h : ∀ k ∈ ks, k.length ≤ 3000) : (packsM ks).length ≤ 3009 * ks.length := flat_le packM 3009 ks (fun k hk => packM_le (h k hk))
theorem inK_le {b : Bool} {x : InD} (h : x.tx.length = 32) (hk : x.keys.length ≤ 30 ∧ ∀ k ∈ x.keys, k.length ≤ 3000) : (inK b x).length ≤ 90400 := by
  have h1 := szM_le x.ix.toNat; have h2 := szM_le x.keys.length; have h3 := packsM_le hk.2; have h4 := hk.1
  unfold inK
  cases b
  · simp only [List.length_append, Bool.false_eq_true, if_false, List.length_cons, List.length_nil]; omega
  · simp only [List.length_append, if_true, keysM]; omega
theorem insK_le {b : Bool} {xs : List InD} (h : ∀ x ∈ xs, x.tx.length = 32) (hk : ∀ x ∈ xs, x.keys.length ≤ 30 ∧ ∀ k ∈ x.keys, k.length ≤ 3000) : (insK b xs).length ≤ 90400 * xs.length := flat_le (inK b) 90400 xs (fun x hx => inK_le (h x hx) (hk x hx))
theorem insK_take (b : Bool) (xs : List InD) (j : Nat) (hj : j < xs.length) : insK b (xs.take (j + 1)) = insK b (xs.take j) ++ inK b xs[j] := by
  unfold insK; rw [List.take_succ_eq_append_getElem hj, List.map_append, List.flatten_append]; simp only [List.map_cons, List.map_nil, List.flatten_cons, List.flatten_nil, List.append_nil]
theorem packsM_take (xs : List (List UInt8)) (j : Nat) (hj : j < xs.length) : packsM (xs.take (j + 1)) = packsM (xs.take j) ++ packM xs[j] := by
  unfold packsM; rw [List.take_succ_eq_append_getElem hj, List.map_append, List.flatten_append]; simp only [List.map_cons, List.map_nil, List.flatten_cons, List.flatten_nil, List.append_nil]
/-- The row that grows, and the boxes beside it. -/
structure Grow (w : World) (bs : List BoxD) (v : Value) (b : List UInt8) (w' : World) : Prop where
  kept : Kept w bs w'
  own_ : own w' w.heap.size 5 1 v b.length (b.map vB)
theorem Grow.on {w w1 w2 : World} {bs : List BoxD} {v : Value} {b : List UInt8} (h : Grow w bs v b w1) (hb : Below w1.heap.size w1 w2) : Grow w bs v b w2 := ⟨h.kept.on hb, own_below hb h.own_ (Nat.le_refl _)⟩
theorem Grow.alloc {w w1 : World} {bs : List BoxD} {v : Value} {b : List UInt8} (h : Grow w bs v b w1) (cs : Array Value) (t : TypeId) : Grow w ((w1.heap.size, cs, t) :: bs) v b (w1.alloc (.cells cs t)) := ⟨h.kept.alloc cs t, own_alloc h.own_ _⟩
theorem Grow.app {w w1 w2 : World} {bs : List BoxD} {v v' : Value} {b c : List UInt8} (h : Grow w bs v b w1) (ht : bs.all (fun x => decide (x.2.2 ≠ 5)) = true) (hg : w1.grownBy w2 (wrow v)) (ho : own w2 w.heap.size 5 1 v' (b ++ c).length ((b ++ c).map vB)) : Grow w bs v' (b ++ c) w2 :=
  ⟨⟨h.kept.below.grown hg h.kept.below.size (fun q hq => (own_lt h.own_ hq).1), fun x hx => (hg.block x.1 (Array.getElem?_eq_some_iff.1 (h.kept.at_ x hx)).1 (fun e => by
    have h1 := List.all_eq_true.1 ht x hx
    exact own_ne h.own_ (h.kept.at_ x hx) (by simp at h1; exact fun e => h1 e.symm) e.symm)).trans (h.kept.at_ x hx)⟩, ho⟩
theorem Grow.tail {w w1 : World} {x : BoxD} {bs : List BoxD} {v : Value} {b : List UInt8} (h : Grow w (x :: bs) v b w1) : Grow w bs v b w1 := ⟨⟨h.kept.below, fun y hy => h.kept.at_ y (List.mem_cons_of_mem _ hy)⟩, h.own_⟩
/-- In the walk: bytes are appended to the row that grows. -/
theorem wpList_grow {ops : Array Oper} {rest : List Oper} {o : Oper} {a : Act} {w0 w : World} {Q : Exit → Act → World → Prop} {bs : List BoxD} {v : Value} {b : List UInt8} (hgd : o.guard = none) (s x : Operand)
    (ho : o.op = .call { callee := .builtin .append, args := #[s, x], argTypes := #[26, 26] }) (c : List UInt8) (hG : Grow w0 bs v b w) (hs : a.eval s = v)
    (ht : bs.all (fun x => decide (x.2.2 ≠ 5)) = true) (hx : rd w (a.eval x) c.length (c.map vB)) (hlen : b.length + c.length ≤ 140737488355328)
    (h : ∀ v' w', Hid (Grow w0 bs v' (b ++ c) w') → wpList Tryz.prog ops Q rest (a.put o.dst v') w') : wpList Tryz.prog ops Q (o :: rest) a w := by
  refine wpList_bytes hgd s x ho w0.heap.size b c (by rw [hs]; exact hG.own_) hx hlen hG.kept.below.size fun v' w' ho' hg' => h v' w' (Lib.hid (hG.app ht (by rw [hs] at hg'; exact hg') ho'))
theorem rd_box (w : World) (D : Nat) (d : List UInt8) (t : TypeId) (fr : Nat × Nat) (h : w.heap[D]? = some (.cells (dgV d) t fr)) (hd : d.length = 32) : rd w (.slice (some ⟨D, 0, none⟩) 32 32) d.length (d.map vB) :=
  rd_head h d hd fun j hj => by simp [dgV]
set_option maxHeartbeats 8000000 in
set_option maxRecDepth 100000 in
theorem txBytes_any (t : TxD) (ai ao : Option Addr) (ci co : Nat) (bk : Bool) (w : World) (hi : rdSl inR 34 w (.slice ai t.ins.length ci) t.ins) (ho : rdSl outR 2 w (.slice ao t.outs.length co) t.outs) (hok : TxOk t) (hk : KeysOk t) :
    Calls Tryz.prog 80 #[.agg #[.slice ai t.ins.length ci, .slice ao t.outs.length co, .int .i64 t.time], .bool bk] w fun e w' => ∃ v, e = .returned v ∧ own w' w.heap.size 5 1 v (txM bk t).length ((txM bk t).map vB) ∧ Below w.heap.size w w' := by
  obtain ⟨n1, n2, n3⟩ := new_tx w ai ao t.ins.length t.outs.length ci co t.time
  have k0 := (Kept.refl w).alloc (txV t ai ao ci co) 59
  obtain ⟨_, _, e, i1, i2⟩ := sl_bounds hi
  cases e
  obtain ⟨_, _, e, o1, o2⟩ := sl_bounds ho
  cases e
  unfold maxLen at i2 o2
  unfold zTx at n1 n2
  have hli := hok.ins; have hlo := hok.outs
  have HI := Lib.hid hi; have HO := Lib.hid ho; have HK := Lib.hid hk; have HOK := Lib.hid hok
  have K0 := Lib.hid k0
  clear hi ho hk hok k0
  go_enter Tryz.func80, Tryz.ntmps80
  go_upto_region 1 with fail
  clear n1 n2 n3
  change Code.wp _ _ _ _ (w.alloc (.cells (txV t ai ao ci co) 59))
  obtain ⟨G, hG⟩ : ∃ G, w.heap.size = G := ⟨_, rfl⟩
  have K0' : Hid (∃ w0, w.alloc (.cells (txV t ai ao ci co) 59) = w0 ∧ w.heap.size ≤ w0.heap.size ∧ Kept w [(G, txV t ai ao ci co, 59)] w0) := Lib.hid ⟨_, rfl, by simp, by rw [← hG]; exact K0.out⟩
  rw [hG] at ⊢
  clear hG K0
  obtain ⟨w0, hw0, hsz0, k0⟩ := K0'.out
  rw [hw0]
  have K0 := Lib.hid k0
  have S0 := Lib.hid k0.self
  clear hw0 k0 K0'
  have HI0 := Lib.hid (inR_stays.slB HI.out K0.out.below (Nat.le_refl _))
  have HO0 := Lib.hid (outR_stays.slB HO.out K0.out.below (Nat.le_refl _))
  have c0 : w0.cell? ⟨G, 0, none⟩ = some (.slice ai t.ins.length ci) := K0.out.cell 0 0 _ _ rfl rfl
  clear HI HO
  go_wp2_with fail
  refine (rsize_any t.ins.length (by omega) w0).mono ?_
  rintro e w1 ⟨v0, rfl, ho, hb⟩
  have GR1 : Hid (Grow w0 [(G, txV t ai ao ci co, 59)] v0 (szM t.ins.length ++ insK bk (t.ins.take 0)) w1) := Lib.hid ⟨S0.out.on hb, by simpa [insK] using ho⟩
  clear ho hb c0
  go_wp2_with fail
  go_loopw [5, 6] (fun s c wr => ∃ (j : Nat) (b : Value), j ≤ t.ins.length ∧ b = s ∧ c = .int .i64 j ∧ Hid (Grow w0 [(G, txV t ai ao ci co, 59)] b (szM t.ins.length ++ insK bk (t.ins.take j)) wr)) (fun _ c _ => t.ins.length - (intOf c).toNat)
  case atStart => exact ⟨0, _, by omega, rfl, rfl, GR1⟩
  case round =>
    obtain ⟨j, b, hj, rfl, rfl, HG⟩ := hrel
    have c0 : wr.cell? ⟨G, 0, none⟩ = some (.slice ai t.ins.length ci) := HG.out.kept.cell 0 0 _ _ rfl rfl
    by_cases hlt : j < t.ins.length
    · obtain ⟨g, off, so, scap, rfl, -, h32, hkeys, hrow0⟩ := in_at HI0.out j hlt
      have hrow : rowAt wr g (off + j * 34) 34 = some (inV t.ins[j] (.slice so t.ins[j].keys.length scap)) := (rowAt_below HG.out.kept.below (rowAt_lt hrow0) _ _).trans hrow0
      have HT := Lib.hid (insK_take bk t.ins j hlt)
      have hix := HOK.out.ix _ (List.getElem_mem hlt)
      have hko := HK.out _ (List.getElem_mem hlt)
      have hlen := insK_le (b := bk) (xs := t.ins.take j) (fun x hx => by
        obtain ⟨i, hi, rfl⟩ := List.getElem_of_mem (List.mem_of_mem_take hx)
        obtain ⟨_, _, _, _, _, _, h32', -⟩ := in_at HI0.out i hi
        exact h32') (fun x hx => HK.out x (List.mem_of_mem_take hx))
      have hle1 := szM_le t.ins.length
      obtain ⟨x, hx⟩ : ∃ x, t.ins[j]'hlt = x := ⟨_, rfl⟩
      simp only [hx] at h32 hrow HT hix hkeys hko
      obtain ⟨A, hA⟩ : ∃ A, szM t.ins.length ++ insK bk (t.ins.take j) = A := ⟨_, rfl⟩
      have hAl : A.length ≤ 4000000 := by rw [← hA]; simp only [List.length_append]; simp only [List.length_take] at hlen; omega
      have HA := Lib.hid hA
      rw [hA] at HG
      have HKY := Lib.hid hkeys
      clear hx hA hrow0 hkeys hlen
      obtain ⟨n1, n2, n3, n4⟩ := new_in wr x so x.keys.length scap h32
      unfold zIn at n1 n2
      have r1 : rowAt (wr.alloc (.cells (inV x (.slice so x.keys.length scap)) 100)) wr.heap.size 0 32 = some (dgV x.tx) := in_dig (rowAt_whole (heap_alloc_new wr _) 34 n4.symm) h32
      obtain ⟨p1, p2, p3, p4⟩ := new_dg (wr.alloc (.cells (inV x (.slice so x.keys.length scap)) 100)) x.tx h32
      unfold zD at p1 p2
      have GX := Lib.hid ((HG.out.alloc (inV x (.slice so x.keys.length scap)) 100).alloc (dgV x.tx) 23)
      go_upto_region 7 with fail
      clear n1 n2 n3 n4 p1 p2 p3 p4 r1 hrow c0
      obtain ⟨k, hk⟩ : ∃ k : Nat, x.ix = (k : Int) := ⟨x.ix.toNat, by omega⟩
      have HKX : Hid (inK bk x = x.tx ++ szM k ++ (if bk = true then keysM x else [0])) := Lib.hid (by unfold inK; rw [hk]; rfl)
      have hk40 : k < 40 := by omega
      have HC32 : Hid ((inV x (.slice so x.keys.length scap))[32]? = some (.int .i64 (k : Int))) := Lib.hid (by rw [← hk]; exact (inV_tail x _ h32).1)
      have HC33 : Hid ((inV x (.slice so x.keys.length scap))[33]? = some (.slice so x.keys.length scap)) := Lib.hid (inV_tail x _ h32).2
      have GX' : Hid (∃ w2 X D, (wr.alloc (.cells (inV x (.slice so x.keys.length scap)) 100)).alloc (.cells (dgV x.tx) 23) = w2 ∧ wr.heap.size + 1 = D ∧ wr.heap.size = X ∧ Grow w0 [(D, dgV x.tx, 23), (X, inV x (.slice so x.keys.length scap), 100), (G, txV t (some ⟨g, off, none⟩) ao ci co, 59)] b A w2) := Lib.hid ⟨_, _, _, rfl, rfl, rfl, by have := GX.out; rw [show (wr.alloc (.cells (inV x (.slice so x.keys.length scap)) 100)).heap.size = wr.heap.size + 1 from by simp] at this; exact this⟩
      clear GX hk hix
      change Code.wp _ _ _ _ ((wr.alloc (.cells (inV x (.slice so x.keys.length scap)) 100)).alloc (.cells (dgV x.tx) 23))
      obtain ⟨w2, X, D, hw2, hD, hX, gx⟩ := GX'.out
      rw [hw2, hD, hX]
      have GX := Lib.hid gx
      clear hw2 hD hX gx GX' HG
      go_wp2_with (at_builtin; refine wpList_grow rfl (.tmp 32) (.tmp 33) rfl x.tx GX.out rfl rfl (rd_box w2 D x.tx _ _ (GX.out.kept.get 0 _ rfl) h32) (by omega) ?_)
      intro v3 w3 HG3
      have c32 : w3.cell? ⟨X, 32, none⟩ = some (.int .i64 (k : Int)) := HG3.out.kept.cell 1 32 _ _ rfl HC32.out
      clear GX
      go_wp2_with fail
      refine (rsize_any k (by omega) w3).mono ?_
      rintro e w4 ⟨s4, rfl, ho, hb⟩
      have HG4 := Lib.hid (HG3.out.on hb)
      have HR4 := Lib.hid (own_rd ho)
      have hsk := szM_le k
      clear ho hb c32 HG3
      go_wp2_with (at_builtin; refine wpList_grow rfl (.tmp 35) (.tmp 39) rfl (szM k) HG4.out rfl rfl HR4.out (by simp only [List.length_append]; omega) ?_)
      intro v5 w5 HG5
      clear HG4 HR4
      cases bk
      case false =>
        have HLIT : Hid (∀ (W : World), rd (W.alloc (.cells #[.int .u8 0] 5)) (.slice (some ⟨W.heap.size, 0, none⟩) 1 1) [(0 : UInt8)].length ([(0 : UInt8)].map vB)) := Lib.hid fun W => own_rd (own_lit (w := W) (base := W.heap.size) (e := 5) (sz := 1) #[.int .u8 0] 1 (Nat.le_refl _) (by decide) rfl)
        have HG6 := Lib.hid (HG5.out.alloc #[.int .u8 0] 5).tail
        have HR6 := Lib.hid (HLIT.out w5)
        go_wp2_with (at_builtin; refine wpList_grow rfl (.tmp 43) (.tmp 44) rfl [(0 : UInt8)] HG6.out rfl rfl HR6.out (by simp only [List.length_append, List.length_cons, List.length_nil]; omega) ?_)
        intro v7 w7 HG7
        clear HG5 HG6 HR6 HLIT
        have HG8 : Hid (Grow w0 [(G, txV t (some ⟨g, off, none⟩) ao ci co, 59)] v7 (szM t.ins.length ++ insK false (t.ins.take (j + 1))) w7) := Lib.hid (by
          have e : szM t.ins.length ++ insK false (t.ins.take (j + 1)) = A ++ x.tx ++ szM k ++ [0] := by
            rw [HT.out, ← List.append_assoc, HA.out, HKX.out]
            simp only [List.append_assoc, Bool.false_eq_true, if_false]
          rw [e]
          simpa only [List.append_assoc] using HG7.out.tail.tail)
        clear HG7
        go_wp2_with fail
        go_roundw
        case rel => exact ⟨j + 1, v7, by omega, rfl, by go_num, HG8⟩
        case measure => simp [intOf]; omega
      case true =>
        have c33 : w5.cell? ⟨X, 33, none⟩ = some (.slice so x.keys.length scap) := HG5.out.kept.cell 1 33 _ _ rfl HC33.out
        obtain ⟨_, _, e, kb1, kb2⟩ := sl_bounds HKY.out
        cases e
        unfold maxLen at kb2
        have hkl := hko.1
        have hkm := Lib.hid hko.2
        clear hko
        go_wp2_with fail
        refine (rsize_any x.keys.length (by omega) w5).mono ?_
        rintro e w6 ⟨s6, rfl, ho, hb⟩
        have HG6 := Lib.hid (HG5.out.on hb)
        have HR6 := Lib.hid (own_rd ho)
        have hsn := szM_le x.keys.length
        clear ho hb c33 HG5
        go_wp2_with (at_builtin; refine wpList_grow rfl (.tmp 46) (.tmp 50) rfl (szM x.keys.length) HG6.out rfl rfl HR6.out (by simp only [List.length_append]; omega) ?_)
        intro v7 w7 HG7
        clear HG6 HR6
        obtain ⟨C, hC⟩ : ∃ C, A ++ x.tx ++ szM k ++ szM x.keys.length = C := ⟨_, rfl⟩
        have hCl : C.length ≤ 4000060 := by rw [← hC]; simp only [List.length_append]; omega
        have HCC := Lib.hid hC
        have HG8 : Hid (Grow w0 [(D, dgV x.tx, 23), (X, inV x (.slice so x.keys.length scap), 100), (G, txV t (some ⟨g, off, none⟩) ao ci co, 59)] v7 (C ++ packsM (x.keys.take 0)) w7) := Lib.hid (by
          rw [← HCC.out, List.take_zero, show packsM [] = [] from rfl, List.append_nil]
          simpa only [List.append_assoc] using HG7.out)
        clear hC HG7
        go_wp2_with fail
        go_loopw [5, 9] (fun s c wq => ∃ (m : Nat) (b : Value), m ≤ x.keys.length ∧ b = s ∧ c = .int .i64 m ∧ Hid (Grow w0 [(D, dgV x.tx, 23), (X, inV x (.slice so x.keys.length scap), 100), (G, txV t (some ⟨g, off, none⟩) ao ci co, 59)] b (C ++ packsM (x.keys.take m)) wq)) (fun _ c _ => x.keys.length - (intOf c).toNat)
        case atStart => exact ⟨0, _, by omega, rfl, rfl, HG8⟩
        case round =>
          obtain ⟨m, b2, hm, rfl, rfl, HQ⟩ := hrel
          have c33 : wr.cell? ⟨X, 33, none⟩ = some (.slice so x.keys.length scap) := HQ.out.kept.cell 1 33 _ _ rfl HC33.out
          by_cases hmt : m < x.keys.length
          · obtain ⟨g2, off2, cap2, cs2, e2, ⟨s2, rfl, hs2⟩, -, hrow2⟩ := rdSl_row HKY.out (by decide) m (x.keys[m]'hmt) (List.getElem?_eq_getElem hmt)
            cases e2
            have HTM := Lib.hid (packsM_take x.keys m hmt)
            have hk3 := hkm.out _ (List.getElem_mem hmt)
            have hpl := packsM_le (ks := x.keys.take m) (fun q hq => hkm.out q (List.mem_of_mem_take hq))
            obtain ⟨q, hq⟩ : ∃ q, x.keys[m]'hmt = q := ⟨_, rfl⟩
            simp only [hq] at HTM hs2 hk3
            have HS2 := Lib.hid (rd_below hs2 (HQ.out.kept.below))
            have ck : wr.cell? ⟨g2, off2 + m, none⟩ = some s2 := by
              have := cell_of_rowAt ((rowAt_below HQ.out.kept.below (rowAt_lt hrow2) _ _).trans hrow2) 0 (by omega)
              rw [Nat.mul_one, Nat.add_zero] at this
              exact this
            obtain ⟨P, hP⟩ : ∃ P, packsM (x.keys.take m) = P := ⟨_, rfl⟩
            rw [hP] at HTM HQ hpl
            have hpl2 : P.length ≤ 90270 := by simp only [List.length_take] at hpl; omega
            have hpq := packM_le hk3
            clear hq hrow2 hs2 hP hpl
            go_wp2_with fail
            refine (rpacked_any q s2 wr HS2.out (by omega)).mono ?_
            rintro e w8 ⟨s8, rfl, ho, hb⟩
            have HG9 := Lib.hid (HQ.out.on hb)
            have HR9 := Lib.hid (own_rd ho)
            clear ho hb c33 ck HS2
            go_wp2_with (at_builtin; refine wpList_grow rfl (.tmp 59) (.tmp 65) rfl (packM q) HG9.out rfl rfl HR9.out (by simp only [List.length_append]; omega) ?_)
            intro v9 w9 HGA
            have HGB : Hid (Grow w0 [(D, dgV x.tx, 23), (X, inV x (.slice (some ⟨g2, off2, none⟩) x.keys.length scap), 100), (G, txV t (some ⟨g, off, none⟩) ao ci co, 59)] v9 (C ++ packsM (x.keys.take (m + 1))) w9) := Lib.hid (by
              rw [HTM.out]
              simpa only [List.append_assoc] using HGA.out)
            clear HGA HG9 HR9
            go_wp2_with fail
            go_roundw
            case rel => exact ⟨m + 1, v9, by omega, rfl, by go_num, HGB⟩
            case measure => simp [intOf]; omega
          · have HG9 : Hid (Grow w0 [(G, txV t (some ⟨g, off, none⟩) ao ci co, 59)] b2 (szM t.ins.length ++ insK true (t.ins.take (j + 1))) wr) := Lib.hid (by
              have e : szM t.ins.length ++ insK true (t.ins.take (j + 1)) = C ++ packsM (x.keys.take m) := by
                rw [HT.out, ← List.append_assoc, HA.out, HKX.out, ← HCC.out, List.take_of_length_le (show x.keys.length ≤ m by omega)]
                simp only [List.append_assoc, if_true, keysM]
              rw [e]
              exact HQ.out.tail.tail)
            go_wp2_with fail
            go_roundw
            case rel => exact ⟨j + 1, b2, by omega, rfl, by go_num, HG9⟩
            case measure => simp [intOf]; omega
    · have HLI := insK_le (b := bk) (xs := t.ins) (fun x hx => by
        obtain ⟨i, hi, rfl⟩ := List.getElem_of_mem hx
        obtain ⟨_, _, _, _, _, _, h32', -⟩ := in_at HI0.out i hi
        exact h32') HK.out
      have hle1 := szM_le t.ins.length
      obtain ⟨A, hA⟩ : ∃ A, szM t.ins.length ++ insK bk t.ins = A := ⟨_, rfl⟩
      have hAl : A.length ≤ 4000000 := by rw [← hA]; simp only [List.length_append]; omega
      have HAE := Lib.hid hA
      have HG1 : Hid (Grow w0 [(G, txV t ai ao ci co, 59)] b A wr) := Lib.hid (by rw [← HAE.out]; have := HG.out; rwa [List.take_of_length_le (show t.ins.length ≤ j by omega)] at this)
      have c1 : wr.cell? ⟨G, 1, none⟩ = some (.slice ao t.outs.length co) := HG1.out.kept.cell 0 1 _ _ rfl rfl
      clear hA HLI HG GR1
      obtain ⟨wi, hwi⟩ : ∃ wi, wr = wi := ⟨_, rfl⟩
      rw [hwi] at HG1 c0 c1 ⊢
      clear hwi
      go_wp2_with fail
      refine (rsize_any t.outs.length (by omega) wi).mono ?_
      rintro e w2 ⟨s2, rfl, ho, hb⟩
      have HG2 := Lib.hid (HG1.out.on hb)
      have HR2 := Lib.hid (own_rd ho)
      have hsn := szM_le t.outs.length
      clear ho hb c0 c1 HG1
      go_wp2_with (at_builtin; refine wpList_grow rfl (.tmp 67) (.tmp 71) rfl (szM t.outs.length) HG2.out rfl rfl HR2.out (by omega) ?_)
      intro v3 w3 HG3
      obtain ⟨C, hC⟩ : ∃ C, A ++ szM t.outs.length = C := ⟨_, rfl⟩
      have hCl : C.length ≤ 4000010 := by rw [← hC]; simp only [List.length_append]; omega
      have HCC := Lib.hid hC
      have HG4 : Hid (Grow w0 [(G, txV t ai ao ci co, 59)] v3 (C ++ outsM (t.outs.take 0)) w3) := Lib.hid (by
        rw [← HCC.out, List.take_zero, show outsM [] = [] from rfl, List.append_nil]
        exact HG3.out)
      clear hC HG3 HG2 HR2
      go_wp2_with fail
      go_loopw [5, 10] (fun s c wr => ∃ (j : Nat) (b : Value), j ≤ t.outs.length ∧ b = s ∧ c = .int .i64 j ∧ Hid (Grow w0 [(G, txV t ai ao ci co, 59)] b (C ++ outsM (t.outs.take j)) wr)) (fun _ c _ => t.outs.length - (intOf c).toNat)
      case atStart => exact ⟨0, _, by omega, rfl, rfl, HG4⟩
      case round =>
        obtain ⟨j, b, hj, rfl, rfl, HG⟩ := hrel
        have c1 : wr.cell? ⟨G, 1, none⟩ = some (.slice ao t.outs.length co) := HG.out.kept.cell 0 1 _ _ rfl rfl
        have hlen := outsM_le (xs := t.outs.take j) (fun o ho => HOK.out.out o (List.mem_of_mem_take ho))
        have hlen2 : (outsM (t.outs.take j)).length ≤ 800000 := by simp only [List.length_take] at hlen; omega
        clear hlen
        by_cases hlt : j < t.outs.length
        · obtain ⟨g, off, so, scap, rfl, -, hlk0, hrow0⟩ := out_at HO0.out j hlt
          have hrow := (rowAt_below HG.out.kept.below (rowAt_lt hrow0) (off + j * 2) 2).trans hrow0
          have HT := Lib.hid (outsM_take t.outs j hlt)
          have hoo := HOK.out.out _ (List.getElem_mem hlt)
          obtain ⟨o, ho⟩ : ∃ o, t.outs[j]'hlt = o := ⟨_, rfl⟩
          simp only [ho] at hlk0 hrow HT hoo
          obtain ⟨A2, hA2⟩ : ∃ A2, C ++ outsM (t.outs.take j) = A2 := ⟨_, rfl⟩
          have hA2l : A2.length ≤ 4900000 := by rw [← hA2]; simp only [List.length_append]; omega
          have HA2 := Lib.hid hA2
          rw [hA2] at HG
          have HLK := Lib.hid hlk0
          have ha0 := hoo.a0; have ha1 := hoo.a1
          have HLF := Lib.hid (lockF_ok hoo.lock)
          obtain ⟨am, ham⟩ : ∃ am : Nat, o.amount = (am : Int) := ⟨o.amount.toNat, by omega⟩
          have HOM : Hid (outM o = szM am ++ szM o.lock.length ++ lockM o.lock) := Lib.hid (by unfold outM; rw [ham]; rfl)
          rw [ham] at hrow ha1
          have ham2 : am ≤ 1125899906842624 := by omega
          obtain ⟨_, _, e, lk1, lk2⟩ := sl_bounds hlk0
          cases e
          unfold maxLen at lk2
          have hll := HLF.out.1
          clear ho hA2 hrow0 hlk0 hoo ha0 ha1 ham
          obtain ⟨n1, n2, n3⟩ := new_out wr (am : Int) so o.lock.length scap
          unfold zOut at n1 n2
          have GX := Lib.hid (HG.out.alloc #[.int .i64 (am : Int), .slice so o.lock.length scap] 103)
          go_upto_region 21 with fail
          clear n1 n2 n3 hrow c1
          have GX' : Hid (∃ w4 X, wr.alloc (.cells #[.int .i64 (am : Int), .slice so o.lock.length scap] 103) = w4 ∧ wr.heap.size = X ∧ Grow w0 [(X, #[.int .i64 (am : Int), .slice so o.lock.length scap], 103), (G, txV t ai (some ⟨g, off, none⟩) ci co, 59)] b A2 w4) := Lib.hid ⟨_, _, rfl, rfl, GX.out⟩
          change Code.wp _ _ _ _ (wr.alloc (.cells #[.int .i64 (am : Int), .slice so o.lock.length scap] 103))
          obtain ⟨w4, X, hw4, hX, gx⟩ := GX'.out
          rw [hw4, hX]
          have HG5 := Lib.hid gx
          clear hw4 hX gx GX' GX HG
          have d0 : w4.cell? ⟨X, 0, none⟩ = some (.int .i64 (am : Int)) := HG5.out.kept.cell 0 0 _ _ rfl rfl
          go_wp2_with fail
          refine (rsize_any am (by omega) w4).mono ?_
          rintro e w5 ⟨s5, rfl, ho, hb⟩
          have HG6 := Lib.hid (HG5.out.on hb)
          have HR6 := Lib.hid (own_rd ho)
          have hsa := szM_le am
          clear ho hb d0 HG5
          go_wp2_with (at_builtin; refine wpList_grow rfl (.tmp 85) (.tmp 88) rfl (szM am) HG6.out rfl rfl HR6.out (by omega) ?_)
          intro v7 w7 HG7
          have d1 : w7.cell? ⟨X, 1, none⟩ = some (.slice so o.lock.length scap) := HG7.out.kept.cell 0 1 _ _ rfl rfl
          clear HG6 HR6
          go_wp2_with fail
          refine (rsize_any o.lock.length (by omega) w7).mono ?_
          rintro e w8 ⟨s8, rfl, ho, hb⟩
          have HG8 := Lib.hid (HG7.out.on hb)
          have HR8 := Lib.hid (own_rd ho)
          have hsl := szM_le o.lock.length
          clear ho hb d1 HG7
          go_wp2_with (at_builtin; refine wpList_grow rfl (.tmp 90) (.tmp 94) rfl (szM o.lock.length) HG8.out rfl rfl HR8.out (by simp only [List.length_append]; omega) ?_)
          intro v9 w9 HG9
          obtain ⟨E, hE⟩ : ∃ E, A2 ++ szM am ++ szM o.lock.length = E := ⟨_, rfl⟩
          have hEl : E.length ≤ 4900020 := by rw [← hE]; simp only [List.length_append]; omega
          have HEE := Lib.hid hE
          have HGA : Hid (Grow w0 [(X, #[.int .i64 (am : Int), .slice so o.lock.length scap], 103), (G, txV t ai (some ⟨g, off, none⟩) ci co, 59)] v9 (E ++ lockM (o.lock.take 0)) w9) := Lib.hid (by
            rw [← HEE.out, List.take_zero, show lockM [] = [] from rfl, List.append_nil]
            simpa only [List.append_assoc] using HG9.out)
          clear hE HG8 HR8 HG9
          go_wp2_with fail
          go_loopw [5, 12] (fun s c wq => ∃ (m : Nat) (b : Value), m ≤ o.lock.length ∧ b = s ∧ c = .int .i64 m ∧ Hid (Grow w0 [(X, #[.int .i64 (am : Int), .slice so o.lock.length scap], 103), (G, txV t ai (some ⟨g, off, none⟩) ci co, 59)] b (E ++ lockM (o.lock.take m)) wq)) (fun _ c _ => o.lock.length - (intOf c).toNat)
          case atStart => exact ⟨0, _, by omega, rfl, rfl, HGA⟩
          case round =>
            obtain ⟨m, b2, hm, rfl, rfl, HQ⟩ := hrel
            have d1 : wr.cell? ⟨X, 1, none⟩ = some (.slice so o.lock.length scap) := HQ.out.kept.cell 0 1 _ _ rfl rfl
            by_cases hmt : m < o.lock.length
            · obtain ⟨g2, off2, so2, sc2, rfl, -, q1, q2, hdat, hrow2⟩ := op_at HLK.out m hmt
              have HTM := Lib.hid (lockM_take o.lock m hmt)
              have hoo := HLF.out.2 _ (List.getElem_mem hmt)
              have hlm := lockM_le (os := o.lock.take m) (fun q hq => (HLF.out.2 q (List.mem_of_mem_take hq)).d)
              obtain ⟨q, hq⟩ : ∃ q, o.lock[m]'hmt = q := ⟨_, rfl⟩
              simp only [hq] at HTM hdat hrow2 hoo q1
              obtain ⟨P, hP⟩ : ∃ P, lockM (o.lock.take m) = P := ⟨_, rfl⟩
              rw [hP] at HTM HQ hlm
              have hpl : P.length ≤ 19700 := by simp only [List.length_take] at hlm; omega
              have b0 := hoo.op0; have b1 := hoo.op1; have b2' := hoo.n0; have b3 := hoo.n1; have b4 := hoo.d
              obtain ⟨pn, hpn⟩ : ∃ pn : Nat, q.op = (pn : Int) := ⟨q.op.toNat, by omega⟩
              obtain ⟨nn, hnn⟩ : ∃ nn : Nat, q.n = (nn : Int) := ⟨q.n.toNat, by omega⟩
              have HOP : Hid (opM q = [UInt8.ofNat pn] ++ szM nn ++ packM q.data) := Lib.hid (by
                unfold opM
                rw [hpn, hnn, Int.toNat_natCast, Int.toNat_natCast]
                congr 2
                unfold szM
                rw [if_pos (by omega)])
              rw [hpn, hnn] at hrow2
              have hpn2 : pn ≤ 14 := by omega
              have hnn2 : nn ≤ 1073741824 := by omega
              have E0 := Lib.hid (cell_of_rowAt hrow2 0 (by omega))
              have E1 := Lib.hid (cell_of_rowAt hrow2 1 (by omega))
              have E2 := Lib.hid (cell_of_rowAt hrow2 2 (by omega))
              have hgl := rowAt_lt hrow2
              have HDAT := Lib.hid hdat
              clear hq hP hlm hoo hpn hnn hrow2 hdat b0 b1 b2' b3
              have hv : Value.int .u8 (pn : Int) = vB (UInt8.ofNat pn) := by unfold vB; rw [← put_byte pn]; congr 1; omega
              have HLIT : Hid (∀ (W : World), rd (W.alloc (.cells #[.int .u8 (pn : Int)] 5)) (.slice (some ⟨W.heap.size, 0, none⟩) 1 1) [UInt8.ofNat pn].length ([UInt8.ofNat pn].map vB)) := Lib.hid fun W => by
                have := own_rd (own_lit (w := W) (base := W.heap.size) (e := 5) (sz := 1) #[.int .u8 (pn : Int)] 1 (Nat.le_refl _) (by decide) rfl)
                rw [List.map_singleton, ← hv]
                exact this
              clear hv
              have e0 : wr.cell? ⟨g2, off2 + m * 3, none⟩ = some (.int .i64 (pn : Int)) := (HQ.out.kept.below.cell (p := ⟨g2, off2 + m * 3, none⟩) hgl).trans E0.out
              have HG6 := Lib.hid (HQ.out.alloc #[.int .u8 (pn : Int)] 5).tail
              have HR6 := Lib.hid (HLIT.out wr)
              go_wp2_with (at_builtin; refine wpList_grow rfl (.tmp 103) (.tmp 111) rfl [UInt8.ofNat pn] HG6.out rfl rfl HR6.out (by simp only [List.length_append, List.length_cons, List.length_nil]; omega) ?_)
              intro v7 w7 HG7
              clear d1 e0 HG6 HR6 HLIT HQ
              have d1 : w7.cell? ⟨X, 1, none⟩ = some (.slice (some ⟨g2, off2, none⟩) o.lock.length scap) := HG7.out.kept.cell 0 1 _ _ rfl rfl
              have e1 : w7.cell? ⟨g2, off2 + m * 3 + 1, none⟩ = some (.int .i64 (nn : Int)) := (HG7.out.kept.below.cell (p := ⟨g2, off2 + m * 3 + 1, none⟩) hgl).trans E1.out
              go_wp2_with fail
              refine (rsize_any nn (by omega) w7).mono ?_
              rintro e w8 ⟨s8, rfl, ho, hb⟩
              have HG8 := Lib.hid (HG7.out.on hb)
              have HR8 := Lib.hid (own_rd ho)
              have hsl2 := szM_le nn
              clear ho hb d1 e1 HG7
              go_wp2_with (at_builtin; refine wpList_grow rfl (.tmp 113) (.tmp 120) rfl (szM nn) HG8.out rfl rfl HR8.out (by simp only [List.length_append, List.length_cons, List.length_nil]; omega) ?_)
              intro v9 w9 HG9
              clear HG8 HR8
              have d1 : w9.cell? ⟨X, 1, none⟩ = some (.slice (some ⟨g2, off2, none⟩) o.lock.length scap) := HG9.out.kept.cell 0 1 _ _ rfl rfl
              have e2 : w9.cell? ⟨g2, off2 + m * 3 + 2, none⟩ = some (.slice so2 q.data.length sc2) := (HG9.out.kept.below.cell (p := ⟨g2, off2 + m * 3 + 2, none⟩) hgl).trans E2.out
              go_wp2_with fail
              refine (rpacked_any q.data _ w9 (rd_below HDAT.out HG9.out.kept.below) (by omega)).mono ?_
              rintro e wa ⟨sa, rfl, ho, hb⟩
              have HGb := Lib.hid (HG9.out.on hb)
              have HRb := Lib.hid (own_rd ho)
              have hpk := packM_le b4
              clear ho hb d1 e2 HG9
              go_wp2_with (at_builtin; refine wpList_grow rfl (.tmp 122) (.tmp 129) rfl (packM q.data) HGb.out rfl rfl HRb.out (by simp only [List.length_append, List.length_cons, List.length_nil]; omega) ?_)
              intro vc wc HGc
              have HGd : Hid (Grow w0 [(X, #[.int .i64 (am : Int), .slice (some ⟨g2, off2, none⟩) o.lock.length scap], 103), (G, txV t ai (some ⟨g, off, none⟩) ci co, 59)] vc (E ++ lockM (o.lock.take (m + 1))) wc) := Lib.hid (by
                rw [HTM.out, HOP.out]
                simpa only [List.append_assoc, List.cons_append, List.nil_append] using HGc.out)
              clear HGb HRb HGc
              go_wp2_with fail
              go_roundw
              case rel => exact ⟨m + 1, vc, by omega, rfl, by go_num, HGd⟩
              case measure => simp [intOf]; omega
            · have HGN : Hid (Grow w0 [(G, txV t ai (some ⟨g, off, none⟩) ci co, 59)] b2 (C ++ outsM (t.outs.take (j + 1))) wr) := Lib.hid (by
                have e : C ++ outsM (t.outs.take (j + 1)) = E ++ lockM (o.lock.take m) := by
                  rw [HT.out, ← List.append_assoc, HA2.out, HOM.out, ← HEE.out, List.take_of_length_le (show o.lock.length ≤ m by omega)]
                  simp only [List.append_assoc]
                rw [e]
                exact HQ.out.tail)
              go_wp2_with fail
              go_roundw
              case rel => exact ⟨j + 1, b2, by omega, rfl, by go_num, HGN⟩
              case measure => simp [intOf]; omega
        · obtain ⟨tn, htn⟩ : ∃ tn : Nat, t.time = (tn : Int) := ⟨t.time.toNat, by have := HOK.out.t0; omega⟩
          have ht2 : tn ≤ 1073741824 := by have := HOK.out.t1; omega
          have HTX : Hid (txM bk t = C ++ outsM t.outs ++ szM tn) := Lib.hid (by
            unfold txM
            rw [HAE.out, HCC.out, htn]; rfl)
          have c2 : wr.cell? ⟨G, 2, none⟩ = some (.int .i64 (tn : Int)) := HG.out.kept.cell 0 2 _ _ rfl (by unfold txV; rw [htn]; rfl)
          have HGF : Hid (Grow w0 [(G, txV t ai ao ci co, 59)] b (C ++ outsM t.outs) wr) := Lib.hid (by have := HG.out; rwa [List.take_of_length_le (show t.outs.length ≤ j by omega)] at this)
          have hlen3 : (outsM t.outs).length ≤ 800000 := by rwa [List.take_of_length_le (show t.outs.length ≤ j by omega)] at hlen2
          clear HG htn hlen2
          go_wp2_with fail
          refine (rsize_any tn (by omega) wr).mono ?_
          rintro e w2 ⟨s2, rfl, ho, hb⟩
          have HG2 := Lib.hid (HGF.out.on hb)
          have HR2 := Lib.hid (own_rd ho)
          have hst := szM_le tn
          clear ho hb c1 c2 HGF
          go_wp2_with (at_builtin; refine wpList_grow rfl (.tmp 131) (.tmp 134) rfl (szM tn) HG2.out rfl rfl HR2.out (by simp only [List.length_append]; omega) ?_)
          intro v3 w3 HG3
          have HF : Hid (own w3 w.heap.size 5 1 v3 (txM bk t).length ((txM bk t).map vB)) := Lib.hid (by
            rw [HTX.out]
            exact own_base (by simpa only [List.append_assoc] using HG3.out.own_) hsz0)
          have HBF := Lib.hid (K0.out.below.trans (HG3.out.kept.below.mono hsz0))
          clear HG2 HR2 HG3
          go_wp2
          go_ret
          exact ⟨_, rfl, HF.out, HBF.out⟩
end Go.Proofs.YtljcdkfafknnpaaGreatDoor
namespace Go.Proofs.YtljcdkfafknnpaaGreatDoor
set_option linter.unusedVariables false
set_option linter.unusedSimpArgs false
open Go.RowKit
attribute [local go_sem ↓] run_load_agg run_store_agg run_load_any

set_option maxHeartbeats 4000000 in
set_option maxRecDepth 100000 in
theorem idText_any (t : TxD) (ai ao : Option Addr) (ci co : Nat) (w : World) (hi : rdSl inR 34 w (.slice ai t.ins.length ci) t.ins) (ho : rdSl outR 2 w (.slice ao t.outs.length co) t.outs) (hf : txF t = 0) :
    Calls Tryz.prog 43 #[.agg #[.slice ai t.ins.length ci, .slice ao t.outs.length co, .int .i64 t.time]] w fun e w' => ∃ v, e = .returned v ∧ own w' w.heap.size 5 1 v ((21 :: bareM t).length) ((21 :: bareM t).map vB) ∧ Below w.heap.size w w' := by
  obtain ⟨n1, n2, n3⟩ := new_tx w ai ao t.ins.length t.outs.length ci co t.time
  have k0 := (Kept.refl w).alloc (txV t ai ao ci co) 59
  unfold zTx at n1 n2
  have hok := txOk_of hf
  have hle : Hid ((bareM t).length ≤ 1000000) := Lib.hid (bareM_le hok (fun x hx => by
    obtain ⟨i, hi', rfl⟩ := List.getElem_of_mem hx
    obtain ⟨_, _, _, _, _, _, h32', -⟩ := in_at hi i hi'
    exact h32'))
  have HI := Lib.hid hi; have HO := Lib.hid ho; have HF := Lib.hid hf
  have K0 := Lib.hid k0
  clear hi ho hf k0 hok
  go_enter Tryz.func43, Tryz.ntmps43
  go_upto_region 1 with fail
  clear n1 n2 n3
  change Code.wp _ _ _ _ (w.alloc (.cells (txV t ai ao ci co) 59))
  obtain ⟨G, hG⟩ : ∃ G, w.heap.size = G := ⟨_, rfl⟩
  have K0' : Hid (∃ w0, w.alloc (.cells (txV t ai ao ci co) 59) = w0 ∧ Kept w [(G, txV t ai ao ci co, 59)] w0) := Lib.hid ⟨_, rfl, by rw [← hG]; exact K0.out⟩
  rw [hG] at ⊢
  clear hG K0
  obtain ⟨w0, hw0, k0⟩ := K0'.out
  rw [hw0]
  have K0 := Lib.hid k0
  clear hw0 k0 K0'
  have K1 := Lib.hid (K0.out.alloc #[.int .u8 21] 5)
  have HL : Hid (own (w0.alloc (.cells #[.int .u8 21] 5)) w.heap.size 5 1 (.slice (some ⟨w0.heap.size, 0, none⟩) 1 1) [(21 : UInt8)].length ([(21 : UInt8)].map vB)) := Lib.hid (own_base (own_lit (w := w0) (base := w0.heap.size) (e := 5) (sz := 1) #[.int .u8 21] 1 (Nat.le_refl _) (by decide) rfl) K0.out.below.size)
  have r1 : rowAt (w0.alloc (.cells #[.int .u8 21] 5)) G 0 3 = some #[.slice ai t.ins.length ci, .slice ao t.outs.length co, .int .i64 t.time] := K1.out.row 1 _ 3 rfl rfl
  go_wp2_with fail
  refine (txBytes_any t ai ao ci co false _ (inR_stays.slB HI.out K1.out.below (Nat.le_refl _)) (outR_stays.slB HO.out K1.out.below (Nat.le_refl _)) (txOk_of HF.out) (keysOk_of HF.out)).mono ?_
  rintro e w2 ⟨v, rfl, ho, hb⟩
  rw [txM_bare] at ho
  have K2 := Lib.hid (K1.out.on hb)
  have HL2 := Lib.hid (own_below hb HL.out (Nat.le_refl _))
  have HR := Lib.hid (own_rd ho)
  clear ho hb r1 HL K1
  go_wp2_with (at_builtin; refine wpList_bytes rfl (.tmp 3) (.tmp 5) rfl w.heap.size [(21 : UInt8)] (bareM t) HL2.out HR.out (by have := hle.out; simp only [List.length_cons, List.length_nil]; omega) K2.out.below.size ?_)
  intro v3 w3 ho3 hg3
  have B3 := Lib.hid (K2.out.below.grown hg3 K2.out.below.size (fun q hq => (own_lt HL2.out hq).1))
  have HO3 : Hid (own w3 w.heap.size 5 1 v3 (21 :: bareM t).length ((21 :: bareM t).map vB)) := Lib.hid ho3
  clear ho3 hg3
  go_wp2
  go_ret
  exact ⟨_, rfl, HO3.out, B3.out⟩
set_option maxHeartbeats 2000000 in
set_option maxRecDepth 100000 in
theorem bytes_tell (a b : List UInt8) (ao bo : Option Addr) (c1 c2 : Nat) (w : World) (h1 : rd w (.slice ao a.length c1) a.length (a.map vB)) (h2 : rd w (.slice bo b.length c2) b.length (b.map vB)) :
    Calls Tryz.prog 11 #[.slice ao a.length c1, .slice bo b.length c2] w fun e w' => e = .returned (.bool (decide (a = b))) ∧ Drawn w w' := by
  have h1' := h1
  obtain ⟨_, _, e, k1, k2, -⟩ := h1'
  cases e
  have h2' := h2
  obtain ⟨_, _, e, p1, p2, -⟩ := h2'
  cases e
  unfold maxLen at k2 p2
  have H1 := Lib.hid h1; have H2 := Lib.hid h2; clear h1 h2
  obtain ⟨B, hB⟩ : ∃ B, decide (a = b) = B := ⟨_, rfl⟩
  have HD := Lib.hid hB
  clear hB
  go_enter Tryz.func11, Tryz.ntmps11
  by_cases hl : a.length = b.length
  · have f1 : ((a.length : Int) != b.length) = false := by rw [hl]; simp
    have HL := Lib.hid hl
    clear hl
    go_wp2_with fail
    clear f1
    go_loopw [5] (fun c wr => ∃ j : Nat, j ≤ a.length ∧ c = .int .i64 j ∧ Hid (Drawn w wr) ∧ Hid (a.take j = b.take j)) (fun c _ => a.length - (intOf c).toNat)
    case atStart => exact ⟨0, by omega, rfl, Lib.hid (Drawn.refl _), Lib.hid rfl⟩
    case round =>
      obtain ⟨j, hj, rfl, HW, HT⟩ := hrel
      by_cases hlt : j < a.length
      · have hlt2 : j < b.length := by have := HL.out; omega
        have hja : j < (a.map vB).length := by simpa using hlt
        have hjb : j < (b.map vB).length := by simpa using hlt2
        obtain ⟨ag, aoff, rfl, acs⟩ := rd_cells (rd_belowB H1.out HW.out.below (Nat.le_refl _)) j hja
        obtain ⟨bg, boff, rfl, bcs⟩ := rd_cells (rd_belowB H2.out HW.out.below (Nat.le_refl _)) j hjb
        have a1 : wr.cell? ⟨ag, aoff + j, none⟩ = some (.int .u8 (bv (a[j]'hlt))) := by rw [acs j hja]; simp [vB]
        have b1 : wr.cell? ⟨bg, boff + j, none⟩ = some (.int .u8 (bv (b[j]'hlt2))) := by rw [bcs j hjb]; simp [vB]
        have HTA := Lib.hid (List.take_succ_eq_append_getElem hlt)
        have HTB := Lib.hid (List.take_succ_eq_append_getElem hlt2)
        have HNE : Hid (a[j]'hlt ≠ b[j]'hlt2 → B = false) := Lib.hid fun hne => by rw [← HD.out]; exact decide_eq_false fun e => hne (by subst e; rfl)
        obtain ⟨x, hx⟩ : ∃ x, a[j]'hlt = x := ⟨_, rfl⟩
        obtain ⟨y, hy⟩ : ∃ y, b[j]'hlt2 = y := ⟨_, rfl⟩
        simp only [hx] at a1 HTA HNE
        simp only [hy] at b1 HTB HNE
        clear acs bcs hx hy hja hjb
        by_cases hxy : x = y
        · have f2 : (bv x != bv y) = false := by rw [hxy]; simp
          have HT2 : Hid (a.take (j + 1) = b.take (j + 1)) := Lib.hid (by rw [HTA.out, HTB.out, HT.out, hxy])
          clear hxy
          go_wp2_with fail
          go_region
          all_goals
            go_wp2
            go_roundw
            case rel => exact ⟨j + 1, by omega, by go_num, Lib.hid HW.out.drew, HT2⟩
            case measure => simp [intOf]; omega
        · have f2 : (bv x != bv y) = true := by rw [bne_iff_ne]; exact fun e => hxy (bv_inj e)
          have HBF := Lib.hid (HNE.out hxy)
          clear hxy
          go_wp2_with fail
          go_region
          all_goals
            go_wp2
            go_ret
            exact ⟨by rw [HD.out, HBF.out]; rfl, HW.out.drew⟩
      · have HBT : Hid (B = true) := Lib.hid (by
          rw [← HD.out]
          have := HT.out
          rw [List.take_of_length_le (by omega), List.take_of_length_le (by have := HL.out; omega)] at this
          exact decide_eq_true this)
        go_wp2
        go_ret
        exact ⟨by rw [HD.out, HBT.out]; rfl, HW.out⟩
  · have f1 : ((a.length : Int) != b.length) = true := by simp; omega
    have HBF : Hid (B = false) := Lib.hid (by rw [← HD.out]; exact decide_eq_false fun e => hl (by rw [e]))
    clear hl
    go_wp2
    go_ret
    exact ⟨by rw [HD.out, HBF.out]; rfl, Drawn.refl _⟩
end Go.Proofs.YtljcdkfafknnpaaGreatDoor
