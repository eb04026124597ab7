/- Merged: Sza. Conditions: none beyond each theorem's own. -/
import Derived.Test.YtljcdkfafknnpaaGreatDoorHdb
namespace Go.Proofs.YtljcdkfafknnpaaGreatDoor
set_option linter.unusedVariables false
set_option linter.unusedSimpArgs false
theorem numM_cons (x : UInt8) : ∀ (c : List UInt8), numM (x :: c) = x.toNat * 256 ^ c.length + numM c := by
  intro c
  have key : ∀ k, ∀ c : List UInt8, c.length = k → numM (x :: c) = x.toNat * 256 ^ c.length + numM c := by
    intro k
    induction k with
    | zero => intro c hc; obtain rfl := List.eq_nil_of_length_eq_zero hc; simp [numM]
    | succ k ih =>
      intro c hc
      obtain ⟨d, y, rfl⟩ : ∃ d y, c = d ++ [y] := ⟨c.dropLast, c.getLast (by intro e; subst e; simp at hc), (List.dropLast_concat_getLast _).symm⟩
      have hd := ih d (by simpa using hc)
      rw [← List.cons_append, numM_snoc, hd, numM_snoc, List.length_append, List.length_cons, List.length_nil, Nat.pow_succ, Nat.add_mul, ← Nat.mul_assoc]
      omega
  exact key c.length c rfl
theorem numM_pow : ∀ (c : List UInt8), numM c < 256 ^ c.length
  | [] => by simp [numM]
  | x :: c => by
    have h1 := numM_pow c
    have h2 := x.toNat_lt
    have h3 : x.toNat * 256 ^ c.length ≤ 255 * 256 ^ c.length := Nat.mul_le_mul_right _ (by omega)
    rw [numM_cons, List.length_cons, Nat.pow_succ]
    omega
theorem ofNat_snoc (n : Nat) (x : UInt8) : UInt8.ofNat (n * 256 + x.toNat) = x := by
  apply UInt8.toNat_inj.1
  rw [UInt8.toNat_ofNat']
  have := x.toNat_lt
  omega
theorem putM_succ (n s : Nat) : putM n (s + 1) = putM (n / 256) s ++ [UInt8.ofNat n] := by
  unfold putM
  rw [List.range_succ, List.map_append]
  congr 1
  · apply List.map_congr_left
    intro j hj
    have hj' := List.mem_range.1 hj
    rw [Nat.div_div_eq_div_mul, show s + 1 - 1 - j = (s - 1 - j) + 1 from by omega, Nat.pow_succ, Nat.mul_comm 256]
  · simp
theorem putM_numM (c : List UInt8) : putM (numM c) c.length = c := by
  have key : ∀ k, ∀ c : List UInt8, c.length = k → putM (numM c) k = c := by
    intro k
    induction k with
    | zero => intro c hc; obtain rfl := List.eq_nil_of_length_eq_zero hc; rfl
    | succ k ih =>
      intro c hc
      obtain ⟨d, y, rfl⟩ : ∃ d y, c = d ++ [y] := ⟨c.dropLast, c.getLast (by intro e; subst e; simp at hc), (List.dropLast_concat_getLast _).symm⟩
      have hy := y.toNat_lt
      rw [putM_succ, numM_snoc, ofNat_snoc, show (numM d * 256 + y.toNat) / 256 = numM d from by omega, ih d (by simpa using hc)]
  exact key c.length c rfl
/-- How many bytes follow a first one. -/
def wid (x : UInt8) : Nat := if x.toNat < 253 then 0 else if x.toNat = 253 then 2 else if x.toNat = 254 then 4 else 8
def badN (w : Nat) (c : List UInt8) : Bool := (decide (w = 8) && decide (128 ≤ (c.getD 0 0).toNat)) || decide (szW (numM c) ≠ w)
structure GotD where
  n : Nat
  next : Nat
  e : Int
def szAt (b : List UInt8) (at_ : Nat) : GotD :=
  if b.length ≤ at_ then ⟨0, 0, 3⟩
  else if wid (b.getD at_ 0) = 0 then ⟨(b.getD at_ 0).toNat, at_ + 1, 0⟩
  else if b.length < at_ + 1 + wid (b.getD at_ 0) then ⟨0, 0, 3⟩
  else if badN (wid (b.getD at_ 0)) ((b.drop (at_ + 1)).take (wid (b.getD at_ 0))) = true then ⟨0, 0, 1⟩
  else ⟨numM ((b.drop (at_ + 1)).take (wid (b.getD at_ 0))), at_ + 1 + wid (b.getD at_ 0), 0⟩
theorem szAt_out {b : List UInt8} {i : Nat} (h : b.length ≤ i) : szAt b i = ⟨0, 0, 3⟩ := by unfold szAt; rw [if_pos h]
theorem szAt_low {b : List UInt8} {i : Nat} {x : UInt8} (h : ¬ b.length ≤ i) (hx : b.getD i 0 = x) (h0 : x.toNat < 253) : szAt b i = ⟨x.toNat, i + 1, 0⟩ := by
  unfold szAt; rw [if_neg h, hx, if_pos (by unfold wid; rw [if_pos h0])]
theorem szAt_short {b : List UInt8} {i w : Nat} {x : UInt8} (h : ¬ b.length ≤ i) (hx : b.getD i 0 = x) (hw : wid x = w) (h0 : w ≠ 0) (h1 : b.length < i + 1 + w) : szAt b i = ⟨0, 0, 3⟩ := by
  unfold szAt; rw [if_neg h, hx, hw, if_neg h0, if_pos h1]
theorem szAt_bad {b : List UInt8} {i w : Nat} {x : UInt8} {c : List UInt8} (h : ¬ b.length ≤ i) (hx : b.getD i 0 = x) (hw : wid x = w) (h0 : w ≠ 0) (h1 : ¬ b.length < i + 1 + w) (hc : (b.drop (i + 1)).take w = c) (hb : badN w c = true) : szAt b i = ⟨0, 0, 1⟩ := by
  unfold szAt; rw [if_neg h, hx, hw, if_neg h0, if_neg h1, hc, if_pos hb]
theorem szAt_good {b : List UInt8} {i w : Nat} {x : UInt8} {c : List UInt8} (h : ¬ b.length ≤ i) (hx : b.getD i 0 = x) (hw : wid x = w) (h0 : w ≠ 0) (h1 : ¬ b.length < i + 1 + w) (hc : (b.drop (i + 1)).take w = c) (hb : badN w c = false) : szAt b i = ⟨numM c, i + 1 + w, 0⟩ := by
  unfold szAt; rw [if_neg h, hx, hw, if_neg h0, if_neg h1, hc, if_neg (by rw [hb]; decide)]
theorem numM_8 {c : List UInt8} (h : c.length = 8) (h0 : ¬ 128 ≤ (c.getD 0 0).toNat) : numM c < 9223372036854775808 := by
  match c, h with
  | x :: d, hd =>
    have h1 := numM_pow d
    have hl : d.length = 7 := by simpa using hd
    have h2 : x.toNat < 128 := by simpa using h0
    rw [numM_cons]
    rw [hl] at h1 ⊢
    obtain ⟨P, hP⟩ : ∃ P : Nat, 256 ^ 7 = P := ⟨_, rfl⟩
    have hp : P = 72057594037927936 := by rw [← hP]
    rw [hP] at h1 ⊢
    have h3 : x.toNat * P ≤ 127 * P := Nat.mul_le_mul_right _ (by omega)
    omega
theorem numM_8' {c : List UInt8} (h : c.length = 8) (h0 : 128 ≤ (c.getD 0 0).toNat) : 9223372036854775808 ≤ numM c := by
  match c, h with
  | x :: d, hd =>
    have hl : d.length = 7 := by simpa using hd
    have h2 : 128 ≤ x.toNat := by simpa using h0
    rw [numM_cons, hl]
    obtain ⟨P, hP⟩ : ∃ P : Nat, 256 ^ 7 = P := ⟨_, rfl⟩
    have hp : P = 72057594037927936 := by rw [← hP]
    rw [hP]
    have h3 : 128 * P ≤ x.toNat * P := Nat.mul_le_mul_right _ (by omega)
    omega
theorem wid_cases (x : UInt8) : (x.toNat < 253 ∧ wid x = 0) ∨ (x.toNat = 253 ∧ wid x = 2) ∨ (x.toNat = 254 ∧ wid x = 4) ∨ (x.toNat = 255 ∧ wid x = 8) := by
  have h := x.toNat_lt
  unfold wid
  by_cases h1 : x.toNat < 253
  · exact .inl ⟨h1, by rw [if_pos h1]⟩
  · by_cases h2 : x.toNat = 253
    · exact .inr (.inl ⟨h2, by rw [if_neg h1, if_pos h2]⟩)
    · by_cases h3 : x.toNat = 254
      · exact .inr (.inr (.inl ⟨h3, by rw [if_neg h1, if_neg h2, if_pos h3]⟩))
      · exact .inr (.inr (.inr ⟨by omega, by rw [if_neg h1, if_neg h2, if_neg h3]⟩))
theorem szAt_enc {b : List UInt8} {i : Nat} (h : (szAt b i).e = 0) : i < (szAt b i).next ∧ (szAt b i).next ≤ b.length ∧ (b.drop i).take ((szAt b i).next - i) = szM (szAt b i).n ∧ (szAt b i).n < 9223372036854775808 := by
  by_cases h1 : b.length ≤ i
  · rw [szAt_out h1] at h; cases h
  have hi : i < b.length := by omega
  obtain ⟨x, hx⟩ : ∃ x, b.getD i 0 = x := ⟨_, rfl⟩
  have hbx : b[i] = x := by rw [← hx, List.getD_eq_getElem?_getD, List.getElem?_eq_getElem hi, Option.getD_some]
  have hd : b.drop i = x :: b.drop (i + 1) := by rw [List.drop_eq_getElem_cons hi, hbx]
  rcases wid_cases x with ⟨hx0, hw⟩ | hrest
  · rw [szAt_low h1 hx hx0]
    refine ⟨by show i < i + 1; omega, by show i + 1 ≤ b.length; omega, ?_, by show x.toNat < _; omega⟩
    show (b.drop i).take (i + 1 - i) = szM x.toNat
    rw [show i + 1 - i = 1 from by omega, hd]
    unfold szM
    rw [if_pos hx0]
    simp
  obtain ⟨w, hww, hw, hw8, hxw⟩ : ∃ w, wid x = w ∧ w ≠ 0 ∧ w ≤ 8 ∧ ((w = 2 ∧ x = 253) ∨ (w = 4 ∧ x = 254) ∨ (w = 8 ∧ x = 255)) := by
    rcases hrest with ⟨q, hw⟩ | ⟨q, hw⟩ | ⟨q, hw⟩
    · exact ⟨2, hw, by omega, by omega, .inl ⟨rfl, UInt8.toNat_inj.1 q⟩⟩
    · exact ⟨4, hw, by omega, by omega, .inr (.inl ⟨rfl, UInt8.toNat_inj.1 q⟩)⟩
    · exact ⟨8, hw, by omega, by omega, .inr (.inr ⟨rfl, UInt8.toNat_inj.1 q⟩)⟩
  by_cases h2 : b.length < i + 1 + w
  · rw [szAt_short h1 hx hww hw h2] at h; cases h
  obtain ⟨c, hc⟩ : ∃ c, (b.drop (i + 1)).take w = c := ⟨_, rfl⟩
  have hcl : c.length = w := by rw [← hc, List.length_take, List.length_drop]; omega
  cases hb : badN w c with
  | true => rw [szAt_bad h1 hx hww hw h2 hc hb] at h; cases h
  | false =>
    rw [szAt_good h1 hx hww hw h2 hc hb]
    unfold badN at hb
    rw [Bool.or_eq_false_iff] at hb
    obtain ⟨hb1, hb2⟩ := hb
    have hs : szW (numM c) = w := by simpa using hb2
    refine ⟨by show i < i + 1 + w; omega, by show i + 1 + w ≤ b.length; omega, ?_, ?_⟩
    · show (b.drop i).take (i + 1 + w - i) = szM (numM c)
      rw [show i + 1 + w - i = w + 1 from by omega, hd, List.take_succ_cons, hc]
      have hn : ¬ numM c < 253 := by intro hn; unfold szW at hs; rw [if_pos hn] at hs; exact hw hs.symm
      unfold szM
      rw [if_neg hn, hs, ← hcl, putM_numM]
      congr 1
      unfold szW at hs
      unfold szH
      rw [if_neg hn] at hs
      rcases hxw with ⟨rfl, rfl⟩ | ⟨rfl, rfl⟩ | ⟨rfl, rfl⟩
      · have : numM c < 65536 := by
          rcases Nat.lt_or_ge (numM c) 65536 with q | q
          · exact q
          · rw [if_neg (by omega)] at hs; split at hs <;> cases hs
        rw [if_pos this]
      · have q1 : ¬ numM c < 65536 := by intro q; rw [if_pos q] at hs; cases hs
        rw [if_neg q1] at hs
        have q2 : numM c < 4294967296 := by
          rcases Nat.lt_or_ge (numM c) 4294967296 with q | q
          · exact q
          · rw [if_neg (by omega)] at hs; cases hs
        rw [if_neg q1, if_pos q2]
      · have q1 : ¬ numM c < 65536 := by intro q; rw [if_pos q] at hs; cases hs
        rw [if_neg q1] at hs
        have q2 : ¬ numM c < 4294967296 := by intro q; rw [if_pos q] at hs; cases hs
        rw [if_neg q1, if_neg q2]
    · show numM c < 9223372036854775808
      rcases hxw with ⟨rfl, -⟩ | ⟨rfl, -⟩ | ⟨rfl, -⟩
      · have := numM_pow c; rw [hcl] at this; omega
      · have := numM_pow c; rw [hcl] at this; omega
      · refine numM_8 hcl ?_
        rw [Bool.and_eq_false_iff] at hb1
        rcases hb1 with q | q
        · simp at q
        · exact of_decide_eq_false q
/-- So many numbers from a place on. -/
def readK (b : List UInt8) : Nat → Nat → Option (List Nat × Nat)
  | 0, i => some ([], i)
  | k + 1, i => if (szAt b i).e = 0 then (readK b k (szAt b i).next).map fun p => ((szAt b i).n :: p.1, p.2) else none
/-- The head that so many numbers make. -/
def mkHd (b : List UInt8) (ns : List Nat) : HeadD := ⟨b.take 32, (b.drop 32).take 32, (ns.getD 0 0 : Nat), (ns.getD 1 0 : Nat), (ns.getD 2 0 : Nat), (ns.getD 3 0 : Nat)⟩
def headAt (b : List UInt8) (j i : Nat) (ns : List Nat) : Option HeadD := match readK b (4 - j) i with
  | none => none
  | some (ms, e) => if rangeF (mkHd b (ns ++ ms)) = 0 ∧ e = b.length then some (mkHd b (ns ++ ms)) else none
def headM (b : List UInt8) : Option HeadD := if b.length < 64 then none else headAt b 0 64 []
theorem headAt_no {b : List UInt8} {j i : Nat} {ns : List Nat} (hj : j < 4) (h : (szAt b i).e ≠ 0) : headAt b j i ns = none := by
  unfold headAt
  rw [show 4 - j = (4 - (j + 1)) + 1 from by omega, readK, if_neg h]
theorem headAt_step {b : List UInt8} {j i : Nat} {ns : List Nat} (hj : j < 4) (h : (szAt b i).e = 0) : headAt b j i ns = headAt b (j + 1) (szAt b i).next (ns ++ [(szAt b i).n]) := by
  unfold headAt
  rw [show 4 - j = (4 - (j + 1)) + 1 from by omega, readK, if_pos h]
  cases readK b (4 - (j + 1)) (szAt b i).next with
  | none => rfl
  | some p =>
    obtain ⟨ms, e⟩ := p
    simp [List.append_assoc]
theorem headAt_end (b : List UInt8) (i : Nat) (ns : List Nat) : headAt b 4 i ns = if rangeF (mkHd b ns) = 0 ∧ i = b.length then some (mkHd b ns) else none := by
  unfold headAt
  show (match readK b 0 i with | none => none | some (ms, e) => if rangeF (mkHd b (ns ++ ms)) = 0 ∧ e = b.length then some (mkHd b (ns ++ ms)) else none) = _
  rw [readK]
  simp
def encL (ns : List Nat) : List UInt8 := (ns.map szM).flatten
theorem encL_snoc (ns : List Nat) (n : Nat) : encL (ns ++ [n]) = encL ns ++ szM n := by unfold encL; simp
/-- What has been read so far is what it is written as. -/
def ReadOk (b : List UInt8) (i : Nat) (ns : List Nat) : Prop := 64 ≤ i ∧ i ≤ b.length ∧ (b.drop 64).take (i - 64) = encL ns
theorem readOk_0 {b : List UInt8} (h : 64 ≤ b.length) : ReadOk b 64 [] := ⟨by omega, h, by simp [encL]⟩
theorem readOk_step {b : List UInt8} {i : Nat} {ns : List Nat} (h : ReadOk b i ns) (he : (szAt b i).e = 0) : ReadOk b (szAt b i).next (ns ++ [(szAt b i).n]) := by
  obtain ⟨h1, h2, h3⟩ := h
  obtain ⟨e1, e2, e3, -⟩ := szAt_enc he
  refine ⟨by omega, e2, ?_⟩
  rw [encL_snoc, ← h3, ← e3, show (szAt b i).next - 64 = (i - 64) + ((szAt b i).next - i) from by omega, List.take_add, List.drop_drop, show 64 + (i - 64) = i from by omega]
theorem mkHd_ok {b : List UInt8} (h : 64 ≤ b.length) (ns : List Nat) : HdOk (mkHd b ns) := ⟨by unfold mkHd; simp; omega, by unfold mkHd; simp; omega⟩
theorem readOk_head {b : List UInt8} {i : Nat} {ns : List Nat} (h : ReadOk b i ns) (hl : ns.length = 4) : headB (mkHd b ns) = b.take i := by
  obtain ⟨h1, h2, h3⟩ := h
  match ns, hl with
  | [n0, n1, n2, n3], _ =>
    have e : b.take i = b.take 64 ++ (b.drop 64).take (i - 64) := by
      rw [← List.take_add, show 64 + (i - 64) = i from by omega]
    have e2 : b.take 64 = b.take 32 ++ (b.drop 32).take 32 := by rw [← List.take_add]
    rw [e, h3, e2]
    unfold headB aheadM mkHd encL
    simp
theorem readOk_eq {b : List UInt8} {i : Nat} {ns : List Nat} (h : ReadOk b i ns) (hl : ns.length = 4) : headB (mkHd b ns) = b ↔ i = b.length := by
  rw [readOk_head h hl]
  obtain ⟨-, h2, -⟩ := h
  constructor
  · intro e
    have := congrArg List.length e
    rw [List.length_take] at this
    omega
  · rintro rfl; exact List.take_length
end Go.Proofs.YtljcdkfafknnpaaGreatDoor
