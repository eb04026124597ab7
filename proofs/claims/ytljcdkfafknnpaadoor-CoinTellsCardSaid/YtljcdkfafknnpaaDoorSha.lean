/- SHA-256 in plain terms, over 8-bit and 32-bit words. Conditions: none. -/
import Derived.WalkKit
import Derived.Laws.BitsAllLaws
namespace Go.Proofs.YtljcdkfafknnpaaDoor
set_option linter.unusedVariables false
set_option linter.unusedSimpArgs false
open Go.RowKit

/-- A word, a byte, as the number that a cell holds. -/
def wv (x : UInt32) : Int := (x.toNat : Int)
def bv (x : UInt8) : Int := (x.toNat : Int)
theorem wv_nonneg (x : UInt32) : 0 ≤ wv x := by unfold wv; omega
theorem wv_lt (x : UInt32) : wv x < 4294967296 := by have := x.toNat_lt; unfold wv; omega
theorem bv_nonneg (x : UInt8) : 0 ≤ bv x := by unfold bv; omega
theorem bv_lt (x : UInt8) : bv x < 256 := by have := x.toNat_lt; unfold bv; omega
theorem wv_inj {x y : UInt32} (h : wv x = wv y) : x = y := by unfold wv at h; exact UInt32.toNat_inj.1 (by omega)
theorem bv_inj {x y : UInt8} (h : bv x = bv y) : x = y := by unfold bv at h; exact UInt8.toNat_inj.1 (by omega)

theorem wv_add (a b : UInt32) : IntKind.u32.wrap (wv a + wv b) = wv (a + b) := by
  rw [IntKind.wrap_u32']; unfold wv; rw [UInt32.toNat_add]; omega
theorem wv_xor (a b : UInt32) : bits .xor .u32 (wv a) (wv b) = wv (a ^^^ b) := by
  unfold wv; rw [u32_xor_nat _ _ a.toNat_lt b.toNat_lt, UInt32.toNat_xor]
theorem wv_and (a b : UInt32) : bits .and .u32 (wv a) (wv b) = wv (a &&& b) := by
  unfold wv; rw [u32_and_nat _ _ a.toNat_lt b.toNat_lt, UInt32.toNat_and]
theorem wv_or (a b : UInt32) : bits .or .u32 (wv a) (wv b) = wv (a ||| b) := by
  unfold wv; rw [u32_or_nat _ _ a.toNat_lt b.toNat_lt, UInt32.toNat_or]
theorem wv_not (a : UInt32) : bits .xor .u32 4294967295 (wv a) = wv (~~~ a) := by
  have h : (4294967295 : Int) = wv (-1) := by decide
  rw [h, wv_xor]
  congr 1
theorem wv_shl (a : UInt32) (k : Nat) (hk : k < 32) : IntKind.u32.wrap (wv a * (2 ^ k : Nat)) = wv (a <<< UInt32.ofNat k) := by
  rw [IntKind.wrap_u32']; unfold wv
  rw [UInt32.toNat_shiftLeft, UInt32.toNat_ofNat_of_lt' (by have : (32 : Nat) < UInt32.size := by decide
                                                            omega), Nat.shiftLeft_eq, Nat.mod_eq_of_lt hk]
  omega
theorem wv_shr (a : UInt32) (k : Nat) (hk : k < 32) : wv a / (2 ^ k : Nat) = wv (a >>> UInt32.ofNat k) := by
  unfold wv
  rw [UInt32.toNat_shiftRight, UInt32.toNat_ofNat_of_lt' (by have : (32 : Nat) < UInt32.size := by decide
                                                             omega), Nat.shiftRight_eq_div_pow, Nat.mod_eq_of_lt hk]
  omega
theorem wv_byte (b : UInt8) : bv b = wv b.toUInt32 := by unfold bv wv; simp
theorem bv_low (x : UInt32) : IntKind.u8.wrap (wv x) = bv x.toUInt8 := by
  rw [IntKind.wrap_u8']; unfold bv wv; rw [UInt32.toNat_toUInt8]; omega

def rotr (k : Nat) (x : UInt32) : UInt32 := (x <<< UInt32.ofNat (32 - k)) ||| (x >>> UInt32.ofNat k)
def sg0 (x : UInt32) : UInt32 := (rotr 7 x ^^^ rotr 18 x) ^^^ (x >>> 3)
def sg1 (x : UInt32) : UInt32 := (rotr 17 x ^^^ rotr 19 x) ^^^ (x >>> 10)
def bs0 (x : UInt32) : UInt32 := (rotr 2 x ^^^ rotr 13 x) ^^^ rotr 22 x
def bs1 (x : UInt32) : UInt32 := (rotr 6 x ^^^ rotr 11 x) ^^^ rotr 25 x
def kTab : List UInt32 := [1116352408, 1899447441, 3049323471, 3921009573, 961987163, 1508970993, 2453635748, 2870763221, 3624381080, 310598401, 607225278, 1426881987, 1925078388, 2162078206, 2614888103, 3248222580, 3835390401, 4022224774, 264347078, 604807628, 770255983, 1249150122, 1555081692, 1996064986, 2554220882, 2821834349, 2952996808, 3210313671, 3336571891, 3584528711, 113926993, 338241895, 666307205, 773529912, 1294757372, 1396182291, 1695183700, 1986661051, 2177026350, 2456956037, 2730485921, 2820302411, 3259730800, 3345764771, 3516065817, 3600352804, 4094571909, 275423344, 430227734, 506948616, 659060556, 883997877, 958139571, 1322822218, 1537002063, 1747873779, 1955562222, 2024104815, 2227730452, 2361852424, 2428436474, 2756734187, 3204031479, 3329325298]
structure St where
  a : UInt32
  b : UInt32
  c : UInt32
  d : UInt32
  e : UInt32
  f : UInt32
  g : UInt32
  h : UInt32
def St0 : St := ⟨1779033703, 3144134277, 1013904242, 2773480762, 1359893119, 2600822924, 528734635, 1541459225⟩
def rndP (s : St) (k w : UInt32) : UInt32 := (((s.h + bs1 s.e) + ((s.e &&& s.f) ^^^ (~~~ s.e &&& s.g))) + k) + w
def rndQ (s : St) : UInt32 := bs0 s.a + (((s.a &&& s.b) ^^^ (s.a &&& s.c)) ^^^ (s.b &&& s.c))
def rnd (s : St) (k w : UInt32) : St := ⟨rndP s k w + rndQ s, s.a, s.b, s.c, s.d + rndP s k w, s.e, s.f, s.g⟩
/-- The word at place t of bytes. -/
def wordAt (b : List UInt8) (t : Nat) : UInt32 :=
  ((((b.getD (4 * t) 0).toUInt32 <<< 24) ||| ((b.getD (4 * t + 1) 0).toUInt32 <<< 16)) ||| ((b.getD (4 * t + 2) 0).toUInt32 <<< 8)) ||| (b.getD (4 * t + 3) 0).toUInt32
def schNext (l : List UInt32) : UInt32 := ((sg1 (l.getD (l.length - 2) 0) + l.getD (l.length - 7) 0) + sg0 (l.getD (l.length - 15) 0)) + l.getD (l.length - 16) 0
/-- The first words: of the bytes up to 16, then made. -/
def sch (b : List UInt8) : Nat → List UInt32
  | 0 => []
  | t + 1 => if t < 16 then sch b t ++ [wordAt b t] else sch b t ++ [schNext (sch b t)]
theorem sch_zero (b : List UInt8) : sch b 0 = [] := rfl
theorem sch_length (b : List UInt8) (t : Nat) : (sch b t).length = t := by
  induction t with
  | zero => rfl
  | succ t ih => unfold sch; split <;> simp [ih]
theorem sch_low (b : List UInt8) (t : Nat) (h : t < 16) : sch b (t + 1) = sch b t ++ [wordAt b t] := by rw [sch, if_pos h]
theorem sch_high (b : List UInt8) (t : Nat) (h : 16 ≤ t) : sch b (t + 1) = sch b t ++ [schNext (sch b t)] := by rw [sch, if_neg (by omega)]
theorem sch_getD (b : List UInt8) (t n : Nat) (h : t < n) : (sch b n).getD t 0 = (sch b (t + 1)).getD t 0 := by
  induction n with
  | zero => omega
  | succ n ih =>
    by_cases hn : t = n
    · subst hn; rfl
    · have h1 : (sch b (n + 1)).getD t 0 = (sch b n).getD t 0 := by
        have hl := sch_length b n
        have h2 : t < (sch b n).length := by omega
        by_cases h16 : n < 16
        · rw [sch_low b n h16, List.getD_eq_getElem?_getD, List.getElem?_append_left h2, ← List.getD_eq_getElem?_getD]
        · rw [sch_high b n (by omega), List.getD_eq_getElem?_getD, List.getElem?_append_left h2, ← List.getD_eq_getElem?_getD]
      rw [h1]; exact ih (by omega)
/-- The word at a place of the schedule. -/
def wAt (b : List UInt8) (t : Nat) : UInt32 := (sch b 64).getD t 0
theorem sch_getD_wAt (b : List UInt8) (n t : Nat) (h : t < n) (hn : n ≤ 64) : (sch b n).getD t 0 = wAt b t := by
  unfold wAt; rw [sch_getD b t n h, sch_getD b t 64 (by omega)]
theorem wAt_low (b : List UInt8) (t : Nat) (h : t < 16) : wAt b t = wordAt b t := by
  rw [← sch_getD_wAt b (t + 1) t (by omega) (by omega), sch_low b t h]
  have := sch_length b t
  rw [List.getD_eq_getElem?_getD, List.getElem?_append_right (by omega)]; simp [this]
theorem wAt_high (b : List UInt8) (t : Nat) (h : 16 ≤ t) (h2 : t < 64) : wAt b t = ((sg1 (wAt b (t - 2)) + wAt b (t - 7)) + sg0 (wAt b (t - 15))) + wAt b (t - 16) := by
  rw [← sch_getD_wAt b (t + 1) t (by omega) (by omega), sch_high b t h]
  have hl := sch_length b t
  rw [List.getD_eq_getElem?_getD, List.getElem?_append_right (by omega)]
  simp only [hl, Nat.sub_self, List.getElem?_cons_zero, Option.getD_some]
  unfold schNext
  rw [hl, sch_getD_wAt b t _ (by omega) (by omega), sch_getD_wAt b t _ (by omega) (by omega), sch_getD_wAt b t _ (by omega) (by omega), sch_getD_wAt b t _ (by omega) (by omega)]
theorem sch_wAt (b : List UInt8) (t : Nat) (h : t < 64) : sch b (t + 1) = sch b t ++ [wAt b t] := by
  have e := sch_getD_wAt b (t + 1) t (by omega) (by omega)
  have hl := sch_length b t
  by_cases h16 : t < 16
  · rw [sch_low b t h16] at e ⊢
    rw [← e, List.getD_eq_getElem?_getD, List.getElem?_append_right (by omega)]; simp [hl]
  · rw [sch_high b t (by omega)] at e ⊢
    rw [← e, List.getD_eq_getElem?_getD, List.getElem?_append_right (by omega)]; simp [hl]
/-- So many rounds. -/
def rnds (s : St) (b : List UInt8) : Nat → St
  | 0 => s
  | t + 1 => rnd (rnds s b t) (kTab.getD t 0) (wAt b t)
theorem rnds_zero (s : St) (b : List UInt8) : rnds s b 0 = s := rfl
theorem rnds_succ (s : St) (b : List UInt8) (t : Nat) : rnds s b (t + 1) = rnd (rnds s b t) (kTab.getD t 0) (wAt b t) := rfl
def stAdd (v s : St) : St := ⟨v.a + s.a, v.b + s.b, v.c + s.c, v.d + s.d, v.e + s.e, v.f + s.f, v.g + s.g, v.h + s.h⟩
/-- The state behind the first 64 of some bytes. -/
def blockM (s : St) (b : List UInt8) : St := stAdd (rnds s b 64) s
def blocksM (s : St) (m : List UInt8) : Nat → St
  | 0 => s
  | k + 1 => blockM (blocksM s m k) (m.drop (64 * k))
def stWord (s : St) (i : Nat) : UInt32 := [s.a, s.b, s.c, s.d, s.e, s.f, s.g, s.h].getD i 0
def stByte (s : St) (j : Nat) : UInt8 := (stWord s (j / 4) >>> UInt32.ofNat (24 - 8 * (j % 4))).toUInt8
def digestM (s : St) : List UInt8 := (List.range 32).map (stByte s)
/-- How many zeros. -/
def padZ (n : Nat) : Nat := (119 - n % 64) % 64
def lenByte (n i : Nat) : UInt8 := UInt8.ofNat (n * 8 / 2 ^ (8 * (7 - i)))
def padTail (n : Nat) : List UInt8 := 128 :: (List.replicate (padZ n) 0 ++ (List.range 8).map (lenByte n))
def padM (l : List UInt8) : List UInt8 := l ++ padTail l.length
def shaM (l : List UInt8) : List UInt8 := digestM (blocksM St0 (padM l) ((padM l).length / 64))
theorem shaM_length (l : List UInt8) : (shaM l).length = 32 := by simp [shaM, digestM]
theorem padM_mod (l : List UInt8) : (padM l).length % 64 = 0 := by
  simp only [padM, padTail, padZ, List.length_append, List.length_cons, List.length_replicate, List.length_map, List.length_range]; omega

theorem wordAt_congr {b c : List UInt8} (h : ∀ j, j < 64 → b.getD j 0 = c.getD j 0) (t : Nat) (ht : t < 16) : wordAt b t = wordAt c t := by
  unfold wordAt; rw [h _ (by omega), h _ (by omega), h _ (by omega), h _ (by omega)]
theorem sch_congr {b c : List UInt8} (h : ∀ j, j < 64 → b.getD j 0 = c.getD j 0) (t : Nat) : sch b t = sch c t := by
  induction t with
  | zero => rfl
  | succ t ih =>
    unfold sch; rw [ih]
    split
    · rw [wordAt_congr h t (by assumption)]
    · rfl
theorem blockM_congr {b c : List UInt8} (h : ∀ j, j < 64 → b.getD j 0 = c.getD j 0) (s : St) : blockM s b = blockM s c := by
  unfold blockM
  have hw : ∀ t, wAt b t = wAt c t := fun t => by unfold wAt; rw [sch_congr h]
  have : ∀ t, rnds s b t = rnds s c t := fun t => by
    induction t with
    | zero => rfl
    | succ t ih => unfold rnds; rw [ih, hw]
  rw [this]
theorem blocksM_congr {m m' : List UInt8} (k : Nat) (h : ∀ j, j < 64 * k → m.getD j 0 = m'.getD j 0) (s : St) : blocksM s m k = blocksM s m' k := by
  induction k with
  | zero => rfl
  | succ k ih =>
    unfold blocksM
    rw [ih (fun j hj => h j (by omega))]
    apply blockM_congr
    intro j hj
    have := h (64 * k + j) (by omega)
    simpa [List.getD_eq_getElem?_getD, List.getElem?_drop] using this
theorem blocksM_add (s : St) (m : List UInt8) (i k : Nat) : blocksM s m (i + k) = blocksM (blocksM s m i) (m.drop (64 * i)) k := by
  induction k with
  | zero => rfl
  | succ k ih =>
    show blockM (blocksM s m (i + k)) (m.drop (64 * (i + k))) = blockM _ _
    rw [ih, List.drop_drop, Nat.mul_add]
theorem blocksM_zero (s : St) (m : List UInt8) : blocksM s m 0 = s := rfl
theorem blocksM_succ (s : St) (m : List UInt8) (k : Nat) : blocksM s m (k + 1) = blockM (blocksM s m k) (m.drop (64 * k)) := rfl
theorem blockM_eq (s : St) (b : List UInt8) : blockM s b = stAdd (rnds s b 64) s := rfl
theorem shaM_eq (l : List UInt8) : shaM l = digestM (blocksM St0 (padM l) ((padM l).length / 64)) := rfl
attribute [irreducible] wAt sch rnds blockM blocksM shaM
end Go.Proofs.YtljcdkfafknnpaaDoor
