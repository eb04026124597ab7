/- The walk of sha's block. -/
import Derived.Test.YtamjldakllafcaaDoorShaW
import Derived.Test.YtamjldakllafcaaDoorTy
import Derived.BigRegion
import Derived.BigQuiet
import Derived.Deep.QuietTactic
import Derived.StillTailTactics
import Derived.RegionTactic
namespace Go.Proofs.YtamjldakllafcaaDoor
set_option linter.unusedVariables false
set_option linter.unusedSimpArgs false
open Go.RowKit
attribute [local go_sem ↓] run_load_agg run_store_agg

def vB (x : UInt8) : Value := .int .u8 (bv x)
def vW (x : UInt32) : Value := .int .u32 (wv x)
def kV : Array Value := (kTab.map vW).toArray
/-- The table of rounds lies as it was laid. -/
def tabAt (w : World) : Prop := rowAt w 0 0 64 = some kV
/-- 64 words: those of a list, then zeros. -/
def schV (l : List UInt32) : Array Value := ((List.range 64).map fun j => vW (l.getD j 0)).toArray
theorem schV_size (l : List UInt32) : (schV l).size = 64 := by simp [schV]
theorem schV_get (l : List UInt32) (j : Nat) (h : j < 64) : (schV l)[j]? = some (.int .u32 (wv (l.getD j 0))) := by
  simp [schV, List.getElem?_range h, vW]
theorem schV_set (l : List UInt32) (x : UInt32) : (schV l).setIfInBounds l.length (.int .u32 (wv x)) = schV (l ++ [x]) := by
  apply Array.ext
  · simp [schV_size]
  · intro i h1 h2
    simp only [schV_size] at h2
    have e := schV_get (l ++ [x]) i h2
    rw [Array.getElem?_eq_getElem (by rw [schV_size]; exact h2)] at e
    rw [Option.some.inj e, Array.getElem_setIfInBounds (by rw [schV_size]; exact h2)]
    split
    · rename_i hi; subst hi; simp
    · rename_i hi
      have e := schV_get l i h2
      rw [Array.getElem?_eq_getElem (by rw [schV_size]; exact h2)] at e
      rw [Option.some.inj e]
      by_cases hl : i < l.length
      · simp [List.getD_eq_getElem?_getD, List.getElem?_append_left hl]
      · rw [List.getD_eq_getElem?_getD, List.getD_eq_getElem?_getD, List.getElem?_eq_none (by omega), List.getElem?_eq_none (by simp; omega)]

def zstV : Array Value := #[.int .u32 0, .int .u32 0, .int .u32 0, .int .u32 0, .int .u32 0, .int .u32 0, .int .u32 0, .int .u32 0]
def schZ : Array Value := #[.int .u32 0, .int .u32 0, .int .u32 0, .int .u32 0, .int .u32 0, .int .u32 0, .int .u32 0, .int .u32 0, .int .u32 0, .int .u32 0, .int .u32 0, .int .u32 0, .int .u32 0, .int .u32 0, .int .u32 0, .int .u32 0, .int .u32 0, .int .u32 0, .int .u32 0, .int .u32 0, .int .u32 0, .int .u32 0, .int .u32 0, .int .u32 0, .int .u32 0, .int .u32 0, .int .u32 0, .int .u32 0, .int .u32 0, .int .u32 0, .int .u32 0, .int .u32 0, .int .u32 0, .int .u32 0, .int .u32 0, .int .u32 0, .int .u32 0, .int .u32 0, .int .u32 0, .int .u32 0, .int .u32 0, .int .u32 0, .int .u32 0, .int .u32 0, .int .u32 0, .int .u32 0, .int .u32 0, .int .u32 0, .int .u32 0, .int .u32 0, .int .u32 0, .int .u32 0, .int .u32 0, .int .u32 0, .int .u32 0, .int .u32 0, .int .u32 0, .int .u32 0, .int .u32 0, .int .u32 0, .int .u32 0, .int .u32 0, .int .u32 0, .int .u32 0]
theorem schZ_eq : schZ = schV [] := by rfl
/-- The call's own blocks: the state that came, the answer's, the words. -/
structure BlkI (w : World) (s : St) (l : List UInt32) (wr : World) : Prop where
  below : Below w.heap.size w wr
  s0 : wr.heap[w.heap.size]? = some (.cells (stV s) 69 (0, 0))
  r0 : wr.heap[w.heap.size + 1]? = some (.cells zstV 69 (0, 0))
  w0 : wr.heap[w.heap.size + 2]? = some (.cells (schV l) 96 (0, 0))
theorem BlkI.set {w : World} {s : St} {l : List UInt32} {wr : World} (h : BlkI w s l wr) (x : UInt32) : BlkI w s (l ++ [x]) (wr.setCell ⟨w.heap.size + 2, l.length, none⟩ (.int .u32 (wv x))) :=
  ⟨h.below.setCell (by simp) _, by rw [Below.heap_setCell _ _ _ _ (by simp)]; exact h.s0, by rw [Below.heap_setCell _ _ _ _ (by simp)]; exact h.r0,
    by rw [heap_setCell_same _ _ _ _ _ _ h.w0, schV_set]⟩

theorem blkI_start (w : World) (s : St) (b : List UInt8) : BlkI w s (sch b 0) (((w.alloc (.cells (stV s) 69)).alloc (.cells zstV 69)).alloc (.cells schZ 96)) := by
  rw [sch_zero]
  refine ⟨(((Below.refl _ _).alloc (Nat.le_refl _) _).alloc (by simp) _).alloc (by simp; omega) _, ?_, ?_, ?_⟩
  · rw [Below.heap_alloc _ _ _ (by simp; omega), Below.heap_alloc _ _ _ (by simp)]; exact heap_alloc_new _ _
  · rw [Below.heap_alloc _ _ _ (by simp)]; have := heap_alloc_new (w.alloc (.cells (stV s) 69)) (.cells zstV 69); simpa using this
  · have := heap_alloc_new ((w.alloc (.cells (stV s) 69)).alloc (.cells zstV 69)) (.cells schZ 96); rw [← schZ_eq]; simpa using this

theorem BlkI.drew {w : World} {s : St} {l : List UInt32} {wr : World} (h : BlkI w s l wr) : BlkI w s l wr.drew := ⟨h.below.drew, h.s0, h.r0, h.w0⟩
theorem BlkI.drewN {w : World} {s : St} {l : List UInt32} {wr : World} (h : BlkI w s l wr) (n : Nat) : BlkI w s l (wr.drewN n) := ⟨below_drewN h.below n, h.s0, h.r0, h.w0⟩
theorem BlkI.next {w : World} {s : St} {l l' : List UInt32} {wr : World} (h : BlkI w s l wr) {k : Nat} (hk : l.length = k) {E : Int} {x : UInt32} (hE : E = wv x) (hl : l' = l ++ [x]) :
    BlkI w s l' (wr.setCell ⟨w.heap.size + 1 + 1, k, none⟩ (.int .u32 E)) := by
  subst hk; subst hE; subst hl; exact h.set x
theorem word_val (x y z t : UInt8) : bits .or .u32 (bits .or .u32 (bits .or .u32 (bv x % 4294967296 * 16777216 % 4294967296) (bv y % 4294967296 * 65536 % 4294967296)) (bv z % 4294967296 * 256 % 4294967296)) (bv t % 4294967296) =
    wv ((((x.toUInt32 <<< 24) ||| (y.toUInt32 <<< 16)) ||| (z.toUInt32 <<< 8)) ||| t.toUInt32) := by
  have hm : ∀ b : UInt8, bv b % 4294967296 = wv b.toUInt32 := fun b => by
    have h1 := bv_nonneg b; have h2 := bv_lt b
    rw [← wv_byte]; omega
  have hs : ∀ (b : UInt32) (k : Nat), k < 32 → wv b * (2 ^ k : Nat) % 4294967296 = wv (b <<< UInt32.ofNat k) := fun b k hk => by
    rw [← wv_shl b k hk, IntKind.wrap_u32']
  have e1 := hs x.toUInt32 24 (by decide)
  have e2 := hs y.toUInt32 16 (by decide)
  have e3 := hs z.toUInt32 8 (by decide)
  rw [hm, hm, hm, hm]
  rw [show wv x.toUInt32 * 16777216 % 4294967296 = _ from e1, show wv y.toUInt32 * 65536 % 4294967296 = _ from e2, show wv z.toUInt32 * 256 % 4294967296 = _ from e3, wv_or, wv_or, wv_or]
  rfl
theorem wv_add' (a b : UInt32) : (wv a + wv b) % 4294967296 = wv (a + b) := by rw [← wv_add, IntKind.wrap_u32']
theorem wv_shr3 (x : UInt32) : wv x / (8 : Int) = wv (x >>> 3) := by have := wv_shr x 3 (by decide); simpa using this
theorem wv_shr10 (x : UInt32) : wv x / (1024 : Int) = wv (x >>> 10) := by have := wv_shr x 10 (by decide); simpa using this

/-- In the rounds: the working state in a block of its own. -/
structure BlkJ (w : World) (C : Nat) (s : St) (l : List UInt32) (vs : Array Value) (wr : World) : Prop where
  i : BlkI w s l wr
  lt : w.heap.size + 2 < C
  v0 : wr.heap[C]? = some (.cells vs 69 (0, 0))
theorem BlkJ.drew {w : World} {C : Nat} {s : St} {l : List UInt32} {vs : Array Value} {wr : World} (h : BlkJ w C s l vs wr) : BlkJ w C s l vs wr.drew := ⟨h.i.drew, h.lt, h.v0⟩
theorem BlkJ.drewN {w : World} {C : Nat} {s : St} {l : List UInt32} {vs : Array Value} {wr : World} (h : BlkJ w C s l vs wr) (n : Nat) : BlkJ w C s l vs (wr.drewN n) := ⟨h.i.drewN n, h.lt, h.v0⟩
theorem BlkJ.put {w : World} {C : Nat} {s : St} {l : List UInt32} {vs : Array Value} {wr : World} (h : BlkJ w C s l vs wr) (vs' : Array Value) (hs : vs.size = vs'.size) : BlkJ w C s l vs' (putAt wr C 0 vs') := by
  have hl := h.lt
  refine ⟨⟨putAt_below h.i.below (by omega) _ _, ?_, ?_, ?_⟩, h.lt, putAt_heap h.v0 vs' hs⟩
  · rw [putAt_other _ _ _ _ _ (by omega)]; exact h.i.s0
  · rw [putAt_other _ _ _ _ _ (by omega)]; exact h.i.r0
  · rw [putAt_other _ _ _ _ _ (by omega)]; exact h.i.w0
theorem BlkJ.set {w : World} {C : Nat} {s : St} {l : List UInt32} {vs : Array Value} {wr : World} (h : BlkJ w C s l vs wr) (k : Nat) (u : Value) : BlkJ w C s l (vs.setIfInBounds k u) (wr.setCell ⟨C, k, none⟩ u) := by
  have hl := h.lt
  refine ⟨⟨h.i.below.setCell (by simp; omega) _, ?_, ?_, ?_⟩, h.lt, heap_setCell_same _ _ _ _ _ _ h.v0⟩
  · rw [Below.heap_setCell _ _ _ _ (by simp; omega)]; exact h.i.s0
  · rw [Below.heap_setCell _ _ _ _ (by simp; omega)]; exact h.i.r0
  · rw [Below.heap_setCell _ _ _ _ (by simp; omega)]; exact h.i.w0
theorem BlkI.start {w : World} {s : St} {l : List UInt32} {wr : World} (h : BlkI w s l wr) (vs : Array Value) : BlkJ w wr.heap.size s l vs (wr.alloc (.cells vs 69)) := by
  have hl : w.heap.size + 2 < wr.heap.size := (Array.getElem?_eq_some_iff.1 h.w0).1
  refine ⟨⟨h.below.alloc (by omega) _, ?_, ?_, ?_⟩, hl, heap_alloc_new _ _⟩
  · rw [Below.heap_alloc _ _ _ (by omega)]; exact h.s0
  · rw [Below.heap_alloc _ _ _ (by omega)]; exact h.r0
  · rw [Below.heap_alloc _ _ _ (by omega)]; exact h.w0
/-- While the old state is added: the first k words are done. -/
def mixV (v s : St) (k : Nat) : Array Value := ((List.range 8).map fun j => vW (if j < k then stWord v j + stWord s j else stWord v j)).toArray
theorem mixV_size (v s : St) (k : Nat) : (mixV v s k).size = 8 := by simp [mixV]
theorem mixV_zero (v s : St) : mixV v s 0 = stV v := by
  simp [mixV, List.range, List.range.loop, stV, stWord, vW]
theorem mixV_done (v s : St) : mixV v s 8 = stV (stAdd v s) := by
  simp [mixV, List.range, List.range.loop, stV, stWord, vW, stAdd]
theorem mixV_get (v s : St) (k j : Nat) (h : j < 8) : (mixV v s k)[j]? = some (.int .u32 (wv (if j < k then stWord v j + stWord s j else stWord v j))) := by
  simp [mixV, List.getElem?_range h, vW]
theorem mixV_set (v s : St) (k : Nat) : (mixV v s k).setIfInBounds k (.int .u32 (wv (stWord v k + stWord s k))) = mixV v s (k + 1) := by
  apply Array.ext
  · simp [mixV_size]
  · intro i h1 h2
    simp only [mixV_size] at h2
    have e := mixV_get v s (k + 1) i h2
    rw [Array.getElem?_eq_getElem (by rw [mixV_size]; exact h2)] at e
    rw [Option.some.inj e, Array.getElem_setIfInBounds (by rw [mixV_size]; exact h2)]
    split
    · rename_i hi; subst hi; simp
    · rename_i hi
      have e := mixV_get v s k i h2
      rw [Array.getElem?_eq_getElem (by rw [mixV_size]; exact h2)] at e
      rw [Option.some.inj e]
      by_cases hl : i < k
      · simp [hl, show i < k + 1 by omega]
      · simp [hl, show ¬ i < k + 1 by omega]
theorem stV_get (s : St) (j : Nat) (h : j < 8) : (stV s)[j]? = some (.int .u32 (wv (stWord s j))) := by
  rw [← mixV_zero s s, mixV_get s s 0 j h]; simp

theorem kV_get (t : Nat) (h : t < 64) : kV[t]? = some (.int .u32 (wv (kTab.getD t 0))) := by
  have : t < kTab.length := by have : kTab.length = 64 := by decide
                               omega
  simp [kV, List.getD_eq_getElem?_getD, List.getElem?_eq_getElem this, vW]
theorem index_kV (t : Nat) (h : t < 64) (w : World) : (Instr.index 96 (.agg kV) (.int .i64 (t : Int))).run Tryd.prog w = .ok (.int .u32 (wv (kTab.getD t 0))) w := by
  have hk := kV_get t h
  have h1 : (0 : Int) ≤ t := by omega
  have h2 : (t : Int) < 64 := by omega
  simp [Instr.index, go_sem, h1, hk]
  intro h3; omega

set_option maxHeartbeats 2000000 in
set_option maxRecDepth 100000 in
theorem block_any (s : St) (b : List UInt8) (v : Value) (n : Nat) (w : World) (hn : 64 ≤ n) (hl : b.length = n) (hb : rd w v n (b.map vB)) (hT : tabAt w) :
    Calls Tryd.prog 63 #[.agg (stV s), v] w fun e w' => e = .returned (.agg (stV (blockM s b))) ∧ Below w.heap.size w w' := by
  obtain ⟨ao, cap, rfl, h1, h2, h3⟩ := hb
  rcases h3 with h3 | ⟨g, off, rfl, h3⟩
  · exfalso; have h5 : b = [] := List.map_eq_nil_iff.1 h3; subst h5; simp at hl; omega
  have hcell : ∀ j, j < n → w.cell? ⟨g, off + j, none⟩ = some (.int .u8 (bv (b.getD j 0))) := fun j hj => by
    apply h3; simp [List.getD_eq_getElem?_getD, List.getElem?_eq_getElem (show j < b.length by omega), vB]
  have HC := Lib.hid hcell; clear hcell h3 hl
  have HT := Lib.hid hT; clear hT
  unfold maxLen at h2
  go_enter Tryd.func63, Tryd.ntmps63
  go_wp2
  go_loopw [20] (fun i wr => ∃ k : Nat, k ≤ 16 ∧ i = .int .i64 k ∧ BlkI w s (sch b k) wr) (fun i _ => 16 - (intOf i).toNat)
  case atStart => exact ⟨0, by omega, rfl, blkI_start w s b⟩
  case round =>
    obtain ⟨k, hk, rfl, hI⟩ := hrel
    by_cases hlt : k < 16
    · as_aux_lemma =>
        have HI := Lib.hid hI
        have hc : ∀ j, j < n → wr.cell? ⟨g, off + j, none⟩ = some (.int .u8 (bv (b.getD j 0))) := fun j hj => (hI.below.cell (World.block_lt_of_cell? w _ (HC.out j hj))).trans (HC.out j hj)
        have hc0 := hc (4 * k) (by omega)
        have hc1 := hc (4 * k + 1) (by omega)
        have hc2 := hc (4 * k + 2) (by omega)
        have hc3 := hc (4 * k + 3) (by omega)
        have hw : wordAt b k = wordAt b k := rfl
        conv at hw => rhs; unfold wordAt
        have HW := Lib.hid hw; clear hw
        generalize b.getD (4 * k) 0 = y0 at hc0 HW
        generalize b.getD (4 * k + 1) 0 = y1 at hc1 HW
        generalize b.getD (4 * k + 2) 0 = y2 at hc2 HW
        generalize b.getD (4 * k + 3) 0 = y3 at hc3 HW
        have hd : wr.cell? ⟨w.heap.size + 1 + 1, k, none⟩ = some (.int .u32 (wv ((sch b k).getD k 0))) := by
          rw [show w.heap.size + 1 + 1 = w.heap.size + 2 from rfl, cell_of_row _ _ _ _ _ _ hI.w0, schV_get _ _ (by omega)]
        have hf : wr.frozen? ⟨w.heap.size + 1 + 1, k, none⟩ = false := frozen_of_row _ _ _ _ _ hI.w0
        clear hI hc
        go_wp2_with fail
        go_region
        go_wp2
        go_roundw
        case rel => exact ⟨k + 1, by omega, by go_num, (HI.out.next (sch_length b k) ((word_val y0 y1 y2 y3).trans (congrArg wv HW.out.symm)) (sch_low b k hlt)).drew⟩
        case measure => simp [intOf]; omega
    · have hI : BlkI w s (sch b 16) wr := by obtain rfl : k = 16 := by omega
                                             exact hI
      go_wp2
      go_loopw [7] (fun i wr => ∃ m : Nat, m ≤ 48 ∧ i = .int .i64 (m + 16) ∧ BlkI w s (sch b (m + 16)) wr) (fun i _ => 64 - (intOf i).toNat)
      case atStart => exact ⟨0, by omega, rfl, hI⟩
      case round =>
        obtain ⟨m, hm, rfl, hI⟩ := hrel
        by_cases hlt2 : m < 48
        · as_aux_lemma =>
            have HI := Lib.hid hI
            have hc : ∀ j, j < m + 16 → wr.cell? ⟨w.heap.size + 1 + 1, j, none⟩ = some (.int .u32 (wv (wAt b j))) := fun j hj => by
              rw [show w.heap.size + 1 + 1 = w.heap.size + 2 from rfl, cell_of_row _ _ _ _ _ _ hI.w0, schV_get _ _ (by omega), sch_getD_wAt b _ _ hj (by omega)]
            have hc15 := hc (m + 1) (by omega)
            have hc2 := hc (m + 14) (by omega)
            have hc7 := hc (m + 9) (by omega)
            have hc16 := hc m (by omega)
            have hw := wAt_high b (m + 16) (by omega) (by omega)
            rw [show m + 16 - 2 = m + 14 from by omega, show m + 16 - 7 = m + 9 from by omega, show m + 16 - 15 = m + 1 from by omega, show m + 16 - 16 = m from by omega] at hw
            have HW := Lib.hid hw; clear hw
            generalize wAt b (m + 1) = x15 at hc15 HW
            generalize wAt b (m + 14) = x2 at hc2 HW
            generalize wAt b (m + 9) = x7 at hc7 HW
            generalize wAt b m = x16 at hc16 HW
            have hd : wr.cell? ⟨w.heap.size + 1 + 1, m + 16, none⟩ = some (.int .u32 (wv ((sch b (m + 16)).getD (m + 16) 0))) := by
              rw [show w.heap.size + 1 + 1 = w.heap.size + 2 from rfl, cell_of_row _ _ _ _ _ _ hI.w0, schV_get _ _ (by omega)]
            generalize (sch b (m + 16)).getD (m + 16) 0 = z at hd
            have hf : wr.frozen? ⟨w.heap.size + 1 + 1, m + 16, none⟩ = false := frozen_of_row _ _ _ _ _ hI.w0
            have hx := wv_xor
            have ha := wv_add'
            have h3 := wv_shr3
            have h10 := wv_shr10
            clear hI hc
            clear hk hlt
            go_wp2_with fail
            go_quiet (fail)
            go_wp2_with fail
            refine (rotl_any x15 7 _ (by decide) (by decide) (by decide) _).mono ?_
            rintro e w' ⟨rfl, rfl⟩
            go_wp2_with fail
            refine (rotl_any x15 18 _ (by decide) (by decide) (by decide) _).mono ?_
            rintro e w' ⟨rfl, rfl⟩
            go_wp2_with fail
            refine (rotl_any x2 17 _ (by decide) (by decide) (by decide) _).mono ?_
            rintro e w' ⟨rfl, rfl⟩
            go_wp2_with fail
            refine (rotl_any x2 19 _ (by decide) (by decide) (by decide) _).mono ?_
            rintro e w' ⟨rfl, rfl⟩
            go_wp2_with fail
            go_region
            go_wp2
            go_roundw
            case rel => exact ⟨m + 1, by omega, by go_num, (((HI.out.drewN nq).next (sch_length b (m + 16)) (congrArg wv HW.out.symm) (by rw [show m + 1 + 16 = (m + 16) + 1 from by omega]; exact sch_wAt b (m + 16) (by omega))).drew)⟩
            case measure => simp [intOf]; omega
        · have hI : BlkI w s (sch b 64) wr := by obtain rfl : m = 48 := by omega
                                                 exact hI
          clear hm
          have HI := Lib.hid hI
          have ht : rowAt wr 0 0 64 = some kV := (rowAt_below hI.below (rowAt_lt HT.out) 0 64).trans HT.out
          have hg0 : 0 < wr.heap.size := rowAt_lt ht
          have hs0 : rowAt wr w.heap.size 0 8 = some (stV s) := rowAt_whole hI.s0 8 rfl
          have hlt : w.heap.size < wr.heap.size := rowAt_lt hs0
          clear hI
          go_wp2
          obtain ⟨w2, rfl⟩ : ∃ w2 : World, w2 = wr := ⟨_, rfl⟩
          clear ht hs0 hg0
          go_loopw [104] (fun i wq => ∃ t : Nat, t ≤ 64 ∧ i = .int .i64 t ∧ BlkJ w w2.heap.size s (sch b 64) (stV (rnds s b t)) wq) (fun i _ => 64 - (intOf i).toNat)
          case atStart => exact ⟨0, by omega, rfl, by rw [rnds_zero]; exact HI.out.start (stV s)⟩
          case round =>
            obtain ⟨t, ht64, rfl, hJ⟩ := hrel
            by_cases hlt3 : t < 64
            · have HJ := Lib.hid hJ
              have hw : wr.cell? ⟨w.heap.size + 1 + 1, t, none⟩ = some (.int .u32 (wv (wAt b t))) := by
                rw [show w.heap.size + 1 + 1 = w.heap.size + 2 from rfl, cell_of_row _ _ _ _ _ _ hJ.i.w0, schV_get _ _ hlt3, sch_getD_wAt b _ _ hlt3 (by omega)]
              have hix := fun wz => index_kV t hlt3 wz
              have HR := Lib.hid (rnds_succ s b t)
              have hv : ∀ j, j < 8 → wr.cell? ⟨w2.heap.size, j, none⟩ = some (.int .u32 (wv (stWord (rnds s b t) j))) := fun j hj => by
                rw [cell_of_row _ _ _ _ _ _ hJ.v0, stV_get _ j hj]
              have hv0 : wr.cell? ⟨w2.heap.size, 0, none⟩ = some (.int .u32 (wv (rnds s b t).a)) := hv 0 (by omega)
              have hv1 : wr.cell? ⟨w2.heap.size, 1, none⟩ = some (.int .u32 (wv (rnds s b t).b)) := hv 1 (by omega)
              have hv2 : wr.cell? ⟨w2.heap.size, 2, none⟩ = some (.int .u32 (wv (rnds s b t).c)) := hv 2 (by omega)
              have hv3 : wr.cell? ⟨w2.heap.size, 3, none⟩ = some (.int .u32 (wv (rnds s b t).d)) := hv 3 (by omega)
              have hv4 : wr.cell? ⟨w2.heap.size, 4, none⟩ = some (.int .u32 (wv (rnds s b t).e)) := hv 4 (by omega)
              have hv5 : wr.cell? ⟨w2.heap.size, 5, none⟩ = some (.int .u32 (wv (rnds s b t).f)) := hv 5 (by omega)
              have hv6 : wr.cell? ⟨w2.heap.size, 6, none⟩ = some (.int .u32 (wv (rnds s b t).g)) := hv 6 (by omega)
              have hv7 : wr.cell? ⟨w2.heap.size, 7, none⟩ = some (.int .u32 (wv (rnds s b t).h)) := hv 7 (by omega)
              have hrow : (rowAt wr w2.heap.size 0 8).isSome = true := by rw [rowAt_whole hJ.v0 8 (stV_size _).symm]; rfl
              have hwr : wrAt wr w2.heap.size = true := wrAt_of_heap hJ.v0
              generalize rnds s b t = V at *
              generalize wAt b t = x at *
              generalize kTab.getD t 0 = kt at *
              clear hJ hv
              have hx := wv_xor
              have ha := wv_add'
              have hn' := wv_not
              have hmx : IntKind.u32.max = 4294967295 := by decide
              have hsg : IntKind.u32.signed = false := rfl
              have hand := wv_and
              clear hI hlt
              go_wp2_with fail
              go_quiet (fail)
              go_wp2_with fail
              go_quiet ((go_at_call 71; first | exact quiet_add (turned_1 V.e _) | exact quiet_left (turned_1 V.e _)))
              go_wp2_with fail
              go_quiet ((go_at_call 71; first | exact quiet_add (turned_0 V.a _) | exact quiet_left (turned_0 V.a _)))
              go_wp2
              go_roundw
              case rel => exact ⟨t + 1, by omega, by go_num, by rw [HR.out]; exact (HJ.out.put (stV (rnd V kt x)) ((stV_size _).trans (stV_size _).symm)).drewN _⟩
              case measure => simp [intOf]; omega
            · have hJ : BlkJ w w2.heap.size s (sch b 64) (mixV (rnds s b 64) s 0) wr := by
                obtain rfl : t = 64 := by omega
                rw [mixV_zero]; exact hJ
              clear ht64
              have HJ := Lib.hid hJ; clear hJ
              have HE := Lib.hid (blockM_eq s b)
              generalize rnds s b 64 = V at *
              go_wp2
              obtain ⟨w3, rfl⟩ : ∃ w3 : World, w3 = wr := ⟨_, rfl⟩
              go_loopw [171] (fun i wq => ∃ k : Nat, k ≤ 8 ∧ i = .int .i64 k ∧ BlkJ w w2.heap.size s (sch b 64) (mixV V s k) wq) (fun i _ => 8 - (intOf i).toNat)
              case atStart => exact ⟨0, by omega, rfl, HJ.out⟩
              case round =>
                obtain ⟨q, hq8, rfl, hJ⟩ := hrel
                by_cases hlt4 : q < 8
                · as_aux_lemma =>
                    have HK := Lib.hid hJ
                    have hcv : wr.cell? ⟨w2.heap.size, q, none⟩ = some (.int .u32 (wv (stWord V q))) := by
                      rw [cell_of_row _ _ _ _ _ _ hJ.v0, mixV_get _ _ _ _ hlt4, if_neg (by omega)]
                    have hcs : wr.cell? ⟨w.heap.size, q, none⟩ = some (.int .u32 (wv (stWord s q))) := by
                      rw [cell_of_row _ _ _ _ _ _ hJ.i.s0, stV_get _ _ hlt4]
                    have hf : wr.frozen? ⟨w2.heap.size, q, none⟩ = false := frozen_of_row _ _ _ _ _ hJ.v0
                    have HM := Lib.hid (mixV_set V s q)
                    have ha := wv_add'
                    generalize stWord V q = x1 at *
                    generalize stWord s q = x2 at *
                    clear hJ
                    go_wp2_with fail
                    go_region
                    go_wp2
                    go_roundw
                    case rel => exact ⟨q + 1, by omega, by go_num, by rw [← HM.out]; exact (HK.out.set q _).drew⟩
                    case measure => simp [intOf]; omega
                · have hJ : BlkJ w w2.heap.size s (sch b 64) (stV (blockM s b)) wr := by
                    obtain rfl : q = 8 := by omega
                    rw [HE.out, ← mixV_done]; exact hJ
                  have hr : rowAt wr w2.heap.size 0 8 = some (stV (blockM s b)) := rowAt_whole hJ.v0 8 (stV_size _).symm
                  have hr1 : (rowAt wr (w.heap.size + 1) 0 8).isSome = true := by rw [rowAt_whole hJ.i.r0 8 rfl]; rfl
                  have hr2 : wrAt wr (w.heap.size + 1) = true := wrAt_of_heap hJ.i.r0
                  have HJ2 := Lib.hid hJ; clear hJ
                  clear hq8
                  go_wp2
                  refine bodyPost_ret (v := .agg (stV (blockM s b))) (results_cell_at rfl _ _ (w.heap.size + 1) 0 _ rfl agg_state ?_) rfl ⟨rfl, ?_⟩
                  · rw [cells_state]; exact rowAt_put_same HJ2.out.i.r0 (stV (blockM s b)) (stV_size (blockM s b)).symm 8 (stV_size (blockM s b)).symm
                  · exact putAt_below HJ2.out.i.below (by omega) _ _
end Go.Proofs.YtamjldakllafcaaDoor
