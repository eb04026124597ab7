/- The walks of coin.find and slices.BinarySearchFunc at coins. Conditions: none beyond each theorem's own. -/
import Derived.Test.YtljcdkfafknnpaaDoorOrd
import Derived.Deep.DeepCutAuto
import Derived.BigQuiet
import Derived.BigRegion
namespace Go.Proofs.YtljcdkfafknnpaaDoor
set_option linter.unusedVariables false
set_option linter.unusedSimpArgs false
open Go.RowKit
attribute [local go_sem ↓] run_load_agg run_store_agg run_load_any

/-- A coin loaded whole, in a region that calls. -/
theorem quiet_loadC {C : World → Prop} {K : Act → Prop} {a : Act} {dst : Option Tmp} {x : Operand} {type : TypeId} {pos : String} {after : Array Edge} {guard : Option (Nat × Bool)} (g off : Nat) (cs : Array Value)
    (hx : a.eval x = .pointer (some ⟨g, off, none⟩)) (h : ∀ w, C w → rowAt w g off 36 = some cs) (hK : K (a.put dst (.agg cs))) :
    Oper.quiet Tryd.prog ⟨dst, .load 59 x, type, pos, after, guard⟩ a C K := by
  refine ⟨.agg cs, fun w hw => ?_, hK⟩
  have hr : rowOf w (a.eval x) (Tryd.prog.cellsOf 59) = some cs := by rw [hx, rowOf_ptr, cells_coin]; exact h w hw
  unfold Oper.quietAt
  rw [run_load_agg a.eval w dst _ x type pos after guard agg_coin (by rw [hr]; rfl), hr]
  exact ⟨rfl, rfl⟩
set_option maxHeartbeats 2000000 in
set_option maxRecDepth 100000 in
theorem find1_any (c : CoinD) (s : Value) (p : PlaceD) (h32 : c.tx.length = 32) (hp : p.tx.length = 32) (w : World) :
    Calls Tryd.prog 77 #[.agg (coinV c s), .agg (plV p)] w fun e w' => e = .returned (.int .i64 (plC c.place p)) ∧ Below w.heap.size w w' := by
  have hsp : (plV p).size = 33 := plV_size p hp
  have hsc : (coinV c s).size = 36 := coinV_size c s h32
  have HB : Hid (Below w.heap.size w ((w.alloc (.cells (coinV c s) 59)).alloc (.cells (plV p) 35))) := ((Below.refl _ _).alloc (Nat.le_refl _) _).alloc (by simp) _
  have hz1 : (w.alloc (.cells (coinV c s) 59)).heap.size = w.heap.size + 1 := by simp
  have r1 : rowAt ((w.alloc (.cells (coinV c s) 59)).alloc (.cells (plV p) 35)) w.heap.size 0 33 = some (plV c.place) := by
    rw [rowAt_alloc_past _ _ _ _ _ (by simp)]; exact (CoinAt.new w c s h32).p
  have r2 : rowAt ((w.alloc (.cells (coinV c s) 59)).alloc (.cells (plV p) 35)) (w.heap.size + 1) 0 33 = some (plV p) := by
    have := rowAt_whole (heap_alloc_new (w.alloc (.cells (coinV c s) 59)) (.cells (plV p) 35)) 33 hsp.symm
    rwa [hz1] at this
  have hc32 : c.place.tx.length = 32 := h32
  go_enter Tryd.func77, Tryd.ntmps77
  go_upto_region 1 with fail
  change Code.wp _ _ _ _ ((w.alloc (.cells (coinV c s) 59)).alloc (.cells (plV p) 35))
  generalize (w.alloc (.cells (coinV c s) 59)).alloc (.cells (plV p) 35) = wa at HB r1 r2 ⊢
  clear hz1
  go_wp2_with fail
  refine (compare_any c.place p hc32 hp wa).mono ?_
  rintro e w1 ⟨rfl, hb1⟩
  have B1 := Lib.hid (HB.out.trans (hb1.mono HB.out.size)); clear hb1 r1 r2
  go_wp2
  go_ret
  exact ⟨rfl, B1.out⟩
/-- The worlds of a region that reads a coin and a place and calls. -/
structure HeldS (w0 : World) (A ao : Nat) (c : CoinD) (s : Value) (G : Nat) (p : PlaceD) (w : World) : Prop where
  below : Below w0.heap.size w0 w
  a : rowAt w A ao 36 = some (coinV c s)
  p : rowAt w G 0 33 = some (plV p)
theorem HeldS.on {w0 : World} {A ao : Nat} {c : CoinD} {s : Value} {G : Nat} {p : PlaceD} {w w' : World} (h : HeldS w0 A ao c s G p w) (hb : Below w.heap.size w w') : HeldS w0 A ao c s G p w' :=
  ⟨h.below.trans (hb.mono h.below.size), (rowAt_below hb (rowAt_lt h.a) _ _).trans h.a, (rowAt_below hb (rowAt_lt h.p) _ _).trans h.p⟩
/-- What a search answers. -/
def SearchPost (cs : List CoinD) (p : PlaceD) (w : World) (e : Ending) (w' : World) : Prop :=
  ∃ (i : Nat) (b : Bool), e = .returned (.tuple #[.int .i64 i, .bool b]) ∧ foundAt cs p i b ∧ i ≤ cs.length ∧ Below w.heap.size w w'
theorem searchPost_mk {cs : List CoinD} {p : PlaceD} {w : World} {e : Ending} {w' : World} (i : Nat) (b : Bool) (he : e = .returned (.tuple #[.int .i64 i, .bool b])) (h1 : foundAt cs p i b) (h2 : i ≤ cs.length) (h3 : Below w.heap.size w w') : SearchPost cs p w e w' := ⟨i, b, he, h1, h2, h3⟩
set_option maxHeartbeats 4000000 in
set_option maxRecDepth 100000 in
theorem search_any (cs : List CoinD) (ao : Option Addr) (cap : Nat) (p : PlaceD) (hp : p.tx.length = 32) (w : World) (h : rdSl coinR 36 w (.slice ao cs.length cap) cs) (hn : cs.length ≤ 1000) (h32 : all32 cs) (hs : sortedC cs) :
    Calls Tryd.prog 76 #[.slice ao cs.length cap, .agg (plV p), .func (Fn.func 77) #[] #[]] w (SearchPost cs p w) := by
  obtain ⟨_, _, e, hcap, hmax⟩ := sl_bounds h
  cases e
  unfold maxLen at hmax
  have HS := Lib.hid h
  have H32 := Lib.hid h32; have HSO := Lib.hid hs
  clear h h32 hs
  have hsp : (plV p).size = 33 := plV_size p hp
  have hpp := plV_plain p
  have hb0 : Hid (Below w.heap.size w (w.alloc (.cells (plV p) 35))) := (Below.refl _ _).alloc (Nat.le_refl _) _
  have hr0 : Hid (rowAt (w.alloc (.cells (plV p) 35)) w.heap.size 0 33 = some (plV p)) := rowAt_whole (heap_alloc_new w (.cells (plV p) 35)) 33 hsp.symm
  go_enter Tryd.func76, Tryd.ntmps76
  go_wp2_with fail
  change Code.wp _ _ _ _ (w.alloc (.cells (plV p) 35))
  generalize w.alloc (.cells (plV p) 35) = wa at hb0 hr0 ⊢
  go_loopg [9, 10] cs.length (fun t a b wr => ∃ i j : Nat, a = .int .i64 i ∧ b = .int .i64 j ∧ i ≤ j ∧ j ≤ cs.length ∧ j - i ≤ t ∧ Hid (Below w.heap.size w wr) ∧ Hid (rowAt wr w.heap.size 0 33 = some (plV p)) ∧
    Hid (∀ k (hk : k < cs.length), k < i → plC cs[k].place p < 0) ∧ Hid (∀ k (hk : k < cs.length), j ≤ k → ¬ plC cs[k].place p < 0))
  case atStart => exact ⟨0, cs.length, rfl, rfl, by omega, Nat.le_refl _, by omega, hb0, hr0, Lib.hid (fun k _ h => by omega), Lib.hid (fun k hk h => by omega)⟩
  case round =>
    obtain ⟨i, j, rfl, rfl, hij, hjn, hjt, HB, HR, HLO, HHI⟩ := hrel
    by_cases hlt : i < j
    · obtain ⟨s, hs⟩ : ∃ s, i + j = s := ⟨_, rfl⟩
      obtain ⟨m, hm⟩ : ∃ m, s / 2 = m := ⟨_, rfl⟩
      have q1 : (i : Int) + (j : Int) = (s : Int) := by omega
      have q2 : (s : Int) / 2 = (m : Int) := by omega
      have q3 : (s : Int) ≤ 2000 := by omega
      have q4 : i ≤ m := by omega
      have q5 : m < j := by omega
      clear hs hm
      go_upto_region 5 with fail
      have hml : m < cs.length := by omega
      obtain ⟨g, off, so, scap, rfl, -, c32, d1, d2, hlock, hrow⟩ := coin_at (coinR_stays.slB HS.out HB.out (Nat.le_refl _)) m hml
      have HSO1 := Lib.hid (fun k (hk : k < cs.length) (hkm : k < m) => HSO.out k m hk hml hkm)
      have HSO2 := Lib.hid (fun k (hk : k < cs.length) (hkm : m < k) => HSO.out m k hml hk hkm)
      obtain ⟨c, hc⟩ : ∃ c, cs[m] = c := ⟨_, rfl⟩
      rw [hc] at c32 d1 hrow HSO1 HSO2
      have HC := Lib.hid hc
      clear hlock hc
      have HH : Hid (HeldS w g (off + m * 36) c (.slice so c.lock.length scap) w.heap.size p wr) := ⟨HB.out, hrow, HR.out⟩
      clear hrow d1 d2
      have q6 : (0 : Int) ≤ (m : Int) := by omega
      have q7 : (m : Int) < (cs.length : Int) := by omega
      refine wp_region_quiet (C := HeldS w g (off + m * 36) c (.slice so c.lock.length scap) w.heap.size p) (by kernel_rfl) (by kernel_rfl) (HH.out.on (Below.refl _ _).drew) ?_
      iterate 4 quiet_step ((intro _; with_reducible rfl))
      refine wpQuiet_step (fun K hK => ?_)
      rw [if_pos (by rfl)]
      refine quiet_loadC g (off + m * 36) _ rfl (fun w h => h.a) (hK _ ?_)
      clear hK K
      refine wpQuiet_step (fun K hK => ?_)
      rw [if_pos (by rfl)]
      refine quiet_loadP w.heap.size 0 _ rfl (fun w h => h.p) (hK _ ?_)
      clear hK K
      quiet_step ((intro hC; refine (find1_any c _ p c32 hp _).mono ?_; rintro e w9 ⟨rfl, hb9⟩; exact ⟨rfl, hC.on hb9⟩))
      quiet_step ((intro _; with_reducible rfl))
      refine wpQuiet_nil ?_
      intro w3 hw3
      have B3 := Lib.hid hw3.below; have R3 := Lib.hid hw3.p
      clear hw3
      have htr := Lib.hid (fun k (hk : k < cs.length) (h1 : plC cs[k].place c.place < 0) (h2 : plC c.place p < 0) => plC_trans cs[k].place c.place p (H32.out k hk) c32 hp h1 h2)
      have htr2 := Lib.hid (fun k (hk : k < cs.length) (h1 : plC c.place cs[k].place < 0) (h2 : plC cs[k].place p < 0) => plC_trans c.place cs[k].place p c32 (H32.out k hk) hp h1 h2)
      obtain ⟨x, hx⟩ : ∃ x, plC c.place p = x := ⟨_, rfl⟩
      rw [hx] at htr htr2 ⊢
      have HX := Lib.hid hx
      clear hx
      by_cases hneg : x < 0
      · have HLO2 : Hid (∀ k (hk : k < cs.length), k < m + 1 → plC cs[k].place p < 0) := fun k hk hkm => by
          by_cases e : k = m
          · subst e
            rw [HC.out, HX.out]; exact hneg
          · exact htr.out k hk (HSO1.out k hk (by omega)) hneg
        go_wp2_with fail
        go_roundg (j - (m + 1))
        case measure => omega
        case rel => exact ⟨m + 1, j, by go_num, rfl, by omega, by omega, by omega, B3, R3, HLO2, HHI⟩
      · have HHI2 : Hid (∀ k (hk : k < cs.length), m ≤ k → ¬ plC cs[k].place p < 0) := fun k hk hkm => by
          by_cases e : k = m
          · subst e
            rw [HC.out, HX.out]; exact hneg
          · intro h2
            exact hneg (htr2.out k hk (HSO2.out k hk (by omega)) h2)
        go_wp2_with fail
        go_roundg (m - i)
        case measure => omega
        case rel => exact ⟨i, m, rfl, rfl, by omega, by omega, by omega, B3, R3, HLO, HHI2⟩
    · have hji : j = i := by omega
      subst hji
      have HD := Lib.hid (fun (b : Bool) hb => search_done cs p H32.out HSO.out hp j HLO.out HHI.out b hb)
      by_cases hin : j < cs.length
      · obtain ⟨g, off, so, scap, rfl, -, c32, d1, d2, hlock, hrow⟩ := coin_at (coinR_stays.slB HS.out HB.out (Nat.le_refl _)) j hin
        have HD2 : Hid (∀ b : Bool, (b = true ↔ plC cs[j].place p = 0) → foundAt cs p j b) := fun b hb => HD.out b (hb.trans ⟨fun h => ⟨hin, h⟩, fun ⟨_, h⟩ => h⟩)
        obtain ⟨c, hc⟩ : ∃ c, cs[j] = c := ⟨_, rfl⟩
        rw [hc] at c32 d1 hrow HD2
        clear hlock hc
        have HH : Hid (HeldS w g (off + j * 36) c (.slice so c.lock.length scap) w.heap.size p wr) := ⟨HB.out, hrow, HR.out⟩
        clear hrow d1 d2
        have q6 : (0 : Int) ≤ (j : Int) := by omega
        have q7 : (j : Int) < (cs.length : Int) := by omega
        go_upto_region 8 with fail
        refine wp_region_quiet (C := HeldS w g (off + j * 36) c (.slice so c.lock.length scap) w.heap.size p) (by kernel_rfl) (by kernel_rfl) (HH.out.on (Below.refl _ _).drew) ?_
        iterate 9 quiet_step ((intro _; with_reducible rfl))
        refine wpQuiet_step (fun K hK => ?_)
        rw [if_pos (by rfl)]
        refine quiet_loadC g (off + j * 36) _ rfl (fun w h => h.a) (hK _ ?_)
        clear hK K
        refine wpQuiet_step (fun K hK => ?_)
        rw [if_pos (by rfl)]
        refine quiet_loadP w.heap.size 0 _ rfl (fun w h => h.p) (hK _ ?_)
        clear hK K
        quiet_step ((intro hC; refine (find1_any c _ p c32 hp _).mono ?_; rintro e w9 ⟨rfl, hb9⟩; exact ⟨rfl, hC.on hb9⟩))
        iterate 4 quiet_step ((intro _; with_reducible rfl))
        refine wpQuiet_nil ?_
        intro w3 hw3
        have B3 := Lib.hid hw3.below
        clear hw3
        obtain ⟨x, hx⟩ : ∃ x, plC c.place p = x := ⟨_, rfl⟩
        rw [hx] at HD2 ⊢
        clear hx
        go_wp2
        go_ret2
        exact searchPost_mk j (x == 0) rfl (HD2.out _ beq_iff_eq) hjn B3.out
      · have HF := Lib.hid (HD.out false ⟨(fun h => by cases h), (fun h => absurd h.1 hin)⟩)
        have q1 : decide ((j : Int) < (cs.length : Int)) = false := decide_eq_false (by omega)
        have q2 : ¬ ((j : Int) < (cs.length : Int)) := by omega
        go_upto_region 8 with fail
        go_region
        all_goals
          go_wp2
          go_ret2
          exact searchPost_mk j false rfl HF.out hjn HB.out.drew
theorem cfind_any (cs : List CoinD) (ao : Option Addr) (cap : Nat) (p : PlaceD) (hp : p.tx.length = 32) (w : World) (h : rdSl coinR 36 w (.slice ao cs.length cap) cs) (hn : cs.length ≤ 1000) (h32 : all32 cs) (hs : sortedC cs) :
    Calls Tryd.prog 50 #[.slice ao cs.length cap, .agg (plV p)] w (SearchPost cs p w) := by
  have HS := Lib.hid h
  have H32 := Lib.hid h32; have HSO := Lib.hid hs
  clear h h32 hs
  have hsp : (plV p).size = 33 := plV_size p hp
  have hpp := plV_plain p
  have hb0 : Hid (Below w.heap.size w (w.alloc (.cells (plV p) 35))) := (Below.refl _ _).alloc (Nat.le_refl _) _
  have hr0 : rowAt (w.alloc (.cells (plV p) 35)) w.heap.size 0 33 = some (plV p) := rowAt_whole (heap_alloc_new w (.cells (plV p) 35)) 33 hsp.symm
  go_enter Tryd.func50, Tryd.ntmps50
  go_upto_region 1 with fail
  change Code.wp _ _ _ _ (w.alloc (.cells (plV p) 35))
  generalize w.alloc (.cells (plV p) 35) = wa at hb0 hr0 ⊢
  go_wp2_with fail
  refine (search_any cs ao cap p hp wa (coinR_stays.slB HS.out hb0.out (Nat.le_refl _)) hn H32.out HSO.out).mono ?_
  rintro e w1 ⟨i, b, rfl, hf, hin, hb1⟩
  have B1 := Lib.hid (hb0.out.trans (hb1.mono hb0.out.size)); have HF := Lib.hid hf
  clear hb1 hf hr0
  go_wp2
  go_ret2
  exact searchPost_mk i b rfl HF.out hin B1.out
end Go.Proofs.YtljcdkfafknnpaaDoor
