/- The walk of coin.Find. Conditions: none beyond each theorem's own. -/
import Derived.Test.YtljcdkfafknnpaaDoorCpc
import Derived.Test.YtljcdkfafknnpaaDoorSrch
import Derived.Test.YtljcdkfafknnpaaDoorSetc
namespace Go.Proofs.YtljcdkfafknnpaaDoor
set_option linter.unusedVariables false
set_option linter.unusedSimpArgs false
open Go.RowKit
attribute [local go_sem ↓] run_load_agg run_store_agg run_load_any

theorem rdSl_one {α : Type} {R : Rd α} {sz : Nat} {w : World} {g off n cap : Nat} {zs : List α} (h : rdSl R sz w (.slice (some ⟨g, off, none⟩) n cap) zs) (hsz : 0 < sz) (i : Nat) (hi : i < zs.length) : rdSl R sz w (.slice (some ⟨g, off + i * sz, none⟩) 1 (cap - i)) [zs[i]] := by
  obtain ⟨xs, ⟨ao, cap', e, h1, h2, h3⟩, h4, h5⟩ := h
  cases e
  have hle : i * sz + sz ≤ zs.length * sz := by
    have := Nat.mul_le_mul_right sz (show i + 1 ≤ zs.length from hi)
    rw [Nat.add_mul] at this; omega
  refine ⟨(xs.drop (i * sz)).take sz, ⟨_, _, rfl, by simp; omega, by omega, ?_⟩, by simp; omega, fun j a ha => ?_⟩
  · rcases h3 with h3 | ⟨g', off', e2, h3⟩
    · subst h3; simp at h4; omega
    · cases e2
      refine .inr ⟨g, off + i * sz, rfl, fun j u hj => ?_⟩
      rw [List.getElem?_take] at hj
      split at hj
      · rw [List.getElem?_drop] at hj
        have := h3 _ _ hj
        rwa [Nat.add_assoc]
      · cases hj
  · have hj0 : j = 0 := by
      have := (List.getElem?_eq_some_iff.1 ha).1
      simp at this; omega
    subst hj0
    have hz : zs[i] = a := by simpa using ha
    subst hz
    have := h5 i zs[i] (List.getElem?_eq_getElem hi)
    rw [Nat.zero_mul, List.drop_zero, List.take_take, Nat.min_self]
    exact this
/-- What Find answers. -/
def FindPost (cs : List CoinD) (p : PlaceD) (w : World) (e : Ending) (w' : World) : Prop :=
  Below w.heap.size w w' ∧
  ((setF cs ≠ 0 ∧ e = .returned (.tuple #[.agg zCoin, errV (setF cs)])) ∨
   (setF cs = 0 ∧ atF p cs 0 = -1 ∧ e = .returned (.tuple #[.agg zCoin, errV 5])) ∨
   (∃ (i : Nat) (hi : i < cs.length) (so : Option Addr) (cap : Nat), setF cs = 0 ∧ atF p cs 0 = i ∧ e = .returned (.tuple #[.agg (coinV cs[i] (.slice so cs[i].lock.length cap)), errV 0]) ∧ rdSl opR 3 w' (.slice so cs[i].lock.length cap) cs[i].lock))
theorem all32_of {cs : List CoinD} {w : World} {ao : Option Addr} {cap : Nat} (h : rdSl coinR 36 w (.slice ao cs.length cap) cs) : all32 cs := fun i hi => by
  obtain ⟨_, _, _, _, _, _, h32, -⟩ := coin_at h i hi
  exact h32
theorem locks_of {cs : List CoinD} (h : setF cs = 0) : ∀ c ∈ cs, lockF c.lock = 0 := by
  intro c hc
  obtain ⟨k, hk, rfl⟩ := List.mem_iff_getElem.1 hc
  obtain ⟨-, h2⟩ := (setF_zero cs h).2 k hk
  rw [List.getD_eq_getElem?_getD, List.getElem?_eq_getElem hk, Option.getD_some] at h2
  unfold coinF at h2
  split at h2
  · cases h2
  · exact h2
theorem opO_kept {w w' : World} {base : Nat} (hk : ∀ k, base ≤ k → k < w.heap.size → w'.heap[k]? = w.heap[k]?) {o : OpD} {cs : List Value} (h : opO base w o cs) : opO base w' o cs := by
  obtain ⟨s, h1, h2⟩ := h
  exact ⟨s, h1, own_kept h2 fun k _ hb hlt => hk k hb hlt⟩
theorem coinO_kept {w w' : World} {base : Nat} (hk : ∀ k, base ≤ k → k < w.heap.size → w'.heap[k]? = w.heap[k]?) {c : CoinD} {cs : List Value} (h : coinO base w c cs) : coinO base w' c cs := by
  obtain ⟨s, ys, h1, h2, h3, h4⟩ := h
  exact ⟨s, ys, h1, h2, own_kept h3 fun k _ hb hlt => hk k hb hlt, rdEach_map h4 (fun a cs ha => opO_kept hk ha)⟩
/-- The one coin that Copy answers: where it lies, and that its lock is of the call's own. -/
theorem one_coin {w : World} {base : Nat} {v : Value} {c : CoinD} {xs : List Value} (h : own w base 59 36 v 1 xs) (he : rdEach (coinO base) 36 w [c] xs) :
    ∃ g off so ocap scap, v = .slice (some ⟨g, off, none⟩) 1 ocap ∧ c.tx.length = 32 ∧ rowAt w g (off + 0 * 36) 36 = some (coinV c (.slice so c.lock.length scap)) ∧ 1 ≤ ocap ∧ ocap ≤ 2 ^ 63 - 1 ∧
      ∀ w' : World, (∀ k, base ≤ k → k < w.heap.size → w'.heap[k]? = w.heap[k]?) → rdSl opR 3 w' (.slice so c.lock.length scap) c.lock := by
  have h' := h
  obtain ⟨-, oo, ocap, rfl, o1, o2, -⟩ := h'
  unfold maxLen at o2
  have hr : rdSl (coinO base) 36 w (.slice oo 1 ocap) [c] := ⟨xs, own_rd h, he⟩
  obtain ⟨g, off, cap', cs, e, hR, hl, hrow⟩ := rdSl_row hr (by decide) 0 c rfl
  cases e
  obtain ⟨s, ys, e1, h2, h3, h4⟩ := hR
  have h3' := h3
  obtain ⟨-, so, scap, rfl, -, -, -⟩ := h3'
  refine ⟨g, off, so, _, scap, rfl, h2, ?_, o1, o2, fun w' hk => ⟨ys, own_rd (own_kept h3 fun k _ hb hlt => hk k hb hlt), rdEach_map h4 (fun a cs ha => opO_rd (opO_kept hk ha))⟩⟩
  rw [hrow, e1]
  congr 1
  simp [coinV, dgV]
set_option maxHeartbeats 1600000 in
set_option maxRecDepth 100000 in
theorem cFind_any (cs : List CoinD) (ao : Option Addr) (cap : Nat) (p : PlaceD) (hp : p.tx.length = 32) (w : World) (h : rdSl coinR 36 w (.slice ao cs.length cap) cs) :
    Calls Tryd.prog 23 #[.slice ao cs.length cap, .agg (plV p)] w (FindPost cs p w) := by
  obtain ⟨_, _, e, hcap, hmax⟩ := sl_bounds h
  cases e
  unfold maxLen at hmax
  have HS := Lib.hid h
  have H32 := Lib.hid (all32_of h)
  clear h
  have hsp : (plV p).size = 33 := plV_size p hp
  have hpp := plV_plain p
  have hb0 : Hid (Below w.heap.size w ((w.alloc (.cells (plV p) 35)).alloc (.cells zCoin 59))) := ((Below.refl _ _).alloc (Nat.le_refl _) _).alloc (by simp) _
  have hr0 : rowAt ((w.alloc (.cells (plV p) 35)).alloc (.cells zCoin 59)) w.heap.size 0 33 = some (plV p) := by
    rw [rowAt_alloc_past _ _ _ _ _ (by simp)]; exact rowAt_whole (heap_alloc_new w (.cells (plV p) 35)) 33 hsp.symm
  have hd0 : Hid (((w.alloc (.cells (plV p) 35)).alloc (.cells zCoin 59)).heap[w.heap.size + 1]? = some (.cells zCoin 59 (0, 0))) := by
    have := heap_alloc_new (w.alloc (.cells (plV p) 35)) (.cells zCoin 59)
    rwa [show (w.alloc (.cells (plV p) 35)).heap.size = w.heap.size + 1 from by simp] at this
  have hs0 : ((w.alloc (.cells (plV p) 35)).alloc (.cells zCoin 59)).heap.size = w.heap.size + 2 := by simp
  go_enter Tryd.func23, Tryd.ntmps23
  go_upto_region 1 with fail
  change Code.wp _ _ _ _ ((w.alloc (.cells (plV p) 35)).alloc (.cells zCoin 59))
  generalize (w.alloc (.cells (plV p) 35)).alloc (.cells zCoin 59) = wa at hb0 hr0 hd0 hs0 ⊢
  have HC := Lib.hid (coinCheck_any cs ao cap wa (coinR_stays.slB HS.out hb0.out (Nat.le_refl _)))
  by_cases hz : setF cs = 0
  · rw [hz, errV_0] at HC
    have HZ := Lib.hid hz
    clear hz
    go_wp2_with fail
    refine Calls.mono HC.out ?_
    rintro e w1 ⟨rfl, hb1⟩
    have hr1 := (rowAt_below hb1 (rowAt_lt hr0) 0 33).trans hr0
    have hd1 : Hid (w1.heap[w.heap.size + 1]? = some (.cells zCoin 59 (0, 0))) := (hb1.block _ (by omega)).trans hd0.out
    have hs1 := hb1.size
    have B1 := Lib.hid (hb0.out.trans (hb1.mono hb0.out.size))
    clear hb1 hr0 hd0 HC
    have HSO := Lib.hid (sorted_of cs H32.out HZ.out)
    have HFD := Lib.hid (cfind_any cs ao cap p hp w1 (coinR_stays.slB HS.out B1.out (Nat.le_refl _)) (setF_zero cs HZ.out).1 H32.out HSO.out)
    go_wp2_with fail
    refine Calls.mono HFD.out ?_
    rintro e w2 ⟨i, b, rfl, hf, hin, hb2⟩
    have hat := found_atF cs p H32.out HSO.out hp i b hf
    have hd2 : Hid (w2.heap[w.heap.size + 1]? = some (.cells zCoin 59 (0, 0))) := (hb2.block _ (by omega)).trans hd1.out
    have hs2 := hb2.size
    have B2 := Lib.hid (B1.out.trans (hb2.mono B1.out.size))
    have HF := Lib.hid hf
    clear hb2 hf hr1 hd1 HFD
    have m1 : (rowAt w2 (w.heap.size + 1) 0 36).isSome = true := by rw [rowAt_whole hd2.out 36 rfl]; rfl
    have m2 : wrAt w2 (w.heap.size + 1) = true := wrAt_of_heap hd2.out
    cases b
    · have HAT := Lib.hid (show atF p cs 0 = -1 from hat)
      clear hat
      go_wp2
      refine bodyPost_ret (v := .tuple #[.agg zCoin, errV 5]) (results_cell_tmp_at rfl _ _ (w.heap.size + 1) 0 _ _ rfl rfl agg_coin ?_) rfl ?_
      · rw [cells_coin]; exact rowAt_put_same hd2.out zCoin rfl 36 rfl
      · exact ⟨putAt_below B2.out (by omega) _ _, .inr (.inl ⟨HZ.out, HAT.out, rfl⟩)⟩
    · have HAT := Lib.hid (show atF p cs 0 = (i : Int) from hat)
      clear hat m1 m2
      obtain ⟨hi, -⟩ := HF.out.1 rfl
      have hS2 := coinR_stays.slB HS.out B2.out (Nat.le_refl _)
      obtain ⟨g, off, -, -, rfl, -, -, -, -, -, -⟩ := coin_at hS2 i hi
      have hone := Lib.hid (rdSl_one hS2 (by decide) i hi)
      have HCP : Calls Tryd.prog 51 #[.slice (some ⟨g, off + i * 36, none⟩) 1 (cap - i)] w2 (CopyPost [cs[i]] w2) :=
        copy_any [cs[i]] (some ⟨g, off + i * 36, none⟩) (cap - i) w2 hone.out (by simp) (fun c hc => by
          rw [List.mem_singleton] at hc
          rw [hc]; exact locks_of HZ.out _ (List.getElem_mem hi))
      have HC1 := Lib.hid HCP
      clear hS2 HCP
      go_wp2_with fail
      refine Calls.mono HC1.out ?_
      rintro e w3 ⟨v, xs, rfl, hown, hre, hb3⟩
      obtain ⟨g', off', so, ocap, scap, rfl, h32, hrow, o1, o2, hlk⟩ := one_coin hown hre
      rw [Nat.zero_mul, Nat.add_zero] at hrow
      have HLK := Lib.hid hlk
      have hd3 : Hid (w3.heap[w.heap.size + 1]? = some (.cells zCoin 59 (0, 0))) := (hb3.block _ (by omega)).trans hd2.out
      have B3 := Lib.hid (B2.out.trans (hb3.mono B2.out.size))
      have m1 : (rowAt w3 (w.heap.size + 1) 0 36).isSome = true := by rw [rowAt_whole hd3.out 36 rfl]; rfl
      have m2 : wrAt w3 (w.heap.size + 1) = true := wrAt_of_heap hd3.out
      have n1 := coinV_plain cs[i] so cs[i].lock.length scap
      have n2 := coinV_size cs[i] (.slice so cs[i].lock.length scap) h32
      clear hown hre hb3 hlk HC1 hone
      go_wp2
      refine bodyPost_ret (v := .tuple #[.agg (coinV cs[i] (.slice so cs[i].lock.length scap)), .nilIface]) (results_cell_tmp_at rfl _ _ (w.heap.size + 1) 0 _ _ rfl rfl agg_coin ?_) rfl ?_
      · rw [cells_coin]; exact rowAt_put_same hd3.out _ (by rw [n2]; rfl) 36 n2.symm
      · exact ⟨putAt_below B3.out (by omega) _ _, .inr (.inr ⟨i, hi, so, scap, HZ.out, HAT.out, rfl, HLK.out _ fun k hk _ => putAt_other _ _ _ _ k (by omega)⟩)⟩
  · have hne := errV_ne hz
    rw [hne] at HC
    have HZ := Lib.hid hz
    clear hz
    go_wp2_with fail
    refine Calls.mono HC.out ?_
    rintro e w1 ⟨rfl, hb1⟩
    have hd1 : Hid (w1.heap[w.heap.size + 1]? = some (.cells zCoin 59 (0, 0))) := (hb1.block _ (by omega)).trans hd0.out
    have B1 := Lib.hid (hb0.out.trans (hb1.mono hb0.out.size))
    clear hb1 hr0 hd0 HC
    have m1 : (rowAt w1 (w.heap.size + 1) 0 36).isSome = true := by rw [rowAt_whole hd1.out 36 rfl]; rfl
    have m2 : wrAt w1 (w.heap.size + 1) = true := wrAt_of_heap hd1.out
    go_wp2
    refine bodyPost_ret (v := .tuple #[.agg zCoin, errV (setF cs)]) (results_cell_tmp_at rfl _ _ (w.heap.size + 1) 0 _ _ rfl (by rw [hne]; rfl) agg_coin ?_) rfl ?_
    · rw [cells_coin]; exact rowAt_put_same hd1.out zCoin rfl 36 rfl
    · exact ⟨putAt_below B1.out (by omega) _ _, .inl ⟨HZ.out, rfl⟩⟩
end Go.Proofs.YtljcdkfafknnpaaDoor
