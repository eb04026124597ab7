/- The walk of the laws' clash, and of tree.Fold where it refuses. Conditions: none beyond each theorem's own. -/
import Derived.Test.YtamjldakllafcaaDoorRefH
namespace Go.Proofs.YtamjldakllafcaaDoor
set_option linter.unusedVariables false
set_option linter.unusedSimpArgs false
open Go.RowKit
attribute [local go_sem ↓] run_load_agg run_store_agg run_build_two run_load_any

set_option maxHeartbeats 1000000 in
set_option maxRecDepth 100000 in
theorem fold_range (l : List UInt8) (hl : l.length = 32) (i n : Int) (v : Value) (w : World) (h : n < 1 ∨ 256 < n ∨ i < 0 ∨ n ≤ i) :
    Calls Tryd.prog 22 #[.agg (dgV l), .int .i64 i, .int .i64 n, v] w fun e w' => e = .returned (.tuple #[.agg zD, .iface 47 (.int .i64 2)]) ∧ Below w.heap.size w w' := by
  have hsl : (dgV l).size = 32 := by rw [dgV_size, hl]
  have fin : Below w.heap.size w ((w.alloc (.cells (dgV l) 25)).alloc (.cells zD 25)) ∧ rowAt ((w.alloc (.cells (dgV l) 25)).alloc (.cells zD 25)) (w.heap.size + 1) 0 32 = some zD := by
    refine ⟨((Below.refl _ _).alloc (Nat.le_refl _) _).alloc (by simp) _, rowAt_whole (t := 25) (fr := (0, 0)) ?_ 32 rfl⟩
    have := heap_alloc_new (w.alloc (.cells (dgV l) 25)) (.cells zD 25)
    rwa [show (w.alloc (.cells (dgV l) 25)).heap.size = w.heap.size + 1 from by simp] at this
  by_cases h1 : n < 1
  · go_enter Tryd.func22, Tryd.ntmps22
    go_wp2
    refine bodyPost_ret (v := .tuple #[.agg zD, .iface 47 (.int .i64 2)]) (results_cell_tmp_at rfl _ _ (w.heap.size + 1) 0 _ _ rfl rfl agg_digest ?_) rfl ⟨rfl, fin.1⟩
    rw [cells_digest]; exact fin.2
  by_cases h2 : 256 < n
  · go_enter Tryd.func22, Tryd.ntmps22
    go_wp2
    refine bodyPost_ret (v := .tuple #[.agg zD, .iface 47 (.int .i64 2)]) (results_cell_tmp_at rfl _ _ (w.heap.size + 1) 0 _ _ rfl rfl agg_digest ?_) rfl ⟨rfl, fin.1⟩
    rw [cells_digest]; exact fin.2
  by_cases h3 : i < 0
  · go_enter Tryd.func22, Tryd.ntmps22
    go_wp2
    refine bodyPost_ret (v := .tuple #[.agg zD, .iface 47 (.int .i64 2)]) (results_cell_tmp_at rfl _ _ (w.heap.size + 1) 0 _ _ rfl rfl agg_digest ?_) rfl ⟨rfl, fin.1⟩
    rw [cells_digest]; exact fin.2
  have h4 : n ≤ i := by omega
  go_enter Tryd.func22, Tryd.ntmps22
  go_wp2
  refine bodyPost_ret (v := .tuple #[.agg zD, .iface 47 (.int .i64 2)]) (results_cell_tmp_at rfl _ _ (w.heap.size + 1) 0 _ _ rfl rfl agg_digest ?_) rfl ⟨rfl, fin.1⟩
  rw [cells_digest]; exact fin.2
set_option maxHeartbeats 1000000 in
set_option maxRecDepth 100000 in
theorem fold_len (l : List UInt8) (hl : l.length = 32) (n i : Nat) (ao : Option Addr) (m cap : Nat) (w : World) (k1 : m ≤ cap) (k2 : cap ≤ 2 ^ 63 - 1) (h1 : 1 ≤ n) (hn : n ≤ 256) (hi : i < n) (hm : m ≠ (sidesM i n).length) :
    Calls Tryd.prog 22 #[.agg (dgV l), .int .i64 i, .int .i64 n, .slice ao m cap] w fun e w' => e = .returned (.tuple #[.agg zD, .iface 47 (.int .i64 3)]) ∧ Below w.heap.size w w' := by
  have hni : ¬ n ≤ i := by omega
  have hsl : (dgV l).size = 32 := by rw [dgV_size, hl]
  have HM := Lib.hid hm; clear hm
  have hb0 : Hid (Below w.heap.size w ((w.alloc (.cells (dgV l) 25)).alloc (.cells zD 25))) := ((Below.refl _ _).alloc (Nat.le_refl _) _).alloc (by simp) _
  have hd0 : Hid (((w.alloc (.cells (dgV l) 25)).alloc (.cells zD 25)).heap[w.heap.size + 1]? = some (.cells zD 25 (0, 0))) := by
    have := heap_alloc_new (w.alloc (.cells (dgV l) 25)) (.cells zD 25)
    rwa [show (w.alloc (.cells (dgV l) 25)).heap.size = w.heap.size + 1 from by simp] at this
  have hs0 : ((w.alloc (.cells (dgV l) 25)).alloc (.cells zD 25)).heap.size = w.heap.size + 2 := by simp
  go_enter Tryd.func22, Tryd.ntmps22
  go_wp2_with fail
  change Calls _ _ _ ((w.alloc (.cells (dgV l) 25)).alloc (.cells zD 25)) _
  generalize (w.alloc (.cells (dgV l) 25)).alloc (.cells zD 25) = wa at hb0 hd0 hs0 ⊢
  refine (sides_any n i wa h1 hn hi).mono ?_
  rintro e w1 ⟨lv, k, rfl, ho1, hk, hb1⟩
  obtain ⟨-, lo, lcap, rfl, l1, l2, -⟩ := ho1
  unfold maxLen at l2
  have hne : ¬ ((m : Int) = (k : Int)) := by have := HM.out; omega
  have hq2 : ((m : Int) != (k : Int)) = true := by rw [bne_iff_ne]; exact hne
  have hq3 : ((m : Int) == (k : Int)) = false := beq_false_of_ne hne
  have B1 := Lib.hid (hb0.out.trans (hb1.mono hb0.out.size))
  have hd1 : Hid (w1.heap[w.heap.size + 1]? = some (.cells zD 25 (0, 0))) := (hb1.block _ (by omega)).trans hd0.out
  have hrw : (rowAt w1 (w.heap.size + 1) 0 32).isSome = true := by rw [rowAt_whole hd1.out 32 rfl]; rfl
  have hrg := wrAt_of_heap hd1.out
  have hk2 := Lib.hid hk
  clear hb1 hk
  go_wp2
  refine bodyPost_ret (v := .tuple #[.agg zD, .iface 47 (.int .i64 3)]) (results_cell_tmp_at rfl _ _ (w.heap.size + 1) 0 _ _ rfl rfl agg_digest ?_) rfl ⟨rfl, putAt_below B1.out (by omega) _ _⟩
  rw [cells_digest]; exact rowAt_put_same hd1.out zD rfl 32 rfl

/-- What stands in clash: the four digests that it has, and the two leaves. -/
structure ClI (w0 : World) (a b : List UInt8) (wx : World) : Prop where
  below : Below w0.heap.size w0 wx
  a0 : rowAt wx w0.heap.size 0 32 = some (dgV a)
  b0 : rowAt wx (w0.heap.size + 1) 0 32 = some (dgV b)
  size : w0.heap.size + 2 ≤ wx.heap.size
theorem ClI.on {w0 : World} {a b : List UInt8} {wx w' : World} (h : ClI w0 a b wx) (hb : Below wx.heap.size wx w') : ClI w0 a b w' :=
  ⟨h.below.trans (hb.mono h.below.size), (rowAt_below hb (by have := h.size; omega) 0 32).trans h.a0, (rowAt_below hb (by have := h.size; omega) 0 32).trans h.b0, Nat.le_trans h.size hb.size⟩
theorem ClI.start (w : World) (a b : List UInt8) (ha : a.length = 32) (hb : b.length = 32) : ClI w a b ((w.alloc (.cells (dgV a) 25)).alloc (.cells (dgV b) 25)) := by
  refine ⟨((Below.refl _ _).alloc (Nat.le_refl _) _).alloc (by simp) _, ?_, ?_, by simp⟩
  · refine rowAt_whole (t := 25) (fr := (0, 0)) ?_ 32 (by rw [dgV_size, ha])
    rw [Below.heap_alloc _ _ _ (by simp)]; exact heap_alloc_new w _
  · refine rowAt_whole (t := 25) (fr := (0, 0)) ?_ 32 (by rw [dgV_size, hb])
    have := heap_alloc_new (w.alloc (.cells (dgV a) 25)) (.cells (dgV b) 25)
    rwa [show (w.alloc (.cells (dgV a) 25)).heap.size = w.heap.size + 1 from by simp] at this
/-- A path's last part. -/
theorem path_last {w : World} {ao : Option Addr} {cap r : Nat} {ps : List (List UInt8)} (h32 : ∀ d ∈ ps, d.length = 32) (hl : ps.length = r + 1) (h : rd w (.slice ao (r + 1) cap) (r + 1) (ps.flatten.map vB)) :
    ∃ g off P rs, ao = some ⟨g, off, none⟩ ∧ ps = rs ++ [P] ∧ P.length = 32 ∧ rs.length = r ∧ (∀ d ∈ rs, d.length = 32) ∧ rowAt w g (off + r * 32) 32 = some (dgV P) ∧ rd w (.slice (some ⟨g, off, none⟩) r cap) r (rs.flatten.map vB) := by
  obtain ⟨g, off, rfl, hrows⟩ := rd_digest h32 hl h (by omega)
  have hrow := hrows r (by omega)
  have r1 := rd_take h r (32 * r) (by omega)
  rw [← List.map_take, ← flat_take ps h32] at r1
  refine ⟨g, off, ps.getD r [], ps.take r, rfl, list_last ps r hl, getD_len h32 (by omega), by simp; omega, fun d hd => h32 d (List.mem_of_mem_take hd), ?_, r1⟩
  rw [Nat.mul_comm]; exact hrow
/-- The worlds of a region that reads four digests and calls. -/
structure Held4 (w0 : World) (A B D E : Nat) (X Y Z V : List UInt8) (w : World) : Prop where
  below : Below w0.heap.size w0 w
  a : A < w.heap.size ∧ rowAt w A 0 32 = some (dgV X)
  b : B < w.heap.size ∧ rowAt w B 0 32 = some (dgV Y)
  d : D < w.heap.size ∧ rowAt w D 0 32 = some (dgV Z)
  e : E < w.heap.size ∧ rowAt w E 0 32 = some (dgV V)
theorem Held4.on {w0 : World} {A B D E : Nat} {X Y Z V : List UInt8} {w w' : World} (h : Held4 w0 A B D E X Y Z V w) (hb : Below w.heap.size w w') : Held4 w0 A B D E X Y Z V w' :=
  ⟨h.below.trans (hb.mono h.below.size), ⟨Nat.lt_of_lt_of_le h.a.1 hb.size, (rowAt_below hb h.a.1 0 32).trans h.a.2⟩, ⟨Nat.lt_of_lt_of_le h.b.1 hb.size, (rowAt_below hb h.b.1 0 32).trans h.b.2⟩, ⟨Nat.lt_of_lt_of_le h.d.1 hb.size, (rowAt_below hb h.d.1 0 32).trans h.d.2⟩, ⟨Nat.lt_of_lt_of_le h.e.1 hb.size, (rowAt_below hb h.e.1 0 32).trans h.e.2⟩⟩
set_option maxHeartbeats 8000000 in
set_option maxRecDepth 100000 in
theorem clash_any : ∀ (N : Nat) (a b : List UInt8) (_ : a.length = 32) (_ : b.length = 32) (n i : Nat) (pv qv : Value) (m : Nat) (ps qs : List (List UInt8)) (_ : ∀ d ∈ ps, d.length = 32) (_ : ∀ d ∈ qs, d.length = 32) (w : World) (_ : n ≤ N)
    (_ : rd w pv m (ps.flatten.map vB)) (_ : rd w qv m (qs.flatten.map vB)) (_ : ps.length = m) (_ : qs.length = m) (_ : 1 ≤ n) (_ : n ≤ 256) (_ : i < n) (_ : m = (sidesM i n).length) (_ : a ≠ b)
    (_ : foldM a (sidesM i n).reverse ps = foldM b (sidesM i n).reverse qs) (_ : tabAt w),
    Calls Tryd.prog 21 #[.agg (dgV a), pv, .agg (dgV b), qv, .int .i64 i, .int .i64 n] w fun e w' => e = .returned (.bool true) ∧ Below w.heap.size w w' := by
  intro N
  induction N with
  | zero => intro a b ha hb n i pv qv m ps qs hp hq w hN _ _ _ _ h1; omega
  | succ N ih =>
    intro a b ha hb n i pv qv m ps qs hp hq w hN rp rq lp lq h1 hn hi hm hab heq hT
    by_cases h2 : 2 ≤ n
    · obtain ⟨hh1, hh2, -⟩ := halfM_bounds n h2 hn
      have HH := Lib.hid (rhalf_any n h2 hn)
      obtain ⟨k, hk⟩ : ∃ k, halfM n = k := ⟨_, rfl⟩
      rw [hk] at hh1 hh2 HH
      have HK := Lib.hid hk; clear hk
      have hn1 : ((n : Int) == 1) = false := beq_false_of_ne (by omega)
      have hml : ∃ r, m = r + 1 := ⟨m - 1, by
        by_cases hik : i < k
        · rw [sidesM_left i n h2 hn (by rw [HK.out]; exact hik)] at hm; simp at hm; omega
        · rw [sidesM_right i n h2 hn (by rw [HK.out]; exact hik)] at hm; simp at hm; omega⟩
      obtain ⟨r, rfl⟩ := hml
      have rp' := rp; have rq' := rq
      obtain ⟨pa, pcap, rfl, pk1, pk2, -⟩ := rp'
      obtain ⟨qa, qcap, rfl, qk1, qk2, -⟩ := rq'
      unfold maxLen at pk2 qk2
      obtain ⟨pg, poff, X, us, rfl, rfl, hX, lus, hus, prow, prd⟩ := path_last hp lp rp
      obtain ⟨qg, qoff, Y, vs, rfl, rfl, hY, lvs, hvs, qrow, qrd⟩ := path_last hq lq rq
      have hpg := rowAt_lt prow; have hqg := rowAt_lt qrow
      have hg0 := rowAt_lt hT
      have HM := Lib.hid hm; have HE := Lib.hid heq; have HT := Lib.hid hT; have HP := Lib.hid prd; have HQ := Lib.hid qrd; have HPR := Lib.hid prow; have HQR := Lib.hid qrow
      have hps1 : ∀ w, (Instr.sliceAt 22 (.slice (some ⟨pg, poff, none⟩) (r + 1) pcap) none (some (.int .i64 r)) none).run Tryd.prog w = .ok (.slice (some ⟨pg, poff, none⟩) r pcap) w := fun w => run_slice_to _ _ 32 Tryd.underlying22 size_dig pg poff (r + 1) pcap r (by omega) pk1 w
      have hqs1 : ∀ w, (Instr.sliceAt 22 (.slice (some ⟨qg, qoff, none⟩) (r + 1) qcap) none (some (.int .i64 r)) none).run Tryd.prog w = .ok (.slice (some ⟨qg, qoff, none⟩) r qcap) w := fun w => run_slice_to _ _ 32 Tryd.underlying22 size_dig qg qoff (r + 1) qcap r (by omega) qk1 w
      clear hm heq hT prd qrd prow qrow rp rq lp lq hp hq
      have HC0 := Lib.hid (ClI.start w a b ha hb)
      have hsa : (dgV a).size = 32 := by rw [dgV_size, ha]
      have hsb : (dgV b).size = 32 := by rw [dgV_size, hb]
      have hpa : plainCells (dgV a) = true := dgV_plain _
      have hpb : plainCells (dgV b) = true := dgV_plain _
      go_enter Tryd.func21, Tryd.ntmps21
      go_wp2_with fail
      change Calls _ _ _ ((w.alloc (.cells (dgV a) 25)).alloc (.cells (dgV b) 25)) _
      generalize (w.alloc (.cells (dgV a) 25)).alloc (.cells (dgV b) 25) = wa at HC0 ⊢
      refine (HH.out wa).mono ?_
      rintro e w1 ⟨rfl, rfl⟩
      have pr1 : rowAt w1 pg (poff + r * 32) 32 = some (dgV X) := (rowAt_below HC0.out.below hpg _ _).trans HPR.out
      obtain ⟨n1, n2, n3, n4, n5⟩ := new_dig w1 X hX
      have HC1 := Lib.hid (HC0.out.on ((Below.refl _ _).alloc (Nat.le_refl _) (.cells (dgV X) 25)))
      have qr1 : rowAt (w1.alloc (.cells (dgV X) 25)) qg (qoff + r * 32) 32 = some (dgV Y) := (rowAt_below HC1.out.below hqg _ _).trans HQR.out
      obtain ⟨y1, y2, y3, y4, y5⟩ := new_dig (w1.alloc (.cells (dgV X) 25)) Y hY
      have HC2 := Lib.hid (HC1.out.on ((Below.refl _ _).alloc (Nat.le_refl _) (.cells (dgV Y) 25)))
      have x5 : rowAt ((w1.alloc (.cells (dgV X) 25)).alloc (.cells (dgV Y) 25)) w1.heap.size 0 32 = some (dgV X) := by rw [rowAt_alloc_past _ _ _ _ _ (by simp)]; exact n5
      unfold zD at n1 n2 y1 y2
      have ca : rowAt ((w1.alloc (.cells (dgV X) 25)).alloc (.cells (dgV Y) 25)) w.heap.size 0 32 = some (dgV a) := HC2.out.a0
      by_cases hik : i < k
      · go_wp2_with fail
        clear n1 n2 y1 y2
        have hsd : sidesM i n = true :: sidesM i k := by rw [sidesM_left i n h2 hn (by rw [HK.out]; exact hik), HK.out]
        have hrl : r = (sidesM i k).length := by have e := HM.out; rw [hsd] at e; simpa using e
        have heq := HE.out
        rw [hsd, List.reverse_cons, foldM_snoc _ _ _ _ _ (by rw [List.length_reverse, ← hrl, lus]), foldM_snoc _ _ _ _ _ (by rw [List.length_reverse, ← hrl, lvs])] at heq
        simp only [Bool.false_eq_true, if_true, if_false] at heq
        have hUl := foldM_length a (sidesM i k).reverse us ha
        have hVl := foldM_length b (sidesM i k).reverse vs hb
        rw [show (w1.alloc (.cells (dgV X) 25)).heap.size = w1.heap.size + 1 from by simp] at y5
        have hz2 : ((w1.alloc (.cells (dgV X) 25)).alloc (.cells (dgV Y) 25)).heap.size = w1.heap.size + 2 := by simp
        generalize (w1.alloc (.cells (dgV X) 25)).alloc (.cells (dgV Y) 25) = w2 at HC2 x5 y5 ca hz2 ⊢
        refine (rfolded_any k a ha k i _ r us hus w2 (Nat.le_refl _) (rd_belowB HP.out HC2.out.below (Nat.le_refl _)) lus (by omega) (by omega) (by omega) hrl).mono ?_
        rintro e w3 ⟨rfl, hb3⟩
        obtain ⟨U, hU⟩ : ∃ U, foldM a (sidesM i k).reverse us = U := ⟨_, rfl⟩
        obtain ⟨V, hV⟩ : ∃ V, foldM b (sidesM i k).reverse vs = V := ⟨_, rfl⟩
        rw [hU] at hUl heq ⊢
        rw [hV] at hVl heq
        have HC3 := Lib.hid (HC2.out.on hb3)
        have x6 : rowAt w3 w1.heap.size 0 32 = some (dgV X) := (rowAt_below hb3 (by omega) 0 32).trans x5
        have y6 : rowAt w3 (w1.heap.size + 1) 0 32 = some (dgV Y) := (rowAt_below hb3 (by omega) 0 32).trans y5
        have hz3 := hb3.size
        obtain ⟨u1, u2, u3, u4, u5⟩ := new_dig w3 U hUl
        have HC4 := Lib.hid (HC3.out.on ((Below.refl _ _).alloc (Nat.le_refl _) (.cells (dgV U) 25)))
        have cb : rowAt (w3.alloc (.cells (dgV U) 25)) (w.heap.size + 1) 0 32 = some (dgV b) := HC4.out.b0
        have HU := Lib.hid hU; have HV := Lib.hid hV; have HEQ := Lib.hid heq; have HSD := Lib.hid hsd; have HRL := Lib.hid hrl
        clear hU hV heq hsd hrl hb3 ca
        unfold zD at u1 u2
        go_wp2_with fail
        clear u1 u2
        have x7 : rowAt (w3.alloc (.cells (dgV U) 25)) w1.heap.size 0 32 = some (dgV X) := by rw [rowAt_alloc_past _ _ _ _ _ (by omega)]; exact x6
        have y7 : rowAt (w3.alloc (.cells (dgV U) 25)) (w1.heap.size + 1) 0 32 = some (dgV Y) := by rw [rowAt_alloc_past _ _ _ _ _ (by omega)]; exact y6
        have hz4 : (w3.alloc (.cells (dgV U) 25)).heap.size = w3.heap.size + 1 := by simp
        generalize w3.alloc (.cells (dgV U) 25) = w4 at HC4 u5 cb x7 y7 hz4 ⊢
        clear x5 y5 x6 y6
        refine (rfolded_any k b hb k i _ r vs hvs w4 (Nat.le_refl _) (rd_belowB HQ.out HC4.out.below (Nat.le_refl _)) lvs (by omega) (by omega) (by omega) HRL.out).mono ?_
        rintro e w5 ⟨rfl, hb5⟩
        rw [HV.out]
        have hz5 := hb5.size
        have HC5 := Lib.hid (HC4.out.on hb5)
        obtain ⟨v1, v2, v3, v4, v5⟩ := new_dig w5 V hVl
        have HC6 := Lib.hid (HC5.out.on ((Below.refl _ _).alloc (Nat.le_refl _) (.cells (dgV V) 25)))
        have cx : rowAt (w5.alloc (.cells (dgV V) 25)) w1.heap.size 0 32 = some (dgV X) := by rw [rowAt_alloc_past _ _ _ _ _ (by omega)]; exact (rowAt_below hb5 (by omega) 0 32).trans x7
        have cy : rowAt (w5.alloc (.cells (dgV V) 25)) (w1.heap.size + 1) 0 32 = some (dgV Y) := by rw [rowAt_alloc_past _ _ _ _ _ (by omega)]; exact (rowAt_below hb5 (by omega) 0 32).trans y7
        have cu : rowAt (w5.alloc (.cells (dgV V) 25)) w3.heap.size 0 32 = some (dgV U) := by rw [rowAt_alloc_past _ _ _ _ _ (by omega)]; exact (rowAt_below hb5 (by omega) 0 32).trans u5
        have ca2 : rowAt (w5.alloc (.cells (dgV V) 25)) w.heap.size 0 32 = some (dgV a) := HC6.out.a0
        have cb2 : rowAt (w5.alloc (.cells (dgV V) 25)) (w.heap.size + 1) 0 32 = some (dgV b) := HC6.out.b0
        have ez1 : ∀ w, (Op.equalIn 10000 25 (.agg (dgV U)) (.agg (dgV V))).run Tryd.prog w = .ok (decide (U = V)) w := run_eql_dig U V hUl hVl
        have ez2 : ∀ w, (Op.equalIn 10000 25 (.agg (dgV X)) (.agg (dgV Y))).run Tryd.prog w = .ok (decide (X = Y)) w := run_eql_dig X Y hX hY
        clear u5 cb x7 y7 hb5
        have hz6 : (w5.alloc (.cells (dgV V) 25)).heap.size = w5.heap.size + 1 := by simp
        unfold zD at v1 v2
        by_cases hu : U = V
        · rw [decide_eq_true hu] at ez1
          by_cases hxy : X = Y
          · rw [decide_eq_true hxy] at ez2
            have hfe : foldM a (sidesM i k).reverse us = foldM b (sidesM i k).reverse vs := by rw [HU.out, HV.out]; exact hu
            have HFE := Lib.hid hfe
            clear hu hxy hfe
            go_wp2_with fail
            clear v1 v2
            generalize w5.alloc (.cells (dgV V) 25) = w6 at HC6 v5 cx cy cu ca2 cb2 hz6 ⊢
            refine (ih a b ha hb k i _ _ r us vs hus hvs w6 (by omega) (rd_belowB HP.out HC6.out.below (Nat.le_refl _)) (rd_belowB HQ.out HC6.out.below (Nat.le_refl _)) lus lvs (by omega) (by omega) (by omega) HRL.out hab HFE.out ((rowAt_below HC6.out.below hg0 0 64).trans HT.out)).mono ?_
            rintro e w7 ⟨rfl, hb7⟩
            have B7 := Lib.hid (HC6.out.below.trans (hb7.mono HC6.out.below.size)); clear hb7
            go_wp2
            go_ret
            exact ⟨rfl, B7.out⟩
          · rw [decide_eq_false hxy] at ez2
            clear hu hxy
            go_wp2_with fail
            clear v1 v2
            generalize w5.alloc (.cells (dgV V) 25) = w6 at HC6 v5 cx cy cu ca2 cb2 hz6 ⊢
            have HN1 : Hid (∀ w', Calls Tryd.prog 37 #[.agg (dgV U), .agg (dgV X)] w' fun e w'' => e = .returned (.agg (dgV (nodeM U X))) ∧ Below w'.heap.size w' w'') := fun w' => rnode_any U X hUl hX w'
            have HN2 : Hid (∀ w', Calls Tryd.prog 37 #[.agg (dgV V), .agg (dgV Y)] w' fun e w'' => e = .returned (.agg (dgV (nodeM U X))) ∧ Below w'.heap.size w' w'') := fun w' => by rw [HEQ.out]; exact rnode_any V Y hVl hY w'
            have hNl := nodeM_length U X
            obtain ⟨M, hM⟩ : ∃ M, nodeM U X = M := ⟨_, rfl⟩
            rw [hM] at HN1 HN2 hNl
            have hes := eql_self M hNl
            clear hM
            refine wp_region_quiet (C := Held4 w w3.heap.size w1.heap.size w5.heap.size (w1.heap.size + 1) U X V Y) (by kernel_rfl) (by kernel_rfl) ⟨HC6.out.below.drew, ⟨by show _ < w6.heap.size; omega, cu⟩, ⟨by show _ < w6.heap.size; omega, cx⟩, ⟨by show _ < w6.heap.size; omega, v5⟩, ⟨by show _ < w6.heap.size; omega, cy⟩⟩ ?_
            refine wpQuiet_step (fun K hK => ?_)
            rw [if_pos (by rfl)]
            refine quiet_load w3.heap.size 0 _ rfl (fun w h => h.a.2) (hK _ ?_)
            clear hK K
            refine wpQuiet_step (fun K hK => ?_)
            rw [if_pos (by rfl)]
            refine quiet_load w1.heap.size 0 _ rfl (fun w h => h.b.2) (hK _ ?_)
            clear hK K
            quiet_step ((intro hC; refine (HN1.out _).mono ?_; rintro e w9 ⟨rfl, hb9⟩; exact ⟨rfl, hC.on hb9⟩))
            refine wpQuiet_step (fun K hK => ?_)
            rw [if_pos (by rfl)]
            refine quiet_load w5.heap.size 0 _ rfl (fun w h => h.d.2) (hK _ ?_)
            clear hK K
            refine wpQuiet_step (fun K hK => ?_)
            rw [if_pos (by rfl)]
            refine quiet_load (w1.heap.size + 1) 0 _ rfl (fun w h => h.e.2) (hK _ ?_)
            clear hK K
            quiet_step ((intro hC; refine (HN2.out _).mono ?_; rintro e w9 ⟨rfl, hb9⟩; exact ⟨rfl, hC.on hb9⟩))
            iterate 2 quiet_step ((intro _; with_reducible rfl))
            refine wpQuiet_nil ?_
            intro w9 hw9
            have B9 := Lib.hid hw9.below
            clear hw9
            go_wp2
            go_ret
            exact ⟨rfl, B9.out⟩
        · rw [decide_eq_false hu] at ez1
          clear hu
          go_wp2_with fail
          clear v1 v2
          generalize w5.alloc (.cells (dgV V) 25) = w6 at HC6 v5 cx cy cu ca2 cb2 hz6 ⊢
          have HN1 : Hid (∀ w', Calls Tryd.prog 37 #[.agg (dgV U), .agg (dgV X)] w' fun e w'' => e = .returned (.agg (dgV (nodeM U X))) ∧ Below w'.heap.size w' w'') := fun w' => rnode_any U X hUl hX w'
          have HN2 : Hid (∀ w', Calls Tryd.prog 37 #[.agg (dgV V), .agg (dgV Y)] w' fun e w'' => e = .returned (.agg (dgV (nodeM U X))) ∧ Below w'.heap.size w' w'') := fun w' => by rw [HEQ.out]; exact rnode_any V Y hVl hY w'
          have hNl := nodeM_length U X
          obtain ⟨M, hM⟩ : ∃ M, nodeM U X = M := ⟨_, rfl⟩
          rw [hM] at HN1 HN2 hNl
          have hes := eql_self M hNl
          clear hM
          refine wp_region_quiet (C := Held4 w w3.heap.size w1.heap.size w5.heap.size (w1.heap.size + 1) U X V Y) (by kernel_rfl) (by kernel_rfl) ⟨HC6.out.below.drew, ⟨by show _ < w6.heap.size; omega, cu⟩, ⟨by show _ < w6.heap.size; omega, cx⟩, ⟨by show _ < w6.heap.size; omega, v5⟩, ⟨by show _ < w6.heap.size; omega, cy⟩⟩ ?_
          refine wpQuiet_step (fun K hK => ?_)
          rw [if_pos (by rfl)]
          refine quiet_load w3.heap.size 0 _ rfl (fun w h => h.a.2) (hK _ ?_)
          clear hK K
          refine wpQuiet_step (fun K hK => ?_)
          rw [if_pos (by rfl)]
          refine quiet_load w1.heap.size 0 _ rfl (fun w h => h.b.2) (hK _ ?_)
          clear hK K
          quiet_step ((intro hC; refine (HN1.out _).mono ?_; rintro e w9 ⟨rfl, hb9⟩; exact ⟨rfl, hC.on hb9⟩))
          refine wpQuiet_step (fun K hK => ?_)
          rw [if_pos (by rfl)]
          refine quiet_load w5.heap.size 0 _ rfl (fun w h => h.d.2) (hK _ ?_)
          clear hK K
          refine wpQuiet_step (fun K hK => ?_)
          rw [if_pos (by rfl)]
          refine quiet_load (w1.heap.size + 1) 0 _ rfl (fun w h => h.e.2) (hK _ ?_)
          clear hK K
          quiet_step ((intro hC; refine (HN2.out _).mono ?_; rintro e w9 ⟨rfl, hb9⟩; exact ⟨rfl, hC.on hb9⟩))
          iterate 2 quiet_step ((intro _; with_reducible rfl))
          refine wpQuiet_nil ?_
          intro w9 hw9
          have B9 := Lib.hid hw9.below
          clear hw9
          go_wp2
          go_ret
          exact ⟨rfl, B9.out⟩
      · have hik2 : (i : Int) - (k : Int) = ((i - k : Nat) : Int) := by omega
        have hnk2 : (n : Int) - (k : Int) = ((n - k : Nat) : Int) := by omega
        go_wp2_with fail
        clear n1 n2 y1 y2
        have hsd : sidesM i n = false :: sidesM (i - k) (n - k) := by rw [sidesM_right i n h2 hn (by rw [HK.out]; exact hik), HK.out]
        have hrl : r = (sidesM (i - k) (n - k)).length := by have e := HM.out; rw [hsd] at e; simpa using e
        have heq := HE.out
        rw [hsd, List.reverse_cons, foldM_snoc _ _ _ _ _ (by rw [List.length_reverse, ← hrl, lus]), foldM_snoc _ _ _ _ _ (by rw [List.length_reverse, ← hrl, lvs])] at heq
        simp only [Bool.false_eq_true, if_true, if_false] at heq
        have hUl := foldM_length a (sidesM (i - k) (n - k)).reverse us ha
        have hVl := foldM_length b (sidesM (i - k) (n - k)).reverse vs hb
        rw [show (w1.alloc (.cells (dgV X) 25)).heap.size = w1.heap.size + 1 from by simp] at y5
        have hz2 : ((w1.alloc (.cells (dgV X) 25)).alloc (.cells (dgV Y) 25)).heap.size = w1.heap.size + 2 := by simp
        generalize (w1.alloc (.cells (dgV X) 25)).alloc (.cells (dgV Y) 25) = w2 at HC2 x5 y5 ca hz2 ⊢
        refine (rfolded_any (n - k) a ha (n - k) (i - k) _ r us hus w2 (Nat.le_refl _) (rd_belowB HP.out HC2.out.below (Nat.le_refl _)) lus (by omega) (by omega) (by omega) hrl).mono ?_
        rintro e w3 ⟨rfl, hb3⟩
        obtain ⟨U, hU⟩ : ∃ U, foldM a (sidesM (i - k) (n - k)).reverse us = U := ⟨_, rfl⟩
        obtain ⟨V, hV⟩ : ∃ V, foldM b (sidesM (i - k) (n - k)).reverse vs = V := ⟨_, rfl⟩
        rw [hU] at hUl heq ⊢
        rw [hV] at hVl heq
        have HC3 := Lib.hid (HC2.out.on hb3)
        have x6 : rowAt w3 w1.heap.size 0 32 = some (dgV X) := (rowAt_below hb3 (by omega) 0 32).trans x5
        have y6 : rowAt w3 (w1.heap.size + 1) 0 32 = some (dgV Y) := (rowAt_below hb3 (by omega) 0 32).trans y5
        have hz3 := hb3.size
        obtain ⟨u1, u2, u3, u4, u5⟩ := new_dig w3 U hUl
        have HC4 := Lib.hid (HC3.out.on ((Below.refl _ _).alloc (Nat.le_refl _) (.cells (dgV U) 25)))
        have cb : rowAt (w3.alloc (.cells (dgV U) 25)) (w.heap.size + 1) 0 32 = some (dgV b) := HC4.out.b0
        have HU := Lib.hid hU; have HV := Lib.hid hV; have HEQ := Lib.hid heq; have HSD := Lib.hid hsd; have HRL := Lib.hid hrl
        clear hU hV heq hsd hrl hb3 ca
        unfold zD at u1 u2
        go_wp2_with fail
        clear u1 u2
        have x7 : rowAt (w3.alloc (.cells (dgV U) 25)) w1.heap.size 0 32 = some (dgV X) := by rw [rowAt_alloc_past _ _ _ _ _ (by omega)]; exact x6
        have y7 : rowAt (w3.alloc (.cells (dgV U) 25)) (w1.heap.size + 1) 0 32 = some (dgV Y) := by rw [rowAt_alloc_past _ _ _ _ _ (by omega)]; exact y6
        have hz4 : (w3.alloc (.cells (dgV U) 25)).heap.size = w3.heap.size + 1 := by simp
        generalize w3.alloc (.cells (dgV U) 25) = w4 at HC4 u5 cb x7 y7 hz4 ⊢
        clear x5 y5 x6 y6
        refine (rfolded_any (n - k) b hb (n - k) (i - k) _ r vs hvs w4 (Nat.le_refl _) (rd_belowB HQ.out HC4.out.below (Nat.le_refl _)) lvs (by omega) (by omega) (by omega) HRL.out).mono ?_
        rintro e w5 ⟨rfl, hb5⟩
        rw [HV.out]
        have hz5 := hb5.size
        have HC5 := Lib.hid (HC4.out.on hb5)
        obtain ⟨v1, v2, v3, v4, v5⟩ := new_dig w5 V hVl
        have HC6 := Lib.hid (HC5.out.on ((Below.refl _ _).alloc (Nat.le_refl _) (.cells (dgV V) 25)))
        have cx : rowAt (w5.alloc (.cells (dgV V) 25)) w1.heap.size 0 32 = some (dgV X) := by rw [rowAt_alloc_past _ _ _ _ _ (by omega)]; exact (rowAt_below hb5 (by omega) 0 32).trans x7
        have cy : rowAt (w5.alloc (.cells (dgV V) 25)) (w1.heap.size + 1) 0 32 = some (dgV Y) := by rw [rowAt_alloc_past _ _ _ _ _ (by omega)]; exact (rowAt_below hb5 (by omega) 0 32).trans y7
        have cu : rowAt (w5.alloc (.cells (dgV V) 25)) w3.heap.size 0 32 = some (dgV U) := by rw [rowAt_alloc_past _ _ _ _ _ (by omega)]; exact (rowAt_below hb5 (by omega) 0 32).trans u5
        have ca2 : rowAt (w5.alloc (.cells (dgV V) 25)) w.heap.size 0 32 = some (dgV a) := HC6.out.a0
        have cb2 : rowAt (w5.alloc (.cells (dgV V) 25)) (w.heap.size + 1) 0 32 = some (dgV b) := HC6.out.b0
        have ez1 : ∀ w, (Op.equalIn 10000 25 (.agg (dgV U)) (.agg (dgV V))).run Tryd.prog w = .ok (decide (U = V)) w := run_eql_dig U V hUl hVl
        have ez2 : ∀ w, (Op.equalIn 10000 25 (.agg (dgV X)) (.agg (dgV Y))).run Tryd.prog w = .ok (decide (X = Y)) w := run_eql_dig X Y hX hY
        clear u5 cb x7 y7 hb5
        have hz6 : (w5.alloc (.cells (dgV V) 25)).heap.size = w5.heap.size + 1 := by simp
        unfold zD at v1 v2
        by_cases hu : U = V
        · rw [decide_eq_true hu] at ez1
          by_cases hxy : X = Y
          · rw [decide_eq_true hxy] at ez2
            have hfe : foldM a (sidesM (i - k) (n - k)).reverse us = foldM b (sidesM (i - k) (n - k)).reverse vs := by rw [HU.out, HV.out]; exact hu
            have HFE := Lib.hid hfe
            clear hu hxy hfe
            go_wp2_with fail
            clear v1 v2
            generalize w5.alloc (.cells (dgV V) 25) = w6 at HC6 v5 cx cy cu ca2 cb2 hz6 ⊢
            refine (ih a b ha hb (n - k) (i - k) _ _ r us vs hus hvs w6 (by omega) (rd_belowB HP.out HC6.out.below (Nat.le_refl _)) (rd_belowB HQ.out HC6.out.below (Nat.le_refl _)) lus lvs (by omega) (by omega) (by omega) HRL.out hab HFE.out ((rowAt_below HC6.out.below hg0 0 64).trans HT.out)).mono ?_
            rintro e w7 ⟨rfl, hb7⟩
            have B7 := Lib.hid (HC6.out.below.trans (hb7.mono HC6.out.below.size)); clear hb7
            go_wp2
            go_ret
            exact ⟨rfl, B7.out⟩
          · rw [decide_eq_false hxy] at ez2
            clear hu hxy
            go_wp2_with fail
            clear v1 v2
            generalize w5.alloc (.cells (dgV V) 25) = w6 at HC6 v5 cx cy cu ca2 cb2 hz6 ⊢
            have HN1 : Hid (∀ w', Calls Tryd.prog 37 #[.agg (dgV X), .agg (dgV U)] w' fun e w'' => e = .returned (.agg (dgV (nodeM X U))) ∧ Below w'.heap.size w' w'') := fun w' => rnode_any X U hX hUl w'
            have HN2 : Hid (∀ w', Calls Tryd.prog 37 #[.agg (dgV Y), .agg (dgV V)] w' fun e w'' => e = .returned (.agg (dgV (nodeM X U))) ∧ Below w'.heap.size w' w'') := fun w' => by rw [HEQ.out]; exact rnode_any Y V hY hVl w'
            have hNl := nodeM_length X U
            obtain ⟨M, hM⟩ : ∃ M, nodeM X U = M := ⟨_, rfl⟩
            rw [hM] at HN1 HN2 hNl
            have hes := eql_self M hNl
            clear hM
            refine wp_region_quiet (C := Held4 w w3.heap.size w1.heap.size w5.heap.size (w1.heap.size + 1) U X V Y) (by kernel_rfl) (by kernel_rfl) ⟨HC6.out.below.drew, ⟨by show _ < w6.heap.size; omega, cu⟩, ⟨by show _ < w6.heap.size; omega, cx⟩, ⟨by show _ < w6.heap.size; omega, v5⟩, ⟨by show _ < w6.heap.size; omega, cy⟩⟩ ?_
            refine wpQuiet_step (fun K hK => ?_)
            rw [if_pos (by rfl)]
            refine quiet_load w1.heap.size 0 _ rfl (fun w h => h.b.2) (hK _ ?_)
            clear hK K
            refine wpQuiet_step (fun K hK => ?_)
            rw [if_pos (by rfl)]
            refine quiet_load w3.heap.size 0 _ rfl (fun w h => h.a.2) (hK _ ?_)
            clear hK K
            quiet_step ((intro hC; refine (HN1.out _).mono ?_; rintro e w9 ⟨rfl, hb9⟩; exact ⟨rfl, hC.on hb9⟩))
            refine wpQuiet_step (fun K hK => ?_)
            rw [if_pos (by rfl)]
            refine quiet_load (w1.heap.size + 1) 0 _ rfl (fun w h => h.e.2) (hK _ ?_)
            clear hK K
            refine wpQuiet_step (fun K hK => ?_)
            rw [if_pos (by rfl)]
            refine quiet_load w5.heap.size 0 _ rfl (fun w h => h.d.2) (hK _ ?_)
            clear hK K
            quiet_step ((intro hC; refine (HN2.out _).mono ?_; rintro e w9 ⟨rfl, hb9⟩; exact ⟨rfl, hC.on hb9⟩))
            iterate 2 quiet_step ((intro _; with_reducible rfl))
            refine wpQuiet_nil ?_
            intro w9 hw9
            have B9 := Lib.hid hw9.below
            clear hw9
            go_wp2
            go_ret
            exact ⟨rfl, B9.out⟩
        · rw [decide_eq_false hu] at ez1
          clear hu
          go_wp2_with fail
          clear v1 v2
          generalize w5.alloc (.cells (dgV V) 25) = w6 at HC6 v5 cx cy cu ca2 cb2 hz6 ⊢
          have HN1 : Hid (∀ w', Calls Tryd.prog 37 #[.agg (dgV X), .agg (dgV U)] w' fun e w'' => e = .returned (.agg (dgV (nodeM X U))) ∧ Below w'.heap.size w' w'') := fun w' => rnode_any X U hX hUl w'
          have HN2 : Hid (∀ w', Calls Tryd.prog 37 #[.agg (dgV Y), .agg (dgV V)] w' fun e w'' => e = .returned (.agg (dgV (nodeM X U))) ∧ Below w'.heap.size w' w'') := fun w' => by rw [HEQ.out]; exact rnode_any Y V hY hVl w'
          have hNl := nodeM_length X U
          obtain ⟨M, hM⟩ : ∃ M, nodeM X U = M := ⟨_, rfl⟩
          rw [hM] at HN1 HN2 hNl
          have hes := eql_self M hNl
          clear hM
          refine wp_region_quiet (C := Held4 w w3.heap.size w1.heap.size w5.heap.size (w1.heap.size + 1) U X V Y) (by kernel_rfl) (by kernel_rfl) ⟨HC6.out.below.drew, ⟨by show _ < w6.heap.size; omega, cu⟩, ⟨by show _ < w6.heap.size; omega, cx⟩, ⟨by show _ < w6.heap.size; omega, v5⟩, ⟨by show _ < w6.heap.size; omega, cy⟩⟩ ?_
          refine wpQuiet_step (fun K hK => ?_)
          rw [if_pos (by rfl)]
          refine quiet_load w1.heap.size 0 _ rfl (fun w h => h.b.2) (hK _ ?_)
          clear hK K
          refine wpQuiet_step (fun K hK => ?_)
          rw [if_pos (by rfl)]
          refine quiet_load w3.heap.size 0 _ rfl (fun w h => h.a.2) (hK _ ?_)
          clear hK K
          quiet_step ((intro hC; refine (HN1.out _).mono ?_; rintro e w9 ⟨rfl, hb9⟩; exact ⟨rfl, hC.on hb9⟩))
          refine wpQuiet_step (fun K hK => ?_)
          rw [if_pos (by rfl)]
          refine quiet_load (w1.heap.size + 1) 0 _ rfl (fun w h => h.e.2) (hK _ ?_)
          clear hK K
          refine wpQuiet_step (fun K hK => ?_)
          rw [if_pos (by rfl)]
          refine quiet_load w5.heap.size 0 _ rfl (fun w h => h.d.2) (hK _ ?_)
          clear hK K
          quiet_step ((intro hC; refine (HN2.out _).mono ?_; rintro e w9 ⟨rfl, hb9⟩; exact ⟨rfl, hC.on hb9⟩))
          iterate 2 quiet_step ((intro _; with_reducible rfl))
          refine wpQuiet_nil ?_
          intro w9 hw9
          have B9 := Lib.hid hw9.below
          clear hw9
          go_wp2
          go_ret
          exact ⟨rfl, B9.out⟩
    · exfalso
      obtain rfl : n = 1 := by omega
      rw [sidesM_one i 1 (by omega)] at heq
      exact hab (by simpa [foldM] using heq)
end Go.Proofs.YtamjldakllafcaaDoor
