/- Merged: Equ Und Bak. Conditions: none beyond each theorem's own. -/
import Derived.Test.YtljcdkfafknnpaaGreatDoorMa
import Derived.Test.YtljcdkfafknnpaaGreatDoorMb
import Derived.Test.YtljcdkfafknnpaaGreatDoorMd
import Derived.Laws.BytesArg
import Derived.Test.YtljcdkfafknnpaaGreatDoorMc
namespace Go.Proofs.YtljcdkfafknnpaaGreatDoor
set_option linter.unusedVariables false
set_option linter.unusedSimpArgs false
open Go.RowKit
attribute [local go_sem ↓] run_load_agg run_store_agg run_load_any

theorem run_conv_rd {w : World} {v : Value} {n : Nat} {b : List UInt8} (h : rd w v n (b.map vB)) (hl : b.length = n) : (convert 26 9 v).run Tryz.prog w = .ok (.string ⟨b.toArray⟩) w := by
  obtain ⟨ao, cap, rfl, h1, h2, h3⟩ := h
  rcases Nat.eq_zero_or_pos n with h0 | h0
  · subst h0
    have hb : b = [] := List.eq_nil_of_length_eq_zero hl
    subst hb
    rw [run_convert_bytes_string w 26 9 5 _ 0 cap Tryz.underlying26 Tryz.underlying5 Tryz.underlying9]
    cases ao <;> simp [Conv.bytesToString, loadCells]
    all_goals rfl
  · rcases h3 with h3 | ⟨g, off, rfl, h3⟩
    · have hb : b = [] := by simpa using h3
      subst hb
      simp at hl; omega
    · have := run_convert_bytes_arg (P := Tryz.prog) w 26 5 Tryz.underlying26 Tryz.underlying5 g off n cap (b.map bv) (by rw [List.length_map]; exact hl) (fun i hi => by
        apply h3
        have hi' : i < b.length := by omega
        rw [List.getElem?_map, List.getElem?_eq_getElem hi']
        simp only [Option.map_some, Option.some.injEq]
        rw [List.getD_eq_getElem?_getD, List.getElem?_map, List.getElem?_eq_getElem hi']
        rfl) 9 Tryz.underlying9
      have hs : strOfNums (b.map bv) = ⟨b.toArray⟩ := by
        unfold strOfNums
        rw [List.map_map]
        have : b.map ((fun n : Int => UInt8.ofNat n.toNat) ∘ bv) = b := by
          conv => rhs; rw [← List.map_id b]
          apply List.map_congr_left
          intro x _
          simp [bv]
        rw [this]
      rw [this, hs]
set_option maxHeartbeats 1000000 in
set_option maxRecDepth 100000 in
theorem bytesEqual_any (v1 v2 : Value) (n1 n2 : Nat) (a b : List UInt8) (w : World) (h1 : rd w v1 n1 (a.map vB)) (l1 : a.length = n1) (h2 : rd w v2 n2 (b.map vB)) (l2 : b.length = n2) :
    Calls Tryz.prog 41 #[v1, v2] w fun e w' => e = .returned (.bool (decide (a = b))) ∧ w' = w := by
  have e1 := run_conv_rd h1 l1
  have e2 := run_conv_rd h2 l2
  clear h1 h2
  go_enter Tryz.func41, Tryz.ntmps41
  go_wp2_with fail
  go_ret
  refine ⟨?_, rfl⟩
  show Ending.returned (.bool (a == b)) = _
  congr 2
  exact Bool.eq_iff_iff.2 (by simp)
def opE (a b : OpD) : Bool := decide (a.op = b.op) && (decide (a.n = b.n) && decide (a.data = b.data))
theorem opE_iff (a b : OpD) : opE a b = true ↔ a = b := by
  unfold opE
  simp only [Bool.and_eq_true, decide_eq_true_eq]
  constructor
  · rintro ⟨h1, h2, h3⟩
    cases a; cases b
    simp only at h1 h2 h3
    subst h1 h2 h3; rfl
  · rintro rfl; exact ⟨rfl, rfl, rfl⟩
def opsE : List OpD → List OpD → Bool
  | [], [] => true
  | a :: xs, b :: ys => opE a b && opsE xs ys
  | _, _ => false
theorem opsE_iff : ∀ (xs ys : List OpD), opsE xs ys = true ↔ xs = ys
  | [], [] => by simp [opsE]
  | [], b :: ys => by simp [opsE]
  | a :: xs, [] => by simp [opsE]
  | a :: xs, b :: ys => by simp [opsE, opE_iff, opsE_iff xs ys]
theorem opsE_step (xs ys : List OpD) (j : Nat) (h1 : j < xs.length) (h2 : j < ys.length) (h : opE xs[j] ys[j] = true) : opsE (xs.drop j) (ys.drop j) = opsE (xs.drop (j + 1)) (ys.drop (j + 1)) := by
  rw [List.drop_eq_getElem_cons h1, List.drop_eq_getElem_cons h2, opsE, h, Bool.true_and]
theorem opsE_stop (xs ys : List OpD) (j : Nat) (h1 : j < xs.length) (h2 : j < ys.length) (h : opE xs[j] ys[j] = false) : opsE (xs.drop j) (ys.drop j) = false := by
  rw [List.drop_eq_getElem_cons h1, List.drop_eq_getElem_cons h2, opsE, h, Bool.false_and]
def opVs (o : OpD) (s : Option Addr) (c : Nat) : Array Value := #[.int .i64 o.op, .int .i64 o.n, .slice s o.data.length c]
set_option maxHeartbeats 4000000 in
set_option maxRecDepth 100000 in
theorem sameOp_any (a b : OpD) (sa sb : Option Addr) (ca cb : Nat) (w : World) (h1 : rd w (.slice sa a.data.length ca) a.data.length (a.data.map vB)) (h2 : rd w (.slice sb b.data.length cb) b.data.length (b.data.map vB)) :
    Calls Tryz.prog 99 #[.agg #[.int .i64 a.op, .int .i64 a.n, .slice sa a.data.length ca], .agg #[.int .i64 b.op, .int .i64 b.n, .slice sb b.data.length cb]] w fun e w' => e = .returned (.bool (opE a b)) ∧ Below w.heap.size w w' := by
  have k0 := ((Kept.refl w).alloc (opVs a sa ca) 151).alloc (opVs b sb cb) 151
  rw [show (w.alloc (.cells (opVs a sa ca) 151)).heap.size = w.heap.size + 1 from by simp] at k0
  obtain ⟨n1, n2, n3, -⟩ := new_op w a.op a.n sa a.data.length ca
  obtain ⟨m1, m2, m3, -⟩ := new_op (w.alloc (.cells (opVs a sa ca) 151)) b.op b.n sb b.data.length cb
  unfold zOp at n1 n2 m1 m2
  unfold opVs at m1 m2
  have H1 := Lib.hid h1; have H2 := Lib.hid h2; have K0 := Lib.hid k0
  clear h1 h2 k0
  go_enter Tryz.func99, Tryz.ntmps99
  go_upto_region 1 with fail
  clear n1 n2 n3 m1 m2 m3
  change Code.wp _ _ _ _ ((w.alloc (.cells (opVs a sa ca) 151)).alloc (.cells (opVs b sb cb) 151))
  obtain ⟨G2, hG2⟩ : ∃ G, w.heap.size + 1 = G := ⟨_, rfl⟩
  rw [hG2] at K0 ⊢
  clear hG2
  obtain ⟨G1, hG1⟩ : ∃ G, w.heap.size = G := ⟨_, rfl⟩
  have K0' : Hid (∃ w0, (w.alloc (.cells (opVs a sa ca) 151)).alloc (.cells (opVs b sb cb) 151) = w0 ∧ Kept w [(G2, opVs b sb cb, 151), (G1, opVs a sa ca, 151)] w0) := Lib.hid ⟨_, rfl, by rw [← hG1]; exact K0.out⟩
  rw [hG1] at ⊢
  clear hG1 K0
  obtain ⟨w0, hw0, k0⟩ := K0'.out
  rw [hw0]
  have K0 := Lib.hid k0
  clear hw0 k0 K0'
  have c0 : w0.cell? ⟨G1, 0, none⟩ = some (.int .i64 a.op) := K0.out.cell 1 0 _ _ rfl rfl
  have c1 : w0.cell? ⟨G1, 1, none⟩ = some (.int .i64 a.n) := K0.out.cell 1 1 _ _ rfl rfl
  have c2 : w0.cell? ⟨G1, 2, none⟩ = some (.slice sa a.data.length ca) := K0.out.cell 1 2 _ _ rfl rfl
  have d0 : w0.cell? ⟨G2, 0, none⟩ = some (.int .i64 b.op) := K0.out.cell 0 0 _ _ rfl rfl
  have d1 : w0.cell? ⟨G2, 1, none⟩ = some (.int .i64 b.n) := K0.out.cell 0 1 _ _ rfl rfl
  have d2 : w0.cell? ⟨G2, 2, none⟩ = some (.slice sb b.data.length cb) := K0.out.cell 0 2 _ _ rfl rfl
  obtain ⟨B, hB⟩ : ∃ B, opE a b = B := ⟨_, rfl⟩
  have HB := Lib.hid hB
  clear hB
  by_cases e1 : a.op = b.op
  · have f1 : (a.op == b.op) = true := by rw [e1]; simp
    by_cases e2 : a.n = b.n
    · have f2 : (a.n == b.n) = true := by rw [e2]; simp
      have HBE : Hid (B = decide (a.data = b.data)) := Lib.hid (by rw [← HB.out]; unfold opE; rw [decide_eq_true e1, decide_eq_true e2]; rfl)
      clear e1 e2
      go_wp2_with fail
      refine (bytesEqual_any _ _ a.data.length b.data.length a.data b.data w0 (rd_below H1.out K0.out.below) rfl (rd_below H2.out K0.out.below) rfl).mono ?_
      rintro e w1 ⟨rfl, rfl⟩
      rw [← HBE.out]
      go_wp2
      go_ret
      exact ⟨by rw [HB.out]; rfl, K0.out.below⟩
    · have f2 : (a.n == b.n) = false := by simp [e2]
      have HBE : Hid (B = false) := Lib.hid (by rw [← HB.out]; unfold opE; rw [decide_eq_false e2]; simp)
      clear e1 e2
      go_wp2
      go_ret
      exact ⟨by rw [HB.out, HBE.out]; rfl, K0.out.below⟩
  · have f1 : (a.op == b.op) = false := by simp [e1]
    have HBE : Hid (B = false) := Lib.hid (by rw [← HB.out]; unfold opE; rw [decide_eq_false e1]; simp)
    clear e1
    go_wp2
    go_ret
    exact ⟨by rw [HB.out, HBE.out]; rfl, K0.out.below⟩
theorem enters_same1 : Enters 99 := fun args W => by kernel_rfl
set_option maxHeartbeats 4000000 in
set_option maxRecDepth 100000 in
theorem equalFunc_any (xs ys : List OpD) (ao bo : Option Addr) (c d : Nat) (w : World) (h1 : rdSl opR 3 w (.slice ao xs.length c) xs) (h2 : rdSl opR 3 w (.slice bo ys.length d) ys) :
    Calls Tryz.prog 98 #[.slice ao xs.length c, .slice bo ys.length d, .func (Fn.func 99) #[] #[]] w fun e w' => e = .returned (.bool (opsE xs ys)) ∧ Below w.heap.size w w' := by
  obtain ⟨_, _, e, k1, k2⟩ := sl_bounds h1
  cases e
  obtain ⟨_, _, e, p1, p2⟩ := sl_bounds h2
  cases e
  unfold maxLen at k2 p2
  have hcf := enters_same1
  unfold Enters at hcf
  have H1 := Lib.hid h1; have H2 := Lib.hid h2
  clear h1 h2
  go_enter Tryz.func98, Tryz.ntmps98
  by_cases hl : xs.length = ys.length
  · have hlb : ((xs.length : Int) != ys.length) = false := by rw [hl]; simp
    have HL := Lib.hid hl
    clear hl
    go_wp2_with fail
    clear hlb
    go_loopw [17] (fun c wr => ∃ j : Nat, j ≤ xs.length ∧ c = .int .i64 j ∧ Hid (Below w.heap.size w wr) ∧ Hid (opsE xs ys = opsE (xs.drop j) (ys.drop j))) (fun c _ => xs.length - (intOf c).toNat)
    case atStart => exact ⟨0, by omega, rfl, Lib.hid (Below.refl _ _), Lib.hid rfl⟩
    case round =>
      obtain ⟨j, hj, rfl, HB, HF⟩ := hrel
      by_cases hlt : j < xs.length
      · have hlt2 : j < ys.length := by have := HL.out; omega
        obtain ⟨g, off, so, sc, rfl, -, d1, d2, hd1, hrow⟩ := op_at (opR_stays.slB H1.out HB.out (Nat.le_refl _)) j hlt
        obtain ⟨g2, off2, so2, sc2, rfl, -, d3, d4, hd2, hrow2⟩ := op_at (opR_stays.slB H2.out HB.out (Nat.le_refl _)) j hlt2
        have HS := Lib.hid (opsE_step xs ys j hlt hlt2)
        have HT := Lib.hid (opsE_stop xs ys j hlt hlt2)
        obtain ⟨x, hx⟩ : ∃ x, xs[j] = x := ⟨_, rfl⟩
        obtain ⟨y, hy⟩ : ∃ y, ys[j] = y := ⟨_, rfl⟩
        rw [hx] at d1 hd1 hrow HS HT
        rw [hy] at d3 hd2 hrow2 HS HT
        have D1 := Lib.hid hd1; have D2 := Lib.hid hd2
        clear hx hy hd1 hd2
        obtain ⟨n1, n2, n3, -⟩ := new_op wr x.op x.n so x.data.length sc
        have hr2 : rowAt (wr.alloc (.cells (opVs x so sc) 151)) g2 (off2 + j * 3) 3 = some #[.int .i64 y.op, .int .i64 y.n, .slice so2 y.data.length sc2] := (rowAt_below ((Below.refl wr.heap.size wr).alloc (Nat.le_refl _) _) (rowAt_lt hrow2) _ _).trans hrow2
        obtain ⟨m1, m2, m3, -⟩ := new_op (wr.alloc (.cells (opVs x so sc) 151)) y.op y.n so2 y.data.length sc2
        have k0 := ((Kept.refl wr).alloc (opVs x so sc) 151).alloc (opVs y so2 sc2) 151
        rw [show (wr.alloc (.cells (opVs x so sc) 151)).heap.size = wr.heap.size + 1 from by simp] at k0
        have K0 := Lib.hid k0
        unfold zOp at n1 n2 m1 m2
        unfold opVs at m1 m2 hr2
        clear k0
        go_upto_region 7 with fail
        clear n1 n2 n3 m1 m2 m3 hr2 hrow hrow2
        change Code.wp _ _ _ _ ((wr.alloc (.cells (opVs x so sc) 151)).alloc (.cells (opVs y so2 sc2) 151))
        obtain ⟨G2, hG2⟩ : ∃ G, wr.heap.size + 1 = G := ⟨_, rfl⟩
        rw [hG2] at K0 ⊢
        clear hG2
        obtain ⟨G1, hG1⟩ : ∃ G, wr.heap.size = G := ⟨_, rfl⟩
        have K0' : Hid (∃ w0, (wr.alloc (.cells (opVs x so sc) 151)).alloc (.cells (opVs y so2 sc2) 151) = w0 ∧ Kept wr [(G2, opVs y so2 sc2, 151), (G1, opVs x so sc, 151)] w0) := Lib.hid ⟨_, rfl, by rw [← hG1]; exact K0.out⟩
        rw [hG1] at ⊢
        clear hG1 K0
        obtain ⟨w0, hw0, k0⟩ := K0'.out
        rw [hw0]
        have K0 := Lib.hid k0
        clear hw0 k0 K0'
        have r1 : rowAt w0 G1 0 3 = some #[.int .i64 x.op, .int .i64 x.n, .slice so x.data.length sc] := K0.out.row 1 _ 3 rfl rfl
        have r2 : rowAt w0 G2 0 3 = some #[.int .i64 y.op, .int .i64 y.n, .slice so2 y.data.length sc2] := K0.out.row 0 _ 3 rfl rfl
        go_wp2_with fail
        refine (sameOp_any x y so so2 sc sc2 w0 (rd_below D1.out K0.out.below) (rd_below D2.out K0.out.below)).mono ?_
        rintro e w1 ⟨rfl, hb⟩
        have B1 := Lib.hid (HB.out.trans ((K0.out.below.trans (hb.mono K0.out.below.size)).mono HB.out.size))
        clear hb r1 r2
        obtain ⟨b, hb⟩ : ∃ b, opE x y = b := ⟨_, rfl⟩
        rw [hb] at HS HT ⊢
        clear hb
        cases b
        · have HF2 := Lib.hid (HF.out.trans (HT.out rfl))
          go_wp2
          go_ret
          exact ⟨by rw [HF2.out]; rfl, B1.out⟩
        · have HF2 := Lib.hid (HF.out.trans (HS.out rfl))
          go_wp2
          go_roundw
          case rel => exact ⟨j + 1, by omega, by go_num, B1, HF2⟩
          case measure => simp [intOf]; omega
      · have hz : opsE xs ys = true := by rw [HF.out, List.drop_eq_nil_of_le (by omega), List.drop_eq_nil_of_le (by have := HL.out; omega)]; rfl
        have HZ := Lib.hid hz
        clear hz
        go_wp2
        go_ret
        exact ⟨by rw [HZ.out]; rfl, HB.out⟩
  · have hlb : ((xs.length : Int) != ys.length) = true := by simp; omega
    have hz : opsE xs ys = false := by
      cases hb : opsE xs ys with
      | false => rfl
      | true => exact absurd (congrArg List.length ((opsE_iff _ _).1 hb)) hl
    have HZ := Lib.hid hz
    clear hz hl
    go_wp2
    go_ret
    exact ⟨by rw [HZ.out]; rfl, Below.refl _ _⟩
def outE (x : Int) (l : List OpD) (y : Int) (m : List OpD) : Bool := decide (x = y) && opsE l m
set_option maxHeartbeats 4000000 in
set_option maxRecDepth 100000 in
theorem same_any (x y : Int) (l m : List OpD) (ao bo : Option Addr) (c d : Nat) (w : World) (h1 : rdSl opR 3 w (.slice ao l.length c) l) (h2 : rdSl opR 3 w (.slice bo m.length d) m) :
    Calls Tryz.prog 64 #[.agg #[.int .i64 x, .slice ao l.length c], .agg #[.int .i64 y, .slice bo m.length d]] w fun e w' => e = .returned (.bool (outE x l y m)) ∧ Below w.heap.size w w' := by
  have k0 := ((Kept.refl w).alloc #[.int .i64 x, .slice ao l.length c] 103).alloc #[.int .i64 y, .slice bo m.length d] 103
  rw [show (w.alloc (.cells #[.int .i64 x, .slice ao l.length c] 103)).heap.size = w.heap.size + 1 from by simp] at k0
  obtain ⟨n1, n2, n3⟩ := new_out w x ao l.length c
  obtain ⟨m1, m2, m3⟩ := new_out (w.alloc (.cells #[.int .i64 x, .slice ao l.length c] 103)) y bo m.length d
  unfold zOut at n1 n2 m1 m2
  have H1 := Lib.hid h1; have H2 := Lib.hid h2; have K0 := Lib.hid k0
  clear h1 h2 k0
  go_enter Tryz.func64, Tryz.ntmps64
  go_upto_region 1 with fail
  clear n1 n2 n3 m1 m2 m3
  change Code.wp _ _ _ _ ((w.alloc (.cells #[.int .i64 x, .slice ao l.length c] 103)).alloc (.cells #[.int .i64 y, .slice bo m.length d] 103))
  obtain ⟨G2, hG2⟩ : ∃ G, w.heap.size + 1 = G := ⟨_, rfl⟩
  rw [hG2] at K0 ⊢
  clear hG2
  obtain ⟨G1, hG1⟩ : ∃ G, w.heap.size = G := ⟨_, rfl⟩
  have K0' : Hid (∃ w0, (w.alloc (.cells #[.int .i64 x, .slice ao l.length c] 103)).alloc (.cells #[.int .i64 y, .slice bo m.length d] 103) = w0 ∧ Kept w [(G2, #[.int .i64 y, .slice bo m.length d], 103), (G1, #[.int .i64 x, .slice ao l.length c], 103)] w0) := Lib.hid ⟨_, rfl, by rw [← hG1]; exact K0.out⟩
  rw [hG1] at ⊢
  clear hG1 K0
  obtain ⟨w0, hw0, k0⟩ := K0'.out
  rw [hw0]
  have K0 := Lib.hid k0
  clear hw0 k0 K0'
  have c0 : w0.cell? ⟨G1, 0, none⟩ = some (.int .i64 x) := K0.out.cell 1 0 _ _ rfl rfl
  have c1 : w0.cell? ⟨G1, 1, none⟩ = some (.slice ao l.length c) := K0.out.cell 1 1 _ _ rfl rfl
  have d0 : w0.cell? ⟨G2, 0, none⟩ = some (.int .i64 y) := K0.out.cell 0 0 _ _ rfl rfl
  have d1 : w0.cell? ⟨G2, 1, none⟩ = some (.slice bo m.length d) := K0.out.cell 0 1 _ _ rfl rfl
  by_cases e1 : x = y
  · have f1 : (x == y) = true := by rw [e1]; simp
    have HBE : Hid (outE x l y m = opsE l m) := Lib.hid (by unfold outE; rw [decide_eq_true e1]; rfl)
    clear e1
    go_wp2_with fail
    refine (equalFunc_any l m ao bo c d w0 (opR_stays.slB H1.out K0.out.below (Nat.le_refl _)) (opR_stays.slB H2.out K0.out.below (Nat.le_refl _))).mono ?_
    rintro e w1 ⟨rfl, hb⟩
    have K1 := Lib.hid (K0.out.on hb)
    clear hb
    go_wp2
    go_ret
    exact ⟨by rw [HBE.out]; rfl, K1.out.below⟩
  · have f1 : (x == y) = false := by simp [e1]
    have HBE : Hid (outE x l y m = false) := Lib.hid (by unfold outE; rw [decide_eq_false e1]; rfl)
    clear e1
    go_wp2
    go_ret
    exact ⟨by rw [HBE.out]; rfl, K0.out.below⟩
end Go.Proofs.YtljcdkfafknnpaaGreatDoor
namespace Go.Proofs.YtljcdkfafknnpaaGreatDoor
set_option linter.unusedVariables false
set_option linter.unusedSimpArgs false
open Go.RowKit
attribute [local go_sem ↓] run_load_agg run_store_agg run_load_any run_build_coin

/-- Is what a payment made there, just that? -/
def oneB (cs : List CoinD) (n : CoinD) : Bool := match getC cs n.place with
  | some c => outE c.amount c.lock n.amount n.lock
  | none => false
def madeB (cs news : List CoinD) : Bool := news.all fun n => oneB cs n
def backE : List CoinD → List InD → List CoinD → Int
  | out, x :: xs, s :: ss => if plE s.place x.place = false then 11 else if atP out s.place = true then 6 else backE (insC s out) xs ss
  | out, _, _ => setF out
def undoE (cs : List CoinD) (t : TxD) (sp : List CoinD) : Int :=
  if chkF cs t ≠ 0 then chkF cs t
  else if madeB cs (newsT t 0) = false then 5
  else if sp.length ≠ t.ins.length then 3
  else backE (lessC cs (newsT t 0)) t.ins sp
def undoS (cs : List CoinD) (t : TxD) (sp : List CoinD) : List CoinD := withC (lessC cs (newsT t 0)) sp
def UndoPost (cs : List CoinD) (t : TxD) (sp : List CoinD) (w : World) (e : Ending) (w' : World) : Prop :=
  Below w.heap.size w w' ∧ ((undoE cs t sp ≠ 0 ∧ e = .returned (.tuple #[.slice none 0 0, errV (undoE cs t sp)])) ∨
    (undoE cs t sp = 0 ∧ ∃ v, e = .returned (.tuple #[v, errV 0]) ∧ rdSl coinR 36 w' v (undoS cs t sp)))
theorem undoPost_no {cs : List CoinD} {t : TxD} {sp : List CoinD} {w w' : World} {e : Ending} (f : Int) (hf : undoE cs t sp = f) (hz : f ≠ 0) (hb : Below w.heap.size w w') (he : e = .returned (.tuple #[.slice none 0 0, errV f])) : UndoPost cs t sp w e w' :=
  ⟨hb, .inl ⟨by rw [hf]; exact hz, by rw [hf]; exact he⟩⟩
theorem undoPost_yes {cs : List CoinD} {t : TxD} {sp : List CoinD} {w w' : World} {e : Ending} (v : Value) (hf : undoE cs t sp = 0) (hb : Below w.heap.size w w') (he : e = .returned (.tuple #[v, errV 0])) (h1 : rdSl coinR 36 w' v (undoS cs t sp)) : UndoPost cs t sp w e w' :=
  ⟨hb, .inr ⟨hf, v, he, h1⟩⟩
theorem oneB_of {cs : List CoinD} {n : CoinD} {i : Nat} {b : Bool} (hs : sortedP cs) (h : foundAt cs n.place i b) : (b = false → oneB cs n = false) ∧ (∀ (hb : b = true), ∃ hi : i < cs.length, oneB cs n = outE cs[i].amount cs[i].lock n.amount n.lock) := by
  refine ⟨fun hb => ?_, fun hb => ?_⟩
  · unfold oneB
    rw [getC_none]
    unfold atP
    rw [List.any_eq_false]
    intro c hc
    obtain ⟨k, hk, rfl⟩ := List.mem_iff_getElem.1 hc
    rw [h.2.1 hb k hk]; decide
  · obtain ⟨hi, hp⟩ := h.1 hb
    refine ⟨hi, ?_⟩
    unfold oneB
    rw [getC_of hs (List.getElem_mem hi) (plE_eq hp)]
theorem madeB_no {cs news : List CoinD} {n : CoinD} (hn : n ∈ news) (h : oneB cs n = false) : madeB cs news = false := by
  unfold madeB
  rw [List.all_eq_false]
  exact ⟨n, hn, by rw [h]; decide⟩
theorem madeB_yes {cs news : List CoinD} (h : ∀ n ∈ news, oneB cs n = true) : madeB cs news = true := by
  unfold madeB
  rw [List.all_eq_true]
  exact h
theorem Kept.tail1 {w w1 : World} {b : BoxD} {bs : List BoxD} (h : Kept w (b :: bs) w1) : Kept w bs w1 := ⟨h.below, fun x hx => h.at_ x (List.mem_cons_of_mem _ hx)⟩
theorem Kept.grown {w w1 w2 : World} {bs : List BoxD} {r : Option Nat} (h : Kept w bs w1) (hg : w1.grownBy w2 r) (hr : ∀ q, r = some q → w.heap.size ≤ q) (hs : ∀ b ∈ bs, b.1 < w.heap.size) : Kept w bs w2 :=
  ⟨h.below.grown hg h.below.size hr, fun b hb => (hg.block b.1 (Array.getElem?_eq_some_iff.1 (h.at_ b hb)).1 (fun e => by have := hr b.1 e.symm; have := hs b hb; omega)).trans (h.at_ b hb)⟩
theorem backE_at (out : List CoinD) (xs : List InD) (ss : List CoinD) (j : Nat) (h1 : j < xs.length) (h2 : j < ss.length) : backE out (xs.drop j) (ss.drop j) = if plE ss[j].place xs[j].place = false then 11 else if atP out ss[j].place = true then 6 else backE (insC ss[j] out) (xs.drop (j + 1)) (ss.drop (j + 1)) := by
  rw [List.drop_eq_getElem_cons h1, List.drop_eq_getElem_cons h2, backE]
theorem backE_end (out : List CoinD) (xs : List InD) (ss : List CoinD) (j : Nat) (h2 : ss.length ≤ j) : backE out (xs.drop j) (ss.drop j) = setF out := by
  rw [List.drop_eq_nil_of_le h2]
  cases xs.drop j <;> rfl
theorem coinV_out (c : CoinD) (s : Value) (h : c.tx.length = 32) : (coinV c s).extract 33 (33 + 2) = #[.int .i64 c.amount, s] := by
  obtain ⟨t1, t2, t3, t4⟩ := coinV_tail c s h
  have hz := coinV_size c s h
  apply Array.ext
  · simp [hz]
  · intro i h1 h2
    have hi : i = 0 ∨ i = 1 := by simp at h2; omega
    rcases hi with rfl | rfl
    · have := Array.getElem?_eq_some_iff.1 t2
      obtain ⟨q, hq⟩ := this
      simpa using hq
    · have := Array.getElem?_eq_some_iff.1 t3
      obtain ⟨q, hq⟩ := this
      simpa using hq
theorem coin_out {w : World} {g o : Nat} {c : CoinD} {s : Value} (h : rowAt w g o 36 = some (coinV c s)) (h32 : c.tx.length = 32) : rowAt w g (o + 33) 2 = some #[.int .i64 c.amount, s] := by
  have := rowAt_part h 33 2 (by omega)
  rw [coinV_out c s h32] at this
  exact this
set_option maxHeartbeats 8000000 in
set_option maxRecDepth 100000 in
theorem undo_any (cs : List CoinD) (t : TxD) (sp : List CoinD) (ca ai ao sa : Option Addr) (cc ci co sc : Nat) (w : World) (hc : rdSl coinR 36 w (.slice ca cs.length cc) cs) (hi : rdSl inR 34 w (.slice ai t.ins.length ci) t.ins) (ho : rdSl outR 2 w (.slice ao t.outs.length co) t.outs) (hs : rdSl coinR 36 w (.slice sa sp.length sc) sp) (hT : tabAt w)
    (hcp : sp.length ≤ 40 → ∀ W, Below w.heap.size w W → Calls Tryz.prog 61 #[.slice sa sp.length sc] W (CopyPost sp W)) :
    Calls Tryz.prog 27 #[.slice ca cs.length cc, .agg #[.slice ai t.ins.length ci, .slice ao t.outs.length co, .int .i64 t.time], .slice sa sp.length sc] w (UndoPost cs t sp w) := by
  obtain ⟨n1, n2, n3⟩ := new_tx w ai ao t.ins.length t.outs.length ci co t.time
  have k0 := (Kept.refl w).alloc (txV t ai ao ci co) 59
  unfold zTx at n1 n2
  obtain ⟨_, _, e, i1, i2⟩ := sl_bounds hi
  cases e
  obtain ⟨_, _, e, k1, k2⟩ := sl_bounds hc
  cases e
  obtain ⟨_, _, e, q1, q2⟩ := sl_bounds hs
  cases e
  unfold maxLen at i2 k2 q2
  have hgT := rowAt_lt hT
  have HC := Lib.hid hc; have HI := Lib.hid hi; have HO := Lib.hid ho; have HT := Lib.hid hT; have HSP := Lib.hid hs; have HCP := Lib.hid hcp
  have K0 := Lib.hid k0
  obtain ⟨i0, hi0, hz0, hz1, hz2⟩ := info_parts' info_coin
  clear hc hi ho hT k0 hs hcp
  go_enter Tryz.func27, Tryz.ntmps27
  go_upto_region 1 with fail
  clear n1 n2 n3
  change Code.wp _ _ _ _ (w.alloc (.cells (txV t ai ao ci co) 59))
  obtain ⟨G, hG⟩ : ∃ G, w.heap.size = G := ⟨_, rfl⟩
  have hGe : w.heap.size ≤ G := by omega
  have K0' : Hid (∃ w0, w.alloc (.cells (txV t ai ao ci co) 59) = w0 ∧ Kept w [(G, txV t ai ao ci co, 59)] w0) := Lib.hid ⟨_, rfl, by rw [← hG]; exact K0.out⟩
  rw [hG] at ⊢
  clear hG K0
  obtain ⟨w0, hw0, k0⟩ := K0'.out
  rw [hw0]
  have K0 := Lib.hid k0
  clear hw0 k0 K0'
  have r3 : rowAt w0 G 0 3 = some #[.slice ai t.ins.length ci, .slice ao t.outs.length co, .int .i64 t.time] := K0.out.row 0 _ 3 rfl rfl
  go_wp2_with fail
  refine (checked_any cs t ca ai ao cc ci co w0 (coinR_stays.slB HC.out K0.out.below (Nat.le_refl _)) (inR_stays.slB HI.out K0.out.below (Nat.le_refl _)) (outR_stays.slB HO.out K0.out.below (Nat.le_refl _))).mono ?_
  rintro e w1 ⟨rfl, hb⟩
  have K1 := Lib.hid (K0.out.on hb)
  clear hb r3
  obtain ⟨f, hf⟩ : ∃ f, chkF cs t = f := ⟨_, rfl⟩
  have HFF := Lib.hid hf
  rw [hf]
  clear hf
  by_cases hz : f = 0
  rotate_left
  · rw [errV_ne hz]
    have HE : Hid (undoE cs t sp = f) := by show undoE cs t sp = f; unfold undoE; rw [if_pos (by rw [HFF.out]; exact hz), HFF.out]
    have HZ := Lib.hid hz
    clear hz
    go_wp2
    go_ret2
    exact undoPost_no f HE.out HZ.out K1.out.below (by rw [errV_ne HZ.out]; rfl)
  subst hz
  rw [errV_0]
  have hsf : setF cs = 0 := by
    have := HFF.out
    unfold chkF at this
    split at this
    · assumption
    · rename_i hn; exact absurd this hn
  have htf : txF t = 0 := by
    have := HFF.out
    unfold chkF at this
    rw [if_pos hsf] at this
    exact this
  have HE1 : Hid (∀ f, (if madeB cs (newsT t 0) = false then 5
      else if sp.length ≠ t.ins.length then 3
      else backE (lessC cs (newsT t 0)) t.ins sp) = f → undoE cs t sp = f) := fun f hf => by unfold undoE; rw [if_neg (by rw [HFF.out]; simp)]; exact hf
  have hcl := (setF_zero cs hsf).1
  have hil := (txOk_of htf).ins
  have hol := (txOk_of htf).outs
  have HSF := Lib.hid hsf; have HTF := Lib.hid htf
  have H32 := Lib.hid (all32_of HC.out)
  have HSO := Lib.hid (sorted_of cs H32.out hsf)
  have hnl : (newsT t 0).length = t.outs.length := newsC_length _ _ _ _
  have HNL := Lib.hid hnl
  clear hsf htf hnl
  have r3 : rowAt w1 G 0 3 = some #[.slice ai t.ins.length ci, .slice ao t.outs.length co, .int .i64 t.time] := K1.out.row 0 _ 3 rfl rfl
  go_wp2_with fail
  refine (made_any t ai ao ci co 0 w1 (inR_stays.slB HI.out K1.out.below (Nat.le_refl _)) (outR_stays.slB HO.out K1.out.below (Nat.le_refl _)) ((rowAt_below K1.out.below hgT 0 64).trans HT.out) HTF.out).mono ?_
  rintro e w2 ⟨v, rfl, hno, hb⟩
  have K2 := Lib.hid (K1.out.on hb)
  clear hb r3
  change setO w1.heap.size w2 v (newsT t 0) at hno
  obtain ⟨na, ncap, rfl, m1, m2⟩ := sl_bounds hno.rd
  unfold maxLen at m2
  have HN := Lib.hid hno.rd
  clear hno
  obtain ⟨news, hnw⟩ : ∃ news, newsT t 0 = news := ⟨_, rfl⟩
  have HNW := Lib.hid hnw
  rw [hnw] at HE1 HNL HN m1 ⊢
  clear hnw
  have hnl2 : news.length ≤ 40 := by have := HNL.out; omega
  have J2 := Lib.hid K2.out.self
  go_wp2_with fail
  go_loopw [30] (fun c wr => ∃ j : Nat, j ≤ news.length ∧ c = .int .i64 j ∧ Hid (Kept w2 [(G, txV t ai ao ci co, 59)] wr) ∧ Hid (∀ n ∈ news.take j, oneB cs n = true)) (fun c _ => news.length - (intOf c).toNat)
  case atStart => exact ⟨0, by omega, rfl, J2, Lib.hid (fun n hn => by simp at hn)⟩
  case round =>
    obtain ⟨j, hj, rfl, HJ, HA⟩ := hrel
    by_cases hlt : j < news.length
    · obtain ⟨g, off, so, scap, rfl, -, h32, d1, d2, hlk, hrow⟩ := coin_at (coinR_stays.slB HN.out HJ.out.below (Nat.le_refl _)) j hlt
      have HTK : Hid (news.take (j + 1) = news.take j ++ [news[j]]) := Lib.hid (List.take_succ_eq_append_getElem hlt)
      have HMEM := Lib.hid (List.getElem_mem hlt)
      obtain ⟨n, hn⟩ : ∃ n, news[j] = n := ⟨_, rfl⟩
      rw [hn] at h32 d1 hlk hrow HTK HMEM
      have HLK := Lib.hid hlk
      clear hn hlk
      obtain ⟨p1, p2, p3, p4⟩ := new_coin wr n so n.lock.length scap h32
      unfold zCoin at p1 p2
      go_upto_region 8 with fail
      clear p1 p2 p3 p4 hrow
      have K7' : Hid (∃ D w7, wr.heap.size = D ∧ wr.alloc (.cells (coinV n (.slice so n.lock.length scap)) 105) = w7 ∧ rdSl opR 3 w7 (.slice so n.lock.length scap) n.lock ∧ CoinAt w7 D n (.slice so n.lock.length scap) ∧ Kept w2 [(D, coinV n (.slice so n.lock.length scap), 105), (G, txV t ai ao ci co, 59)] w7) :=
        Lib.hid ⟨_, _, rfl, rfl, opR_stays.slB HLK.out ((Below.refl wr.heap.size wr).alloc (Nat.le_refl _) _) (Nat.le_refl _), CoinAt.new wr n _ h32, HJ.out.alloc _ _⟩
      change Code.wp _ _ _ _ (wr.alloc (.cells (coinV n (.slice so n.lock.length scap)) 105))
      obtain ⟨D, w7, hd, hw, hlk, hca, k7⟩ := K7'.out
      rw [hd, hw]
      have J7 := Lib.hid k7
      have HLK7 := Lib.hid hlk
      have hp := hca.p
      have hp32 : n.place.tx.length = 32 := h32
      have HCA := Lib.hid hca
      clear hd hw k7 K7' hlk HLK hca
      have K7 := Lib.hid (K2.out.from_ J7.out)
      go_wp2_with fail
      refine (cfind_any cs ca cc n.place hp32 w7 (coinR_stays.slB HC.out K7.out.below (Nat.le_refl _)) (by omega) H32.out HSO.out).mono ?_
      rintro e w8 ⟨i, b, rfl, hf1, hi1, hb⟩
      have J8 := Lib.hid (J7.out.on hb)
      have HLK8 := Lib.hid (opR_stays.slB HLK7.out hb (Nat.le_refl _))
      have HCA8 := Lib.hid (HCA.out.on hb)
      have HOB := Lib.hid (oneB_of ((sorted_iff cs).1 HSO.out) hf1)
      clear hb hp hf1 HLK7 HCA
      cases b
      · have HE5 : Hid (undoE cs t sp = 5) := HE1.out 5 (by rw [if_pos (madeB_no HMEM.out (HOB.out.1 rfl))])
        have K8 := Lib.hid (K2.out.from_ J8.out)
        clear HOB HCA8 HLK8
        go_wp2_with fail
        go_region
        all_goals
          go_wp2
          go_ret2
          exact undoPost_no 5 HE5.out (by decide) K8.out.drew.below rfl
      · obtain ⟨hic, hone⟩ := HOB.out.2 rfl
        have K8 := Lib.hid (K2.out.from_ J8.out)
        obtain ⟨g2, off2, so2, scap2, rfl, -, h322, -, -, hlk2, hrow2⟩ := coin_at (coinR_stays.slB HC.out K8.out.below (Nat.le_refl _)) i hic
        have HONE := Lib.hid hone
        have HIC := Lib.hid hic
        obtain ⟨c, hcc⟩ : ∃ c, cs[i]'hic = c := ⟨_, rfl⟩
        simp only [hcc] at h322 hlk2 hrow2 HONE
        have HLK2 := Lib.hid hlk2
        have HR1 := Lib.hid (coin_out hrow2 h322)
        have HR2 : Hid (rowAt w8 D 33 2 = some #[.int .i64 n.amount, .slice so n.lock.length scap]) := Lib.hid (by have := coin_out (J8.out.row 0 _ 36 rfl (coinV_size n _ h32)) h32; rwa [Nat.zero_add] at this)
        have hgl2 := Lib.hid (rowAt_lt hrow2)
        have hgl3 := Lib.hid (rowAt_lt HR2.out)
        have HB8 := Lib.hid ((Below.refl w8.heap.size w8).drew)
        clear hcc hlk2 hrow2 hone HOB HCA8
        go_wp2_with fail
        go_region_held3 (fun w' => rowAt w' g2 (off2 + i * 36 + 33) 2 = some #[.int .i64 c.amount, .slice so2 c.lock.length scap2] ∧ rowAt w' D 33 2 = some #[.int .i64 n.amount, .slice so n.lock.length scap])
          (exact ⟨(rowAt_below HB8.out hgl2.out _ _).trans HR1.out, (rowAt_below HB8.out hgl3.out _ _).trans HR2.out⟩)
          (first
            | (go_at_call 64
               refine (same_any c.amount n.amount c.lock n.lock so2 so scap2 scap _ (opR_stays.slB HLK2.out HB8.out (Nat.le_refl _)) (opR_stays.slB HLK8.out HB8.out (Nat.le_refl _))).mono ?_
               rintro e w' ⟨rfl, hd⟩
               replace HB8 := Lib.hid (HB8.out.trans (hd.mono HB8.out.size))
               clear hd))
        obtain ⟨b, hb⟩ : ∃ b, outE c.amount c.lock n.amount n.lock = b := ⟨_, rfl⟩
        rw [hb] at HONE ⊢
        have J9 := Lib.hid (J8.out.on HB8.out)
        have K9 := Lib.hid (K2.out.from_ J9.out)
        clear hb HB8 HR1 HR2 HLK2 hgl2 hgl3 HLK8 J8 K8
        cases b
        · have HE5 : Hid (undoE cs t sp = 5) := HE1.out 5 (by rw [if_pos (madeB_no HMEM.out HONE.out)])
          go_wp2
          go_ret2
          exact undoPost_no 5 HE5.out (by decide) K9.out.below rfl
        · have HA2 : Hid (∀ m ∈ news.take (j + 1), oneB cs m = true) := Lib.hid (by
            intro m hm
            rw [HTK.out, List.mem_append, List.mem_singleton] at hm
            rcases hm with hm | rfl
            · exact HA.out m hm
            · exact HONE.out)
          go_wp2_with fail
          go_roundw
          case rel => exact ⟨j + 1, by omega, by go_num, Lib.hid J9.out.tail1, HA2⟩
          case measure => simp [intOf]; omega
    · have HM : Hid (∀ n ∈ news, oneB cs n = true) := Lib.hid (by have := HA.out; rwa [List.take_of_length_le (by omega)] at this)
      have HE2 : Hid (∀ f, (if sp.length ≠ t.ins.length then 3 else backE (lessC cs news) t.ins sp) = f → undoE cs t sp = f) := Lib.hid fun f hf => HE1.out f (by rw [if_neg (by rw [madeB_yes HM.out]; decide), ← HNW.out]; rw [← HNW.out] at hf; exact hf)
      have HK := Lib.hid (K2.out.from_ HJ.out)
      have c0 : wr.cell? ⟨G, 0, none⟩ = some (.slice ai t.ins.length ci) := HK.out.cell 0 0 _ _ rfl rfl
      clear HA HM HE1
      by_cases hl : sp.length = t.ins.length
      rotate_left
      · have f1 : ((sp.length : Int) != t.ins.length) = true := by simp; omega
        have HE3 : Hid (undoE cs t sp = 3) := HE2.out 3 (by rw [if_pos hl])
        clear hl
        go_wp2
        go_ret2
        exact undoPost_no 3 HE3.out (by decide) HK.out.below rfl
      have f1 : ((sp.length : Int) != t.ins.length) = false := by rw [hl]; simp
      have HL := Lib.hid hl
      have HE3 : Hid (∀ f, backE (lessC cs news) t.ins sp = f → undoE cs t sp = f) := Lib.hid fun f hf => HE2.out f (by rw [if_neg (by rw [HL.out]; simp)]; exact hf)
      clear hl HE2
      go_upto_region 14 with fail
      clear c0 f1 hlt hj
      go_wp2_with fail
      obtain ⟨w4, hw4⟩ : ∃ w4, wr = w4 := ⟨_, rfl⟩
      rw [hw4] at HK HJ ⊢
      clear hw4
      refine (without_any cs news ca na cc ncap w4 (coinR_stays.slB HC.out HK.out.below (Nat.le_refl _)) (coinR_stays.slB HN.out HJ.out.below (Nat.le_refl _)) hcl (locks_of HSF.out)).mono ?_
      rintro e w5 ⟨v, rfl, hso, hb⟩
      have J5 := Lib.hid (HK.out.self.on hb)
      have hs45 := hb.size
      have hGB : G < w4.heap.size := (Array.getElem?_eq_some_iff.1 (HK.out.get 0 _ rfl)).1
      have K5 := Lib.hid (HK.out.from_ J5.out)
      obtain ⟨va, vcap, rfl, -, -⟩ := sl_bounds hso.rd
      have HSO0 := Lib.hid hso
      have HKB := HK
      clear hb HJ hso HK
      obtain ⟨L, hL⟩ : ∃ L, lessC cs news = L := ⟨_, rfl⟩
      have HLL := Lib.hid hL
      rw [hL] at HE3 HSO0 ⊢
      clear hL
      go_wp2_with fail
      refine (HCP.out (by have := HL.out; omega) w5 K5.out.below).mono ?_
      rintro e w6 ⟨cv, ys, rfl, hco, hce, hb⟩
      have HCO : Hid (setO w5.heap.size w6 cv sp) := Lib.hid ⟨ys, hco, hce⟩
      have hsz5 := hb.size
      have HSO6 := Lib.hid (HSO0.out.below hb)
      have K6 := Lib.hid (K5.out.on hb)
      have HROW : Hid (∀ k, wrow (.slice va L.length vcap) = some k → w4.heap.size ≤ k ∧ k < w5.heap.size) := Lib.hid fun k hk => by
        obtain ⟨xs, ho⟩ := setO_own HSO0.out
        exact ⟨(own_lt ho hk).1, (own_lt ho hk).2.1⟩
      have J6 := Lib.hid (J5.out.on hb)
      have HCO6 := Lib.hid (HCO.out.base hs45)
      have HCROW : Hid (∀ k, wrow cv = some k → w5.heap.size ≤ k ∧ k < w6.heap.size) := Lib.hid fun k hk => by
        obtain ⟨xs, ho⟩ := setO_own HCO.out
        exact ⟨(own_lt ho hk).1, (own_lt ho hk).2.1⟩
      obtain ⟨ka, kcap, rfl, kc1, kc2⟩ := sl_bounds HCO.out.rd
      unfold maxLen at kc2
      have HLS : Hid (sortedP L) := Lib.hid (by rw [← HLL.out]; exact lessC_sorted ((sorted_iff cs).1 HSO.out))
      have HL32 : Hid (all32' L) := Lib.hid (by rw [← HLL.out]; exact fun c hc => (all32_iff cs).1 H32.out c (mem_lessC.1 hc).1)
      have HLN : Hid (L.length ≤ 1000) := Lib.hid (by rw [← HLL.out]; exact Nat.le_trans (lessC_length _ _) hcl)
      have HS32 : Hid (all32' sp) := Lib.hid ((all32_iff sp).1 (all32_of HSP.out))
      clear hb hco hce K5 J5 HSO0 HCO HN J2
      go_wp2_with fail
      go_loopw [14, 69] (fun s c wr => ∃ (j : Nat) (va1 : Option Addr) (vcap1 : Nat), j ≤ sp.length ∧ Value.slice va1 (withC L (sp.take j)).length vcap1 = s ∧ c = .int .i64 j ∧ Hid (Kept w4 [(G, txV t ai ao ci co, 59)] wr) ∧ Hid (setO w4.heap.size wr (.slice va1 (withC L (sp.take j)).length vcap1) (withC L (sp.take j))) ∧
        Hid (wrow (.slice va1 (withC L (sp.take j)).length vcap1) = wrow (.slice va L.length vcap) ∨ ∀ k, wrow (.slice va1 (withC L (sp.take j)).length vcap1) = some k → w6.heap.size ≤ k) ∧ Hid (w6.heap.size ≤ wr.heap.size) ∧ Hid (setO w4.heap.size wr (.slice ka sp.length kcap) sp) ∧ Hid (sortedP (withC L (sp.take j))) ∧ Hid (∀ f, backE (withC L (sp.take j)) (t.ins.drop j) (sp.drop j) = f → undoE cs t sp = f)) (fun _ c _ => sp.length - (intOf c).toNat)
      case atStart => exact ⟨0, va, vcap, by omega, rfl, rfl, J6, HSO6, Lib.hid (.inl rfl), Lib.hid (Nat.le_refl _), HCO6, HLS, HE3⟩
      case round =>
        obtain ⟨j, va1, vcap1, hj, rfl, rfl, HJ, HS, HRW, HZ, HNR, HSS, HEE⟩ := hrel
        have hSl := withC_length (sp.take j) L
        have HTW := Lib.hid (fun c hc => all32_with (cs := L) (ns := sp.take j) HL32.out (fun x hx => HS32.out x (List.mem_of_mem_take hx)) c hc)
        have HINS := Lib.hid (fun (hlt : j < sp.length) => withC_snoc (sp.take j) L sp[j])
        obtain ⟨S, hS⟩ : ∃ S, withC L (sp.take j) = S := ⟨_, rfl⟩
        have HSE := Lib.hid hS
        rw [hS] at HS HRW hSl HSS HEE HTW HINS ⊢
        have hS2 : S.length ≤ 1040 := by have := HLN.out; have := HL.out; rw [hSl, List.length_take]; omega
        clear hSl hS
        obtain ⟨_, _, e, s1, s2⟩ := sl_bounds HS.out.rd
        cases e
        unfold maxLen at s2
        by_cases hlt : j < sp.length
        · have hlti : j < t.ins.length := by have := HL.out; omega
          obtain ⟨g, off, so, scap, rfl, -, h32, d1, d2, hrow, hO⟩ := HNR.out.at j hlt
          obtain ⟨g3, off3, so3, scap3, rfl, -, h323, -, hrow3⟩ := in_at HI.out j hlti
          have HTK : Hid (sp.take (j + 1) = sp.take j ++ [sp[j]]) := Lib.hid (List.take_succ_eq_append_getElem hlt)
          have HBK := Lib.hid (backE_at S t.ins sp j hlti hlt)
          have HIN := Lib.hid (HINS.out hlt)
          have hplw := in_place hrow3 h323
          have HGW := Lib.hid (rowAt_lt hrow3)
          obtain ⟨n, hn⟩ : ∃ n, sp[j]'hlt = n := ⟨_, rfl⟩
          obtain ⟨x, hx⟩ : ∃ x, t.ins[j]'hlti = x := ⟨_, rfl⟩
          simp only [hn] at h32 hrow hO HTK HBK HIN d1
          simp only [hx] at h323 hplw HBK
          have HPW := Lib.hid hplw
          obtain ⟨k1, k2, k3, k4⟩ := new_coin wr n so n.lock.length scap h32
          unfold zCoin at k1 k2
          have HSX := Lib.hid (HS.out.alloc (.cells (coinV n (.slice so n.lock.length scap)) 105))
          have HNX := Lib.hid (HNR.out.alloc (.cells (coinV n (.slice so n.lock.length scap)) 105))
          have HOX := Lib.hid (coinO_alloc (.cells (coinV n (.slice so n.lock.length scap)) 105) hO)
          have JX := Lib.hid (HJ.out.alloc (coinV n (.slice so n.lock.length scap)) 105)
          have hpx := (CoinAt.new wr n (.slice so n.lock.length scap) h32).p
          have k3' := k3
          have k4' := k4
          have hzx : w6.heap.size ≤ (wr.alloc (.cells (coinV n (.slice so n.lock.length scap)) 105)).heap.size := by have := HZ.out; simp; omega
          clear hn hx hO hrow3 hplw HINS
          go_upto_region 18 with fail
          clear k1 k2 hrow k3 k4
          change Code.wp _ _ _ _ (wr.alloc (.cells (coinV n (.slice so n.lock.length scap)) 105))
          obtain ⟨D, hD⟩ : ∃ D, wr.heap.size = D := ⟨_, rfl⟩
          rw [hD] at JX hpx ⊢
          clear hD
          generalize wr.alloc (.cells (coinV n (.slice so n.lock.length scap)) 105) = w7 at HSX HNX HOX JX hpx hzx ⊢
          have K7 := Lib.hid (HKB.out.from_ JX.out)
          have r1 : rowAt w7 g3 (off3 + j * 34) 33 = some (plV x.place) := (rowAt_below K7.out.below HGW.out _ _).trans HPW.out
          have c0 : w7.cell? ⟨G, 0, none⟩ = some (.slice (some ⟨g3, off3, none⟩) t.ins.length ci) := K7.out.cell 1 0 _ _ rfl rfl
          have hp32 : n.place.tx.length = 32 := h32
          have he := run_eql_place n.place x.place hp32 h323
          clear HZ
          obtain ⟨bp, hbp⟩ : ∃ b, plE n.place x.place = b := ⟨_, rfl⟩
          rw [hbp] at he HBK
          clear hbp
          cases bp
          · have HE11 : Hid (undoE cs t sp = 11) := Lib.hid (HEE.out 11 (by rw [HBK.out]; rfl))
            go_wp2_with fail
            go_region
            all_goals
              go_wp2
              go_ret2
              exact undoPost_no 11 HE11.out (by decide) K7.out.below.drew rfl
          go_wp2_with fail
          go_region
          go_wp2_with fail
          have JD := Lib.hid JX.out.drew
          have BD := Lib.hid ((Below.refl w7.heap.size w7).drew)
          have HSD := Lib.hid (HSX.out.below BD.out)
          have HND := Lib.hid (HNX.out.below BD.out)
          have HOD := Lib.hid (coinO_below BD.out HOX.out)
          have hzd : w6.heap.size ≤ w7.drew.heap.size := Nat.le_trans hzx BD.out.size
          obtain ⟨wd, hwd⟩ : ∃ wd, w7.drew = wd := ⟨_, rfl⟩
          rw [hwd] at JD HSD HND HOD hzd ⊢
          clear hwd BD HSX HNX HOX JX K7 r1 c0 he hpx hzx
          refine (cfind_any S va1 vcap1 n.place hp32 wd HSD.out.rd (by omega) (all32_of HSD.out.rd) ((sorted_iff S).2 HSS.out)).mono ?_
          rintro e w8 ⟨i2, b2, rfl, hf2, hi2, hb4⟩
          have HF2 := Lib.hid hf2
          have HFA := Lib.hid (found_atP hf2)
          have J8 := Lib.hid (JD.out.on hb4)
          have HS8 := Lib.hid (HSD.out.below hb4)
          have HN8 := Lib.hid (HND.out.below hb4)
          have HO8 := Lib.hid (coinO_below hb4 HOD.out)
          have hz8 : w6.heap.size ≤ w8.heap.size := Nat.le_trans hzd hb4.size
          clear hf2 hb4 JD HSD HND HOD hzd
          cases b2
          case true =>
            have HE6 : Hid (undoE cs t sp = 6) := Lib.hid (HEE.out 6 (by rw [HBK.out, if_neg (by decide), if_pos HFA.out]))
            have K8 := Lib.hid (HKB.out.from_ J8.out)
            go_wp2
            go_ret2
            exact undoPost_no 6 HE6.out (by decide) K8.out.below rfl
          case false =>
            have HEN : Hid (∀ f, backE (insC n S) (t.ins.drop (j + 1)) (sp.drop (j + 1)) = f → undoE cs t sp = f) := Lib.hid fun f hf => HEE.out f (by rw [HBK.out, if_neg (by decide), if_neg (by rw [HFA.out]; decide)]; exact hf)
            have hrx8 : rowAt w8 D 0 36 = some (coinV n (.slice so n.lock.length scap)) := J8.out.row 0 _ 36 rfl k4'
            have HV := Lib.hid (heap_alloc_new w8 (.cells (coinV n (.slice so n.lock.length scap)) 105))
            have HS5 := Lib.hid (HS8.out.alloc (.cells (coinV n (.slice so n.lock.length scap)) 105))
            have HN5 := Lib.hid (HN8.out.alloc (.cells (coinV n (.slice so n.lock.length scap)) 105))
            have J9 := Lib.hid (J8.out.alloc (coinV n (.slice so n.lock.length scap)) 105)
            have HO5 := Lib.hid (coinO_alloc (.cells (coinV n (.slice so n.lock.length scap)) 105) HO8.out)
            have hrow8 : Hid (∀ k, wrow (.slice va1 S.length vcap1) = some k → w4.heap.size ≤ k ∧ k < w8.heap.size) := Lib.hid fun k hk => by
              obtain ⟨xs, ho⟩ := setO_own HS8.out
              exact ⟨(own_lt ho hk).1, (own_lt ho hk).2.1⟩
            have hs9 : (w8.alloc (.cells (coinV n (.slice so n.lock.length scap)) 105)).heap.size = w8.heap.size + 1 := by simp
            have hbw : w4.heap.size ≤ w8.heap.size := J8.out.below.size
            have k3 := k3'
            have k4 := k4'
            go_wp2_with fail
            clear hrx8 k3 k4 k3' k4'
            change Calls _ _ _ (w8.alloc (.cells (coinV n (.slice so n.lock.length scap)) 105)) _
            obtain ⟨G4, hG4⟩ : ∃ G4, w8.heap.size = G4 := ⟨_, rfl⟩
            rw [hG4] at HV hs9 hbw hrow8 J9 hz8 ⊢
            clear hG4
            generalize w8.alloc (.cells (coinV n (.slice so n.lock.length scap)) 105) = w9 at HV HS5 HN5 J9 HO5 hs9 ⊢
            refine (insert_any S va1 vcap1 n (.slice so n.lock.length scap) i2 w4.heap.size G4 w9 HS5.out hi2 (by omega) HV.out HO5.out (fun e => by have := (hrow8.out G4 e).2; omega) (by omega)).mono ?_
            rintro e w10 ⟨v6, rfl, hs6, hg6, hr6⟩
            have hins : S.take i2 ++ n :: S.drop i2 = withC L (sp.take (j + 1)) := by
              rw [HTK.out, HIN.out]
              exact (insC_at n S i2 hi2 HF2.out.2.2.1 HF2.out.2.2.2).symm
            have hins2 : insC n S = withC L (sp.take (j + 1)) := by rw [HTK.out, HIN.out]
            have HSRT : Hid (sortedP (withC L (sp.take (j + 1)))) := Lib.hid (by
              rw [← hins2]
              exact insC_sorted n h32 S HTW.out HSS.out (fun hp => by have h1 := (atP_iff S n.place).2 hp; rw [HFA.out] at h1; cases h1))
            rw [hins2] at HEN
            rw [hins] at hs6
            obtain ⟨va6, vcap6, hv6, -, -⟩ := sl_bounds hs6.rd
            subst hv6
            have HS6 := Lib.hid hs6
            have J10 := Lib.hid ((J9.out.tail1.tail1).grown hg6 (fun q hq => (hrow8.out q hq).1) (fun b hb => by rw [List.mem_singleton.1 hb]; exact hGB))
            have HR6 : Hid (wrow (.slice va6 (withC L (sp.take (j + 1))).length vcap6) = wrow (.slice va L.length vcap) ∨ ∀ k, wrow (.slice va6 (withC L (sp.take (j + 1))).length vcap6) = some k → w6.heap.size ≤ k) := Lib.hid (by
              rcases hr6 with h | h
              · rcases HRW.out with h2 | h2
                · exact .inl (h.trans h2)
                · exact .inr fun k hk => h2 k (by rw [← h]; exact hk)
              · exact .inr fun k hk => by have := h k hk; omega)
            have HN6 : Hid (setO w4.heap.size w10 (.slice (some ⟨g, off, none⟩) sp.length kcap) sp) := Lib.hid (by
              obtain ⟨xs, ho⟩ := setO_own HS5.out
              refine HN5.out.grown ho hg6 fun k hk he => ?_
              have h1 := HCROW.out k hk
              rcases HRW.out with h | h
              · have h2 := HROW.out k (by rw [← h]; exact he)
                omega
              · have h2 := h k he
                omega)
            have HZ10 : Hid (w6.heap.size ≤ w10.heap.size) := Lib.hid (by have := hg6.size; omega)
            clear hs6 hg6 hr6 hins hins2
            go_wp2
            go_roundw
            case rel => exact ⟨j + 1, va6, vcap6, by omega, rfl, by go_num, J10, HS6, HR6, HZ10, HN6, HSRT, HEN⟩
            case measure => simp [intOf]; omega
        · have HSW : Hid (S = undoS cs t sp) := Lib.hid (by
            unfold undoS
            rw [HNW.out, HLL.out, ← HSE.out, List.take_of_length_le (by omega)])
          have HUF : Hid (undoE cs t sp = setF S) := Lib.hid (HEE.out _ (backE_end S t.ins sp j (by omega)))
          clear HEE
          go_wp2_with fail
          refine (coinCheck_any S va1 vcap1 wr HS.out.rd).mono ?_
          rintro e w7 ⟨rfl, hb⟩
          have J7 := Lib.hid (HJ.out.on hb)
          have K7 := Lib.hid (HKB.out.from_ J7.out)
          have HSR := Lib.hid (HS.out.below hb).rd
          clear hb
          obtain ⟨f, hf⟩ : ∃ f, setF S = f := ⟨_, rfl⟩
          rw [hf] at HUF ⊢
          clear hf
          by_cases hz : f = 0
          · subst hz
            rw [errV_0]
            rw [HSW.out] at *
            go_wp2
            go_ret2
            exact undoPost_yes _ HUF.out K7.out.below rfl HSR.out
          · rw [errV_ne hz]
            have HZF := Lib.hid hz
            clear hz
            go_wp2
            go_ret2
            exact undoPost_no f HUF.out HZF.out K7.out.below (by rw [errV_ne HZF.out]; rfl)
end Go.Proofs.YtljcdkfafknnpaaGreatDoor
namespace Go.Proofs.YtljcdkfafknnpaaGreatDoor
set_option linter.unusedVariables false
set_option linter.unusedSimpArgs false
theorem newsC_alike (id : List UInt8) (h h' : Int) : ∀ (os : List OutD) (i : Nat) (n : CoinD), n ∈ newsC id h' i os → ∃ c ∈ newsC id h i os, c.place = n.place ∧ c.amount = n.amount ∧ c.lock = n.lock
  | [], _, n, hn => by cases hn
  | o :: os, i, n, hn => by
    rw [newsC] at hn
    rcases List.mem_cons.1 hn with rfl | hn
    · exact ⟨_, List.mem_cons_self .., rfl, rfl, rfl⟩
    · obtain ⟨c, hc, e⟩ := newsC_alike id h h' os (i + 1) n hn
      exact ⟨c, List.mem_cons_of_mem _ hc, e⟩
theorem hasP_alike {t : TxD} {h h' : Int} {p : PlaceD} (hp : hasP (newsT t h') p) : hasP (newsT t h) p := by
  obtain ⟨n, hn, rfl⟩ := hp
  obtain ⟨c, hc, e, -⟩ := newsC_alike _ h h' _ _ n hn
  exact ⟨c, hc, e⟩
theorem backE_zero {cs : List CoinD} : ∀ (xs : List InD) (out : List CoinD), foundB cs xs = true → xs.Pairwise (fun a b => a.place ≠ b.place) → (∀ x ∈ xs, ¬ hasP out x.place) → setF (withC out (spC cs xs)) = 0 → backE out xs (spC cs xs) = 0
  | [], out, _, _, _, h => h
  | x :: xs, out, hf, hp, hn, h => by
    obtain ⟨c, hc⟩ := foundB_get hf (show x ∈ x :: xs by simp)
    have hf2 : foundB cs xs = true := by
      unfold foundB at hf ⊢
      rw [List.all_cons, Bool.and_eq_true] at hf
      exact hf.2
    have hsp : spC cs (x :: xs) = c :: spC cs xs := by
      unfold spC
      rw [List.filterMap_cons, hc]
    have hcp := (getC_some hc).2
    obtain ⟨hp1, hp2⟩ := List.pairwise_cons.1 hp
    rw [hsp] at h ⊢
    rw [backE, if_neg (by rw [(plE_iff _ _).2 hcp]; decide), if_neg (by rw [not_at (by rw [hcp]; exact hn x (by simp))]; decide)]
    refine backE_zero xs (insC c out) hf2 hp2 (fun y hy hh => ?_) h
    rcases hasP_ins.1 hh with e | hh
    · exact hp1 y hy (hcp.symm.trans e)
    · exact hn y (by simp [hy]) hh
theorem ApplyOk.back {cs : List CoinD} {t : TxD} {h : Int} (k : ApplyOk cs t h) (h32 : all32' cs) : undoE (applyS cs t h) t (spC cs t.ins) = 0 ∧ undoS (applyS cs t h) t (spC cs t.ins) = cs := by
  have hs := sorted_set h32 k.set
  have hss := k.sorted h32
  have hchk : chkF (applyS cs t h) t = 0 := by unfold chkF; rw [if_pos (k.setS h32)]; exact k.tx
  have hmade : madeB (applyS cs t h) (newsT t 0) = true := madeB_yes fun n hn => by
    obtain ⟨c, hc, e1, e2, e3⟩ := newsC_alike _ h 0 _ _ n hn
    have hg : getC (applyS cs t h) n.place = some c := getC_of hss (mem_withC.2 (.inl hc)) e1
    unfold oneB
    rw [hg]
    show outE c.amount c.lock n.amount n.lock = true
    unfold outE
    rw [e2, e3, Bool.and_eq_true]
    exact ⟨decide_eq_true rfl, (opsE_iff _ _).2 rfl⟩
  have hless : lessC (applyS cs t h) (newsT t 0) = lessC cs (spC cs t.ins) := by
    refine sorted_ext _ _ (lessC_sorted hss) (lessC_sorted hs) fun c => ?_
    rw [mem_lessC, mem_lessC, applyS, mem_withC, mem_lessC]
    constructor
    · rintro ⟨h1 | h1, h2⟩
      · exact absurd (hasP_alike ⟨c, h1, rfl⟩) h2
      · exact h1
    · intro h1
      refine ⟨.inr h1, fun hh => ?_⟩
      obtain ⟨n, hn, he⟩ := hasP_alike (h := h) hh
      have := twice_no k.once n hn
      rw [(atP_iff _ _).2 ⟨c, h1.1, he.symm⟩] at this
      cases this
  have hnot : ∀ x ∈ t.ins, ¬ hasP (lessC cs (spC cs t.ins)) x.place := fun x hx hh => (hasP_less.1 hh).2 (sp_hasP hx (hasP_less.1 hh).1)
  have hsp32 : all32' (spC cs t.ins) := fun c hc => h32 c (spC_mem hc).1
  have hap := spC_nodup (cs := cs) k.apart
  have hok : NewsOk (lessC cs (spC cs t.ins)) (lessC cs (spC cs t.ins)) (spC cs t.ins) := ⟨fun c hc => h32 c (mem_lessC.1 hc).1, lessC_sorted hs, fun p hp => hp, hsp32, hap⟩
  have hfresh : ∀ n ∈ spC cs t.ins, atP (lessC cs (spC cs t.ins)) n.place = false := fun n hn => not_at fun hh => (hasP_less.1 hh).2 ⟨n, hn, rfl⟩
  have hsort : sortedP (withC (lessC cs (spC cs t.ins)) (spC cs t.ins)) := by
    have := (hok.fresh _ (Nat.le_refl _) (fun n hn => hfresh n (List.mem_of_mem_take hn))).1
    rwa [List.take_length] at this
  have hcs : withC (lessC cs (spC cs t.ins)) (spC cs t.ins) = cs := sorted_ext _ _ hsort hs fun c => by
    rw [(withC_perm _ _).mem_iff, (less_perm hs k.apart).mem_iff, List.mem_append, List.mem_append]
    exact or_comm
  refine ⟨?_, ?_⟩
  · unfold undoE
    rw [if_neg (by rw [hchk]; simp), if_neg (by rw [hmade]; decide), if_neg (by rw [spC_length k.found]; simp), hless]
    exact backE_zero _ _ k.found k.apart hnot (by rw [hcs]; exact k.set)
  · unfold undoS
    rw [hless, hcs]
end Go.Proofs.YtljcdkfafknnpaaGreatDoor
