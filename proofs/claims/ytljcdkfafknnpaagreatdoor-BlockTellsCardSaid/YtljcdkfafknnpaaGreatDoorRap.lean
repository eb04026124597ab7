/- Merged: Rap. Conditions: none beyond each theorem's own. -/
import Derived.Test.YtljcdkfafknnpaaGreatDoorMrw
import Derived.Test.YtljcdkfafknnpaaGreatDoorNws
import Derived.Test.YtljcdkfafknnpaaGreatDoorTfw
import Derived.Test.YtljcdkfafknnpaaGreatDoorMc
namespace Go.Proofs.YtljcdkfafknnpaaGreatDoor
set_option linter.unusedVariables false
set_option linter.unusedSimpArgs false
open Go.RowKit
@[go_sem] theorem agg_applied : aggOf Tryz.prog 61 = true := by kernel_rfl
@[go_sem] theorem cells_applied : Tryz.prog.cellsOf 61 = 4 := by kernel_rfl
def zAp : Array Value := #[.slice none 0 0, .slice none 0 0, .int .i64 0, .int .i64 0]
theorem built_ap (parts : List (Nat × Value)) : Tryz.prog.built 61 parts = Instr.fill (fun x => #[(0, 1), (1, 1), (2, 1), (3, 1)][x]?) zAp parts := by kernel_rfl
theorem built_ap1 (v : Value) (hv : v.cells = #[v]) : Tryz.prog.built 61 [(3, v)] = some #[.slice none 0 0, .slice none 0 0, .int .i64 0, v] := by
  rw [built_ap, fill_step _ _ 3 v 3 1 _ rfl (by rw [hv]; rfl) (by decide), hv]; rfl
theorem built_ap3 (x y z : Value) (hx : x.cells = #[x]) (hy : y.cells = #[y]) (hz : z.cells = #[z]) : Tryz.prog.built 61 [(0, x), (1, y), (2, z)] = some #[x, y, z, .int .i64 0] := by
  rw [built_ap, fill_step _ _ 0 x 0 1 _ rfl (by rw [hx]; rfl) (by decide), hx, fill_step _ _ 1 y 1 1 _ rfl (by rw [hy]; rfl) (by simp [zAp]), hy, fill_step _ _ 2 z 2 1 _ rfl (by rw [hz]; rfl) (by simp [zAp]), hz]; rfl
theorem exec_build_ap1 (ev : Operand → Value) (w : World) (dst : Option Tmp) (x : Operand) (type : TypeId) (pos : String) (after : Array Edge) (guard : Option (Nat × Bool)) (hx : (ev x).cells = #[ev x]) :
    (execOp ev ⟨dst, .build 61 #[(3, x)], type, pos, after, guard⟩).run Tryz.prog w = .ok (.value (.agg #[.slice none 0 0, .slice none 0 0, .int .i64 0, ev x])) w := by
  have := run_build (P := Tryz.prog) w 61 #[(3, ev x)] _ (built_ap1 (ev x) hx)
  simp only [execOp, List.map_toArray, List.map_cons, List.map_nil, Sem.run_bind, this]
  rfl
theorem exec_build_ap3 (ev : Operand → Value) (w : World) (dst : Option Tmp) (x y z : Operand) (type : TypeId) (pos : String) (after : Array Edge) (guard : Option (Nat × Bool)) (hx : (ev x).cells = #[ev x]) (hy : (ev y).cells = #[ev y]) (hz : (ev z).cells = #[ev z]) :
    (execOp ev ⟨dst, .build 61 #[(0, x), (1, y), (2, z)], type, pos, after, guard⟩).run Tryz.prog w = .ok (.value (.agg #[ev x, ev y, ev z, .int .i64 0])) w := by
  have := run_build (P := Tryz.prog) w 61 #[(0, ev x), (1, ev y), (2, ev z)] _ (built_ap3 (ev x) (ev y) (ev z) hx hy hz)
  simp only [execOp, List.map_toArray, List.map_cons, List.map_nil, Sem.run_bind, this]
  rfl
attribute [local go_sem ↓] run_load_agg run_store_agg run_load_any run_build_coin exec_build_ap1 exec_build_ap3
def RAppPost (cs : List CoinD) (t : TxD) (h : Int) (w : World) (e : Ending) (w' : World) : Prop :=
  Below w.heap.size w w' ∧ ((applyE cs t h ≠ 0 ∧ e = .returned (.agg #[.slice none 0 0, .slice none 0 0, .int .i64 0, .int .i64 (applyE cs t h)])) ∨
    (applyE cs t h = 0 ∧ ∃ v u, e = .returned (.agg #[v, u, .int .i64 (applyL cs t h), .int .i64 0]) ∧ rdSl coinR 36 w' v (applyS cs t h) ∧ rdSl coinR 36 w' u (spC cs t.ins)))
theorem rappPost_no {cs : List CoinD} {t : TxD} {h : Int} {w w' : World} {e : Ending} (f : Int) (hf : applyE cs t h = f) (hz : f ≠ 0) (hb : Below w.heap.size w w') (he : e = .returned (.agg #[.slice none 0 0, .slice none 0 0, .int .i64 0, .int .i64 f])) : RAppPost cs t h w e w' :=
  ⟨hb, .inl ⟨by rw [hf]; exact hz, by rw [hf]; exact he⟩⟩
theorem rappPost_yes {cs : List CoinD} {t : TxD} {h : Int} {w w' : World} {e : Ending} (v u : Value) (hf : applyE cs t h = 0) (hb : Below w.heap.size w w') (he : e = .returned (.agg #[v, u, .int .i64 (applyL cs t h), .int .i64 0])) (h1 : rdSl coinR 36 w' v (applyS cs t h)) (h2 : rdSl coinR 36 w' u (spC cs t.ins)) : RAppPost cs t h w e w' :=
  ⟨hb, .inr ⟨hf, v, u, he, h1, h2⟩⟩
def Lp1 (cs : List CoinD) (t : TxD) (j : Nat) (S : List CoinD) (a : Value) : Prop :=
  (a = .int .i64 0 ∧ spC cs (t.ins.take j) = S ∧ (∀ x ∈ t.ins.take j, atP cs x.place = true)) ∨ (a = .int .i64 5 ∧ foundB cs t.ins = false)
def Lp2 (cs news : List CoinD) (j : Nat) (a : Value) : Prop :=
  (a = .int .i64 0 ∧ (∀ n ∈ news.take j, atP cs n.place = false)) ∨ (a = .int .i64 6 ∧ twiceB cs news = true)
theorem twice_yes {old news : List CoinD} {n : CoinD} (hn : n ∈ news) (h : atP old n.place = true) : twiceB old news = true := by
  unfold twiceB
  rw [List.any_eq_true]
  exact ⟨n, hn, h⟩
theorem txF_outs {t : TxD} (h : txF t = 0) : 0 < t.outs.length := by
  rcases Nat.eq_zero_or_pos t.outs.length with h0 | h0
  · exfalso
    unfold txF at h
    by_cases h1 : 40 < t.ins.length ∨ 40 < t.outs.length
    · rw [if_pos h1] at h; cases h
    · rw [if_neg h1, if_pos h0] at h; cases h
  · exact h0
theorem twice_not {old news : List CoinD} (h : ∀ n ∈ news, atP old n.place = false) : twiceB old news = false := by
  unfold twiceB
  rw [List.any_eq_false]
  intro n hn; rw [h n hn]; decide
set_option maxHeartbeats 16000000 in
set_option maxRecDepth 100000 in
theorem rapply_any (cs : List CoinD) (t : TxD) (h : Int) (ca ai ao : Option Addr) (cc ci co : Nat) (w : World) (hc : rdSl coinR 36 w (.slice ca cs.length cc) cs) (hi : rdSl inR 34 w (.slice ai t.ins.length ci) t.ins) (ho : rdSl outR 2 w (.slice ao t.outs.length co) t.outs) :
    Calls Tryz.prog 22 #[.slice ca cs.length cc, .agg #[.slice ai t.ins.length ci, .slice ao t.outs.length co, .int .i64 t.time], .int .i64 h] w (RAppPost cs t h w) := by
  obtain ⟨n1, n2, n3⟩ := new_tx w ai ao t.ins.length t.outs.length ci co t.time
  have k0 := ((Kept.refl w).alloc (txV t ai ao ci co) 59).alloc zAp 61
  rw [show (w.alloc (.cells (txV t ai ao ci co) 59)).heap.size = w.heap.size + 1 from by simp] at k0
  unfold zTx at n1 n2
  obtain ⟨_, _, e, i1, i2⟩ := sl_bounds hi
  cases e
  obtain ⟨_, _, e, k1, k2⟩ := sl_bounds hc
  cases e
  obtain ⟨_, _, e, o1, o2⟩ := sl_bounds ho
  cases e
  unfold maxLen at i2 k2 o2
  have HC := Lib.hid hc; have HI := Lib.hid hi; have HO := Lib.hid ho
  have K0 := Lib.hid k0
  clear hc hi ho k0
  go_enter Tryz.func22, Tryz.ntmps22
  go_upto_region 1 with fail
  clear n1 n2 n3
  change Code.wp _ _ _ _ ((w.alloc (.cells (txV t ai ao ci co) 59)).alloc (.cells zAp 61))
  obtain ⟨A, hA⟩ : ∃ A, w.heap.size + 1 = A := ⟨_, rfl⟩
  have HAG : Hid (w.heap.size ≤ A) := Lib.hid (by omega)
  rw [hA] at K0 ⊢
  clear hA
  obtain ⟨G, hG⟩ : ∃ G, w.heap.size = G := ⟨_, rfl⟩
  have K0' : Hid (∃ w0, (w.alloc (.cells (txV t ai ao ci co) 59)).alloc (.cells zAp 61) = w0 ∧ Kept w [(A, zAp, 61), (G, txV t ai ao ci co, 59)] w0) := Lib.hid ⟨_, rfl, by rw [← hG]; exact K0.out⟩
  rw [hG] at ⊢
  clear hG K0
  obtain ⟨w0, hw0, k0⟩ := K0'.out
  rw [hw0]
  have K0 := Lib.hid k0
  clear hw0 k0 K0'
  go_wp2_with fail
  refine (setFault_any cs ca cc w0 (coinR_stays.slB HC.out K0.out.below (Nat.le_refl _))).mono ?_
  rintro e w1 ⟨rfl, hb⟩
  have K1 := Lib.hid (K0.out.on hb)
  clear hb
  obtain ⟨f, hf⟩ : ∃ f, setF cs = f := ⟨_, rfl⟩
  have HFF := Lib.hid hf
  rw [hf]
  clear hf
  by_cases hz : f = 0
  rotate_left
  · have HE : Hid (applyE cs t h = f) := Lib.hid (by unfold applyE; have : chkF cs t = f := (by unfold chkF; rw [HFF.out, if_neg hz]); rw [if_pos (by rw [this]; exact hz), this])
    have HNZ : Hid (f ≠ 0) := Lib.hid hz
    have q1 : (f == 0) = false := by simp; exact hz
    have q2 : (f != 0) = true := bne_iff_ne.2 hz
    clear hz
    go_wp2_with fail
    go_loopw [7, 8, 9] (fun a b c wr => a = .int .i64 (f) ∧ b = .slice none 0 0 ∧ c = .int .i64 0 ∧ Hid (Kept w [(A, zAp, 61), (G, txV t ai ao ci co, 59)] wr)) (fun _ _ _ _ => 0)
    case atStart => exact ⟨rfl, rfl, rfl, K1⟩
    case round =>
      obtain ⟨rfl, rfl, rfl, HKY⟩ := hrel
      have c0 : wr.cell? ⟨G, 0, none⟩ = some (.slice ai t.ins.length ci) := HKY.out.cell 1 0 _ _ rfl rfl
      by_cases hnn : 0 < t.ins.length
      ·
        go_wp2_with fail
        go_loopw [7, 14] (fun a c wr => a = .int .i64 (f) ∧ c = .int .i64 0 ∧ Hid (Kept w [(A, zAp, 61), (G, txV t ai ao ci co, 59)] wr)) (fun _ _ _ => 0)
        case atStart => exact ⟨rfl, rfl, HKY⟩
        case round =>
          obtain ⟨rfl, rfl, HKZ⟩ := hrel
          have s1 : (rowAt wr A 0 4).isSome = true := by rw [HKZ.out.row 0 _ 4 rfl rfl]; rfl
          have s2 : wrAt wr A = true := wrAt_of_heap (HKZ.out.get 0 _ rfl)
          have s3 : plainCells #[.slice none 0 0, .slice none 0 0, .int .i64 0, .int .i64 (f)] = true := rfl
          go_wp2
          refine bodyPost_ret (v := .agg #[.slice none 0 0, .slice none 0 0, .int .i64 0, .int .i64 (f)]) (results_cell_at rfl _ _ A 0 _ rfl agg_applied ?_) rfl ?_
          · rw [cells_applied]; exact rowAt_put_same (HKZ.out.get 0 _ rfl) #[.slice none 0 0, .slice none 0 0, .int .i64 0, .int .i64 (f)] rfl 4 rfl
          · exact rappPost_no (f) HE.out (by first | decide | exact HNZ.out) (putAt_below HKZ.out.below HAG.out _ _) rfl
      ·
        go_wp2_with fail
        go_loopw [7, 14] (fun a c wr => a = .int .i64 (f) ∧ c = .int .i64 0 ∧ Hid (Kept w [(A, zAp, 61), (G, txV t ai ao ci co, 59)] wr)) (fun _ _ _ => 0)
        case atStart => exact ⟨rfl, rfl, HKY⟩
        case round =>
          obtain ⟨rfl, rfl, HKZ⟩ := hrel
          have s1 : (rowAt wr A 0 4).isSome = true := by rw [HKZ.out.row 0 _ 4 rfl rfl]; rfl
          have s2 : wrAt wr A = true := wrAt_of_heap (HKZ.out.get 0 _ rfl)
          have s3 : plainCells #[.slice none 0 0, .slice none 0 0, .int .i64 0, .int .i64 (f)] = true := rfl
          go_wp2
          refine bodyPost_ret (v := .agg #[.slice none 0 0, .slice none 0 0, .int .i64 0, .int .i64 (f)]) (results_cell_at rfl _ _ A 0 _ rfl agg_applied ?_) rfl ?_
          · rw [cells_applied]; exact rowAt_put_same (HKZ.out.get 0 _ rfl) #[.slice none 0 0, .slice none 0 0, .int .i64 0, .int .i64 (f)] rfl 4 rfl
          · exact rappPost_no (f) HE.out (by first | decide | exact HNZ.out) (putAt_below HKZ.out.below HAG.out _ _) rfl
  subst hz
  have HSF := Lib.hid HFF.out
  clear HFF
  have r3 : rowAt w1 G 0 3 = some #[.slice ai t.ins.length ci, .slice ao t.outs.length co, .int .i64 t.time] := K1.out.row 1 _ 3 rfl rfl
  go_wp2_with fail
  refine (txFault_any t ai ao ci co w1 (inR_stays.slB HI.out K1.out.below (Nat.le_refl _)) (outR_stays.slB HO.out K1.out.below (Nat.le_refl _))).mono ?_
  rintro e w2 ⟨rfl, hb⟩
  have K2 := Lib.hid (K1.out.on hb)
  clear hb r3
  obtain ⟨f, hf⟩ : ∃ f, txF t = f := ⟨_, rfl⟩
  have HFF := Lib.hid hf
  rw [hf]
  clear hf
  have HCK : Hid (chkF cs t = f) := Lib.hid (by unfold chkF; rw [if_pos HSF.out, HFF.out])
  by_cases hz : f = 0
  rotate_left
  · have HE : Hid (applyE cs t h = f) := Lib.hid (by unfold applyE; rw [if_pos (by rw [HCK.out]; exact hz), HCK.out])
    have HNZ : Hid (f ≠ 0) := Lib.hid hz
    have q1 : (f == 0) = false := by simp; exact hz
    have q2 : (f != 0) = true := bne_iff_ne.2 hz
    clear hz
    go_wp2_with fail
    go_loopw [7, 8, 9] (fun a b c wr => a = .int .i64 (f) ∧ b = .slice none 0 0 ∧ c = .int .i64 0 ∧ Hid (Kept w [(A, zAp, 61), (G, txV t ai ao ci co, 59)] wr)) (fun _ _ _ _ => 0)
    case atStart => exact ⟨rfl, rfl, rfl, K2⟩
    case round =>
      obtain ⟨rfl, rfl, rfl, HKY⟩ := hrel
      have c0 : wr.cell? ⟨G, 0, none⟩ = some (.slice ai t.ins.length ci) := HKY.out.cell 1 0 _ _ rfl rfl
      by_cases hnn : 0 < t.ins.length
      ·
        go_wp2_with fail
        go_loopw [7, 14] (fun a c wr => a = .int .i64 (f) ∧ c = .int .i64 0 ∧ Hid (Kept w [(A, zAp, 61), (G, txV t ai ao ci co, 59)] wr)) (fun _ _ _ => 0)
        case atStart => exact ⟨rfl, rfl, HKY⟩
        case round =>
          obtain ⟨rfl, rfl, HKZ⟩ := hrel
          have s1 : (rowAt wr A 0 4).isSome = true := by rw [HKZ.out.row 0 _ 4 rfl rfl]; rfl
          have s2 : wrAt wr A = true := wrAt_of_heap (HKZ.out.get 0 _ rfl)
          have s3 : plainCells #[.slice none 0 0, .slice none 0 0, .int .i64 0, .int .i64 (f)] = true := rfl
          go_wp2
          refine bodyPost_ret (v := .agg #[.slice none 0 0, .slice none 0 0, .int .i64 0, .int .i64 (f)]) (results_cell_at rfl _ _ A 0 _ rfl agg_applied ?_) rfl ?_
          · rw [cells_applied]; exact rowAt_put_same (HKZ.out.get 0 _ rfl) #[.slice none 0 0, .slice none 0 0, .int .i64 0, .int .i64 (f)] rfl 4 rfl
          · exact rappPost_no (f) HE.out (by first | decide | exact HNZ.out) (putAt_below HKZ.out.below HAG.out _ _) rfl
      ·
        go_wp2_with fail
        go_loopw [7, 14] (fun a c wr => a = .int .i64 (f) ∧ c = .int .i64 0 ∧ Hid (Kept w [(A, zAp, 61), (G, txV t ai ao ci co, 59)] wr)) (fun _ _ _ => 0)
        case atStart => exact ⟨rfl, rfl, HKY⟩
        case round =>
          obtain ⟨rfl, rfl, HKZ⟩ := hrel
          have s1 : (rowAt wr A 0 4).isSome = true := by rw [HKZ.out.row 0 _ 4 rfl rfl]; rfl
          have s2 : wrAt wr A = true := wrAt_of_heap (HKZ.out.get 0 _ rfl)
          have s3 : plainCells #[.slice none 0 0, .slice none 0 0, .int .i64 0, .int .i64 (f)] = true := rfl
          go_wp2
          refine bodyPost_ret (v := .agg #[.slice none 0 0, .slice none 0 0, .int .i64 0, .int .i64 (f)]) (results_cell_at rfl _ _ A 0 _ rfl agg_applied ?_) rfl ?_
          · rw [cells_applied]; exact rowAt_put_same (HKZ.out.get 0 _ rfl) #[.slice none 0 0, .slice none 0 0, .int .i64 0, .int .i64 (f)] rfl 4 rfl
          · exact rappPost_no (f) HE.out (by first | decide | exact HNZ.out) (putAt_below HKZ.out.below HAG.out _ _) rfl
  subst hz
  have HTF := Lib.hid HFF.out
  clear HFF
  by_cases hrg : 0 ≤ h ∧ h ≤ 1073741824
  rotate_left
  · have HE : Hid (applyE cs t h = 2) := Lib.hid (by unfold applyE; rw [if_neg (by rw [HCK.out]; simp), if_pos (by omega)])
    have d4 : decide (0 ≤ h ∧ h ≤ 1073741824) = false := decide_eq_false hrg
    have HT := Lib.hid (time_any h)
    rw [d4] at HT
    clear hrg d4
    go_wp2_with fail
    refine (HT.out _).mono ?_
    rintro e w' ⟨rfl, hw'⟩
    rw [hw']
    clear hw' w' HT
    go_wp2_with fail
    go_loopw [7, 8, 9] (fun a b c wr => a = .int .i64 (2) ∧ b = .slice none 0 0 ∧ c = .int .i64 0 ∧ Hid (Kept w [(A, zAp, 61), (G, txV t ai ao ci co, 59)] wr)) (fun _ _ _ _ => 0)
    case atStart => exact ⟨rfl, rfl, rfl, K2⟩
    case round =>
      obtain ⟨rfl, rfl, rfl, HKY⟩ := hrel
      have c0 : wr.cell? ⟨G, 0, none⟩ = some (.slice ai t.ins.length ci) := HKY.out.cell 1 0 _ _ rfl rfl
      by_cases hnn : 0 < t.ins.length
      ·
        go_wp2_with fail
        go_loopw [7, 14] (fun a c wr => a = .int .i64 (2) ∧ c = .int .i64 0 ∧ Hid (Kept w [(A, zAp, 61), (G, txV t ai ao ci co, 59)] wr)) (fun _ _ _ => 0)
        case atStart => exact ⟨rfl, rfl, HKY⟩
        case round =>
          obtain ⟨rfl, rfl, HKZ⟩ := hrel
          have s1 : (rowAt wr A 0 4).isSome = true := by rw [HKZ.out.row 0 _ 4 rfl rfl]; rfl
          have s2 : wrAt wr A = true := wrAt_of_heap (HKZ.out.get 0 _ rfl)
          have s3 : plainCells #[.slice none 0 0, .slice none 0 0, .int .i64 0, .int .i64 (2)] = true := rfl
          go_wp2
          refine bodyPost_ret (v := .agg #[.slice none 0 0, .slice none 0 0, .int .i64 0, .int .i64 (2)]) (results_cell_at rfl _ _ A 0 _ rfl agg_applied ?_) rfl ?_
          · rw [cells_applied]; exact rowAt_put_same (HKZ.out.get 0 _ rfl) #[.slice none 0 0, .slice none 0 0, .int .i64 0, .int .i64 (2)] rfl 4 rfl
          · exact rappPost_no (2) HE.out (by first | decide | exact HNZ.out) (putAt_below HKZ.out.below HAG.out _ _) rfl
      ·
        go_wp2_with fail
        go_loopw [7, 14] (fun a c wr => a = .int .i64 (2) ∧ c = .int .i64 0 ∧ Hid (Kept w [(A, zAp, 61), (G, txV t ai ao ci co, 59)] wr)) (fun _ _ _ => 0)
        case atStart => exact ⟨rfl, rfl, HKY⟩
        case round =>
          obtain ⟨rfl, rfl, HKZ⟩ := hrel
          have s1 : (rowAt wr A 0 4).isSome = true := by rw [HKZ.out.row 0 _ 4 rfl rfl]; rfl
          have s2 : wrAt wr A = true := wrAt_of_heap (HKZ.out.get 0 _ rfl)
          have s3 : plainCells #[.slice none 0 0, .slice none 0 0, .int .i64 0, .int .i64 (2)] = true := rfl
          go_wp2
          refine bodyPost_ret (v := .agg #[.slice none 0 0, .slice none 0 0, .int .i64 0, .int .i64 (2)]) (results_cell_at rfl _ _ A 0 _ rfl agg_applied ?_) rfl ?_
          · rw [cells_applied]; exact rowAt_put_same (HKZ.out.get 0 _ rfl) #[.slice none 0 0, .slice none 0 0, .int .i64 0, .int .i64 (2)] rfl 4 rfl
          · exact rappPost_no (2) HE.out (by first | decide | exact HNZ.out) (putAt_below HKZ.out.below HAG.out _ _) rfl
  have HE0 : Hid (∀ f, (if foundB cs t.ins = false then 5
      else if totC 0 (amounts (spC cs t.ins)) ≠ 0 then totC 0 (amounts (spC cs t.ins))
      else if totC 0 (amounts (newsT t h)) ≠ 0 then totC 0 (amounts (newsT t h))
      else if 0 < t.ins.length ∧ totV (amounts (spC cs t.ins)) < totV (amounts (newsT t h)) then 9
      else withE cs (lessC cs (spC cs t.ins)) (newsT t h)) = f → applyE cs t h = f) := Lib.hid fun f hf => by unfold applyE; rw [if_neg (by rw [HCK.out]; simp), if_neg (by omega)]; exact hf
  have d4 : decide (0 ≤ h ∧ h ≤ 1073741824) = true := decide_eq_true hrg
  have HT := Lib.hid (time_any h)
  rw [d4] at HT
  have hcl := (setF_zero cs HSF.out).1
  have hil := (txOk_of HTF.out).ins
  have hol := (txOk_of HTF.out).outs
  have H32 := Lib.hid (all32_of HC.out)
  have HSO := Lib.hid (sorted_of cs H32.out HSF.out)
  have hnl : (newsT t h).length = t.outs.length := newsC_length _ _ _ _
  have HNL := Lib.hid hnl
  have hn0 : 0 < t.outs.length := txF_outs HTF.out
  clear hrg d4 hnl
  go_wp2_with fail
  refine (HT.out _).mono ?_
  rintro e w' ⟨rfl, hw'⟩
  rw [hw']
  clear hw' w' HT
  go_wp2_with fail
  go_loopw [7, 8, 9] (fun a b c wr => ∃ (j : Nat) (v : Value) (S : List CoinD), j ≤ t.ins.length ∧ v = b ∧ c = .int .i64 j ∧ Lp1 cs t j S a ∧ Hid (Sel w w [(A, zAp, 61), (G, txV t ai ao ci co, 59)] v S wr) ∧ S.length ≤ j) (fun _ _ c _ => t.ins.length - (intOf c).toNat)
  case atStart => exact ⟨0, _, [], by omega, rfl, rfl, .inl ⟨rfl, rfl, fun x hx => by simp at hx⟩, Lib.hid (Sel.nil K2.out (Below.refl _ _)), by simp⟩
  case round =>
    obtain ⟨j, v, S, hj, rfl, rfl, hlp, HS, hSl⟩ := hrel
    obtain ⟨va, vcap, rfl, s1, s2⟩ := HS.out.val
    unfold maxLen at s2
    have c0 : wr.cell? ⟨G, 0, none⟩ = some (.slice ai t.ins.length ci) := HS.out.kept.cell 1 0 _ _ rfl rfl
    rcases hlp with ⟨rfl, hsp, hat⟩ | ⟨rfl, hnf⟩
    rotate_left
    · have HE : Hid (applyE cs t h = 5) := Lib.hid (HE0.out 5 (by rw [if_pos hnf]))
      have HKY := Lib.hid HS.out.kept
      clear hnf s1 s2
      by_cases hnn : 0 < t.ins.length
      · by_cases hjj : j < t.ins.length
        ·
          go_wp2_with fail
          go_loopw [7, 14] (fun a c wr => a = .int .i64 (5) ∧ c = .int .i64 0 ∧ Hid (Kept w [(A, zAp, 61), (G, txV t ai ao ci co, 59)] wr)) (fun _ _ _ => 0)
          case atStart => exact ⟨rfl, rfl, HKY⟩
          case round =>
            obtain ⟨rfl, rfl, HKZ⟩ := hrel
            have s1 : (rowAt wr A 0 4).isSome = true := by rw [HKZ.out.row 0 _ 4 rfl rfl]; rfl
            have s2 : wrAt wr A = true := wrAt_of_heap (HKZ.out.get 0 _ rfl)
            have s3 : plainCells #[.slice none 0 0, .slice none 0 0, .int .i64 0, .int .i64 (5)] = true := rfl
            go_wp2
            refine bodyPost_ret (v := .agg #[.slice none 0 0, .slice none 0 0, .int .i64 0, .int .i64 (5)]) (results_cell_at rfl _ _ A 0 _ rfl agg_applied ?_) rfl ?_
            · rw [cells_applied]; exact rowAt_put_same (HKZ.out.get 0 _ rfl) #[.slice none 0 0, .slice none 0 0, .int .i64 0, .int .i64 (5)] rfl 4 rfl
            · exact rappPost_no (5) HE.out (by first | decide | exact HNZ.out) (putAt_below HKZ.out.below HAG.out _ _) rfl
        ·
          go_wp2_with fail
          go_loopw [7, 14] (fun a c wr => a = .int .i64 (5) ∧ c = .int .i64 0 ∧ Hid (Kept w [(A, zAp, 61), (G, txV t ai ao ci co, 59)] wr)) (fun _ _ _ => 0)
          case atStart => exact ⟨rfl, rfl, HKY⟩
          case round =>
            obtain ⟨rfl, rfl, HKZ⟩ := hrel
            have s1 : (rowAt wr A 0 4).isSome = true := by rw [HKZ.out.row 0 _ 4 rfl rfl]; rfl
            have s2 : wrAt wr A = true := wrAt_of_heap (HKZ.out.get 0 _ rfl)
            have s3 : plainCells #[.slice none 0 0, .slice none 0 0, .int .i64 0, .int .i64 (5)] = true := rfl
            go_wp2
            refine bodyPost_ret (v := .agg #[.slice none 0 0, .slice none 0 0, .int .i64 0, .int .i64 (5)]) (results_cell_at rfl _ _ A 0 _ rfl agg_applied ?_) rfl ?_
            · rw [cells_applied]; exact rowAt_put_same (HKZ.out.get 0 _ rfl) #[.slice none 0 0, .slice none 0 0, .int .i64 0, .int .i64 (5)] rfl 4 rfl
            · exact rappPost_no (5) HE.out (by first | decide | exact HNZ.out) (putAt_below HKZ.out.below HAG.out _ _) rfl
      · have hjj : ¬ j < t.ins.length := by omega
        go_wp2_with fail
        go_loopw [7, 14] (fun a c wr => a = .int .i64 (5) ∧ c = .int .i64 0 ∧ Hid (Kept w [(A, zAp, 61), (G, txV t ai ao ci co, 59)] wr)) (fun _ _ _ => 0)
        case atStart => exact ⟨rfl, rfl, HKY⟩
        case round =>
          obtain ⟨rfl, rfl, HKZ⟩ := hrel
          have s1 : (rowAt wr A 0 4).isSome = true := by rw [HKZ.out.row 0 _ 4 rfl rfl]; rfl
          have s2 : wrAt wr A = true := wrAt_of_heap (HKZ.out.get 0 _ rfl)
          have s3 : plainCells #[.slice none 0 0, .slice none 0 0, .int .i64 0, .int .i64 (5)] = true := rfl
          go_wp2
          refine bodyPost_ret (v := .agg #[.slice none 0 0, .slice none 0 0, .int .i64 0, .int .i64 (5)]) (results_cell_at rfl _ _ A 0 _ rfl agg_applied ?_) rfl ?_
          · rw [cells_applied]; exact rowAt_put_same (HKZ.out.get 0 _ rfl) #[.slice none 0 0, .slice none 0 0, .int .i64 0, .int .i64 (5)] rfl 4 rfl
          · exact rappPost_no (5) HE.out (by first | decide | exact HNZ.out) (putAt_below HKZ.out.below HAG.out _ _) rfl
    have HSP := Lib.hid hsp; have HAT := Lib.hid hat
    clear hsp hat
    by_cases hlt : j < t.ins.length
    · obtain ⟨g, off, so, scap, rfl, -, h32, -, hrow0⟩ := in_at HI.out j hlt
      have hrow : rowAt wr g (off + j * 34) 34 = some (inV t.ins[j] (.slice so t.ins[j].keys.length scap)) := (rowAt_below HS.out.kept.below (rowAt_lt hrow0) _ _).trans hrow0
      have HTK : Hid (t.ins.take (j + 1) = t.ins.take j ++ [t.ins[j]]) := Lib.hid (List.take_succ_eq_append_getElem hlt)
      have HMEM := Lib.hid (List.getElem_mem hlt)
      obtain ⟨x, hx⟩ : ∃ x, t.ins[j] = x := ⟨_, rfl⟩
      rw [hx] at h32 hrow HTK HMEM
      have hpl := in_place hrow h32
      have hx32 : x.place.tx.length = 32 := h32
      clear hx hrow0 hrow
      go_wp2_with fail
      refine (coinAt_any cs ca cc x.place hx32 _ (coinR_stays.slB HC.out HS.out.kept.below (Nat.le_refl _))).mono ?_
      rintro e w3 ⟨rfl, hb⟩
      have HS3 := Lib.hid (HS.out.on hb)
      have HNG := Lib.hid (atF_neg x.place cs)
      have HCN := Lib.hid (atF_coin x.place cs 0)
      obtain ⟨k, hk⟩ : ∃ k, atF x.place cs 0 = k := ⟨_, rfl⟩
      rw [hk] at HNG HCN ⊢
      clear hk hb hpl c0
      by_cases hkn : k < 0
      · have HL : Hid (Lp1 cs t (j + 1) S (.int .i64 5)) := Lib.hid (.inr ⟨rfl, foundB_false HMEM.out (HNG.out.1 hkn)⟩)
        go_wp2_with fail
        go_roundw
        case rel => exact ⟨j + 1, _, S, by omega, rfl, by go_num, HL.out, HS3, by omega⟩
        case measure => simp [intOf]; omega
      · obtain ⟨i1, hi1, hke, hpe⟩ := HCN.out (by omega)
        rw [Nat.zero_add] at hke
        subst hke
        have HAP : Hid (atP cs x.place = true) := Lib.hid (by
          cases hb : atP cs x.place with
          | true => rfl
          | false => exact absurd (HNG.out.2 hb) hkn)
        have HGC := Lib.hid (getC_of ((sorted_iff cs).1 HSO.out) (List.getElem_mem hi1) hpe)
        obtain ⟨cg, coff, cso, cscap, rfl, -, c32, -, -, hlock, hcrow0⟩ := coin_at HC.out i1 hi1
        have hcrow : rowAt w3 cg (coff + i1 * 36) 36 = some (coinV cs[i1] (.slice cso cs[i1].lock.length cscap)) := (rowAt_below HS3.out.kept.below (rowAt_lt hcrow0) _ _).trans hcrow0
        obtain ⟨C, hC⟩ : ∃ C, cs[i1] = C := ⟨_, rfl⟩
        rw [hC] at hcrow c32 HGC hlock
        obtain ⟨y1, y2, y3⟩ := coin_cells c32 hlock
        obtain ⟨V, hV⟩ : ∃ V, coinV C (.slice cso C.lock.length cscap) = V := ⟨_, rfl⟩
        rw [hV] at hcrow y1 y2 y3
        have HV1 := Lib.hid y1; have HV2 := Lib.hid y2
        have HL : Hid (Lp1 cs t (j + 1) (S ++ [C]) (.int .i64 0)) := Lib.hid (.inl ⟨rfl, by rw [HTK.out, spC_snoc HGC.out, HSP.out], fun y hy => by
          rw [HTK.out] at hy
          rcases List.mem_append.1 hy with h' | h'
          · exact HAT.out y h'
          · rw [List.mem_singleton.1 h']; exact HAP.out⟩)
        have HS4 := Lib.hid ((HS3.out.alloc V 105).tail)
        clear hV hC hlock hcrow0 y1 y2 hpe c32
        go_wp2_with (at_builtin; refine wpList_sel rfl (.tmp 50) (.tmp 55) rfl C V HS4.out rfl rfl (rd_new_row w3 V 105 _ rfl) HV1.out HV2.out y3 (by omega) ?_)
        intro va2 vcap2 w5 HS5
        clear HS4 HS3
        go_wp2_with fail
        go_roundw
        case rel => exact ⟨j + 1, _, S ++ [C], by omega, rfl, by go_num, HL.out, HS5, by simp only [List.length_append, List.length_cons, List.length_nil]; omega⟩
        case measure => simp [intOf]; omega
    have HFB : Hid (foundB cs t.ins = true) := Lib.hid (foundB_true (fun x hx => HAT.out x (by rw [List.take_of_length_le (by omega)]; exact hx)))
    have HSS : Hid (spC cs t.ins = S) := Lib.hid (by rw [← HSP.out, List.take_of_length_le (show t.ins.length ≤ j by omega)])
    have HE1 : Hid (∀ f, (if totC 0 (amounts S) ≠ 0 then totC 0 (amounts S)
      else if totC 0 (amounts (newsT t h)) ≠ 0 then totC 0 (amounts (newsT t h))
      else if 0 < t.ins.length ∧ totV (amounts S) < totV (amounts (newsT t h)) then 9
      else withE cs (lessC cs S) (newsT t h)) = f → applyE cs t h = f) := Lib.hid fun f hf => HE0.out f (by rw [if_neg (by rw [HFB.out]; decide), HSS.out]; exact hf)
    clear HSP HAT HE0
    go_wp2_with fail
    refine (worthOf_any S va vcap wr HS.out.rd (by omega)).mono ?_
    rintro e w3 ⟨rfl, hb⟩
    have HS3 := Lib.hid (HS.out.on hb)
    clear hb c0
    obtain ⟨hv, hhv⟩ : ∃ x, totV (amounts S) = x := ⟨_, rfl⟩
    obtain ⟨hf, hhf⟩ : ∃ x, totC 0 (amounts S) = x := ⟨_, rfl⟩
    have hv0 := totV_le (amounts S)
    rw [hhv] at hv0
    rw [hhv, hhf]
    have HHV := Lib.hid hhv; have HHF := Lib.hid hhf
    clear hhv hhf
    obtain ⟨hv1, hv2⟩ := hv0
    by_cases hz : hf = 0
    rotate_left
    · have HE : Hid (applyE cs t h = hf) := Lib.hid (HE1.out hf (by rw [HHF.out, if_pos hz]))
      have HKY := Lib.hid HS3.out.kept
      have HNZ : Hid (hf ≠ 0) := Lib.hid hz
      have q1 : (hf == 0) = false := by simp; exact hz
      have q2 : (hf != 0) = true := bne_iff_ne.2 hz
      clear hz
      go_wp2_with fail
      go_loopw [7, 14] (fun a c wr => a = .int .i64 (hf) ∧ c = .int .i64 0 ∧ Hid (Kept w [(A, zAp, 61), (G, txV t ai ao ci co, 59)] wr)) (fun _ _ _ => 0)
      case atStart => exact ⟨rfl, rfl, HKY⟩
      case round =>
        obtain ⟨rfl, rfl, HKZ⟩ := hrel
        have s1 : (rowAt wr A 0 4).isSome = true := by rw [HKZ.out.row 0 _ 4 rfl rfl]; rfl
        have s2 : wrAt wr A = true := wrAt_of_heap (HKZ.out.get 0 _ rfl)
        have s3 : plainCells #[.slice none 0 0, .slice none 0 0, .int .i64 0, .int .i64 (hf)] = true := rfl
        go_wp2
        refine bodyPost_ret (v := .agg #[.slice none 0 0, .slice none 0 0, .int .i64 0, .int .i64 (hf)]) (results_cell_at rfl _ _ A 0 _ rfl agg_applied ?_) rfl ?_
        · rw [cells_applied]; exact rowAt_put_same (HKZ.out.get 0 _ rfl) #[.slice none 0 0, .slice none 0 0, .int .i64 0, .int .i64 (hf)] rfl 4 rfl
        · exact rappPost_no (hf) HE.out (by first | decide | exact HNZ.out) (putAt_below HKZ.out.below HAG.out _ _) rfl
    subst hz
    have HE2 : Hid (∀ f, (if totC 0 (amounts (newsT t h)) ≠ 0 then totC 0 (amounts (newsT t h))
      else if 0 < t.ins.length ∧ hv < totV (amounts (newsT t h)) then 9
      else withE cs (lessC cs S) (newsT t h)) = f → applyE cs t h = f) := Lib.hid fun f hf => HE1.out f (by rw [if_neg (by rw [HHF.out]; simp), HHV.out]; exact hf)
    clear HE1
    have r3 : rowAt w3 G 0 3 = some #[.slice ai t.ins.length ci, .slice ao t.outs.length co, .int .i64 t.time] := HS3.out.kept.row 1 _ 3 rfl rfl
    go_wp2_with fail
    refine (news_any t ai ao ci co h w w3 HS3.out.kept.below HI.out HO.out HTF.out).mono ?_
    rintro e w4 ⟨nv, rfl, hns⟩
    have HN4 := Lib.hid (hns.from_ HS3.out.kept (Below.refl _ _))
    have HS4 := Lib.hid (HS3.out.on hns.kept.below)
    obtain ⟨na, ncap, rfl, m1, m2⟩ := hns.val
    unfold maxLen at m2
    obtain ⟨news, hnw⟩ : ∃ news, newsT t h = news := ⟨_, rfl⟩
    have HNW := Lib.hid hnw
    rw [hnw] at HN4 HE2 m1 HNL ⊢
    clear hns r3 hnw
    have hnl2 : news.length ≤ 40 := by have := HNL.out; omega
    have hnl3 : 0 < news.length := by have := HNL.out; omega
    go_wp2_with fail
    refine (worthOf_any news na ncap w4 HN4.out.rd (by omega)).mono ?_
    rintro e w5 ⟨rfl, hb⟩
    have HS5 := Lib.hid (HS4.out.on hb)
    have HN5 := Lib.hid (HN4.out.on hb)
    clear hb
    obtain ⟨pv, hpv⟩ : ∃ x, totV (amounts news) = x := ⟨_, rfl⟩
    obtain ⟨pf, hpf⟩ : ∃ x, totC 0 (amounts news) = x := ⟨_, rfl⟩
    have pv0 := totV_le (amounts news)
    rw [hpv] at pv0
    rw [hpv, hpf]
    have HPV := Lib.hid hpv; have HPF := Lib.hid hpf
    clear hpv hpf
    obtain ⟨pv1, pv2⟩ := pv0
    by_cases hz : pf = 0
    rotate_left
    · have HE : Hid (applyE cs t h = pf) := Lib.hid (HE2.out pf (by rw [HPF.out, if_pos hz]))
      have HKY := Lib.hid HS5.out.kept
      have HNZ : Hid (pf ≠ 0) := Lib.hid hz
      have q1 : (pf == 0) = false := by simp; exact hz
      have q2 : (pf != 0) = true := bne_iff_ne.2 hz
      clear hz
      go_wp2_with fail
      go_loopw [7, 14] (fun a c wr => a = .int .i64 (pf) ∧ c = .int .i64 0 ∧ Hid (Kept w [(A, zAp, 61), (G, txV t ai ao ci co, 59)] wr)) (fun _ _ _ => 0)
      case atStart => exact ⟨rfl, rfl, HKY⟩
      case round =>
        obtain ⟨rfl, rfl, HKZ⟩ := hrel
        have s1 : (rowAt wr A 0 4).isSome = true := by rw [HKZ.out.row 0 _ 4 rfl rfl]; rfl
        have s2 : wrAt wr A = true := wrAt_of_heap (HKZ.out.get 0 _ rfl)
        have s3 : plainCells #[.slice none 0 0, .slice none 0 0, .int .i64 0, .int .i64 (pf)] = true := rfl
        go_wp2
        refine bodyPost_ret (v := .agg #[.slice none 0 0, .slice none 0 0, .int .i64 0, .int .i64 (pf)]) (results_cell_at rfl _ _ A 0 _ rfl agg_applied ?_) rfl ?_
        · rw [cells_applied]; exact rowAt_put_same (HKZ.out.get 0 _ rfl) #[.slice none 0 0, .slice none 0 0, .int .i64 0, .int .i64 (pf)] rfl 4 rfl
        · exact rappPost_no (pf) HE.out (by first | decide | exact HNZ.out) (putAt_below HKZ.out.below HAG.out _ _) rfl
    subst hz
    have HE3 : Hid (∀ f, (if 0 < t.ins.length ∧ hv < pv then 9
      else withE cs (lessC cs S) news) = f → applyE cs t h = f) := Lib.hid fun f hf => HE2.out f (by rw [if_neg (by rw [HPF.out]; simp), HPV.out]; exact hf)
    clear HE2
    have c0 : w5.cell? ⟨G, 0, none⟩ = some (.slice ai t.ins.length ci) := HS5.out.kept.cell 1 0 _ _ rfl rfl
    have HLE : Hid ((lessC cs S).length + S.length = cs.length) := Lib.hid (by
      have hp := less_perm ((sorted_iff cs).1 HSO.out) (insF_apart t.ins [] (txF_ins HTF.out)).2
      rw [HSS.out] at hp
      have := hp.length_eq
      rw [List.length_append] at this; omega)
    by_cases hin : 0 < t.ins.length
    · by_cases h9 : hv < pv
      · have HE : Hid (applyE cs t h = 9) := Lib.hid (HE3.out 9 (by rw [if_pos ⟨hin, h9⟩]))
        have HKY := Lib.hid HS5.out.kept
        go_wp2_with fail
        go_loopw [7, 14] (fun a c wr => a = .int .i64 (9) ∧ c = .int .i64 0 ∧ Hid (Kept w [(A, zAp, 61), (G, txV t ai ao ci co, 59)] wr)) (fun _ _ _ => 0)
        case atStart => exact ⟨rfl, rfl, HKY⟩
        case round =>
          obtain ⟨rfl, rfl, HKZ⟩ := hrel
          have s1 : (rowAt wr A 0 4).isSome = true := by rw [HKZ.out.row 0 _ 4 rfl rfl]; rfl
          have s2 : wrAt wr A = true := wrAt_of_heap (HKZ.out.get 0 _ rfl)
          have s3 : plainCells #[.slice none 0 0, .slice none 0 0, .int .i64 0, .int .i64 (9)] = true := rfl
          go_wp2
          refine bodyPost_ret (v := .agg #[.slice none 0 0, .slice none 0 0, .int .i64 0, .int .i64 (9)]) (results_cell_at rfl _ _ A 0 _ rfl agg_applied ?_) rfl ?_
          · rw [cells_applied]; exact rowAt_put_same (HKZ.out.get 0 _ rfl) #[.slice none 0 0, .slice none 0 0, .int .i64 0, .int .i64 (9)] rfl 4 rfl
          · exact rappPost_no (9) HE.out (by first | decide | exact HNZ.out) (putAt_below HKZ.out.below HAG.out _ _) rfl
      · have h10 : hv - pv ≤ 1125899906842624 := by omega
        have HEF : Hid (∀ f, withE cs (lessC cs S) news = f → applyE cs t h = f) := Lib.hid fun f hf => HE3.out f (by rw [if_neg (by omega)]; exact hf)
        have HLF : Hid (applyL cs t h = hv - pv) := Lib.hid (by unfold applyL; rw [if_pos hin, HSS.out, HHV.out, HNW.out, HPV.out])
        go_wp2_with fail
        clear c0
        go_loopw [7, 14] (fun a c wr => ∃ j : Nat, j ≤ news.length ∧ c = .int .i64 j ∧ Lp2 cs news j a ∧ Hid (Sel w w [(A, zAp, 61), (G, txV t ai ao ci co, 59)] (.slice va S.length vcap) S wr) ∧ Hid (Sel w w [(A, zAp, 61), (G, txV t ai ao ci co, 59)] (.slice na news.length ncap) news wr)) (fun _ c _ => news.length - (intOf c).toNat)
        case atStart => exact ⟨0, by omega, rfl, .inl ⟨rfl, fun n hn => by simp at hn⟩, HS5, HN5⟩
        case round =>
          obtain ⟨j, hj, rfl, hlp, HS6, HN6⟩ := hrel
          rcases hlp with ⟨rfl, hno⟩ | ⟨rfl, htw⟩
          rotate_left
          · have HE : Hid (applyE cs t h = 6) := Lib.hid (HEF.out 6 (by unfold withE; rw [if_pos htw]))
            have HKY := Lib.hid HS6.out.kept
            clear htw
            by_cases hjj : j < news.length
            ·
              have s1 : (rowAt wr A 0 4).isSome = true := by rw [HKY.out.row 0 _ 4 rfl rfl]; rfl
              have s2 : wrAt wr A = true := wrAt_of_heap (HKY.out.get 0 _ rfl)
              have s3 : plainCells #[.slice none 0 0, .slice none 0 0, .int .i64 0, .int .i64 (6)] = true := rfl
              go_wp2
              refine bodyPost_ret (v := .agg #[.slice none 0 0, .slice none 0 0, .int .i64 0, .int .i64 (6)]) (results_cell_at rfl _ _ A 0 _ rfl agg_applied ?_) rfl ?_
              · rw [cells_applied]; exact rowAt_put_same (HKY.out.get 0 _ rfl) #[.slice none 0 0, .slice none 0 0, .int .i64 0, .int .i64 (6)] rfl 4 rfl
              · exact rappPost_no (6) HE.out (by first | decide | exact HNZ.out) (putAt_below HKY.out.below HAG.out _ _) rfl
            ·
              have s1 : (rowAt wr A 0 4).isSome = true := by rw [HKY.out.row 0 _ 4 rfl rfl]; rfl
              have s2 : wrAt wr A = true := wrAt_of_heap (HKY.out.get 0 _ rfl)
              have s3 : plainCells #[.slice none 0 0, .slice none 0 0, .int .i64 0, .int .i64 (6)] = true := rfl
              go_wp2
              refine bodyPost_ret (v := .agg #[.slice none 0 0, .slice none 0 0, .int .i64 0, .int .i64 (6)]) (results_cell_at rfl _ _ A 0 _ rfl agg_applied ?_) rfl ?_
              · rw [cells_applied]; exact rowAt_put_same (HKY.out.get 0 _ rfl) #[.slice none 0 0, .slice none 0 0, .int .i64 0, .int .i64 (6)] rfl 4 rfl
              · exact rappPost_no (6) HE.out (by first | decide | exact HNZ.out) (putAt_below HKY.out.below HAG.out _ _) rfl
          have HNO := Lib.hid hno
          clear hno
          by_cases hlt : j < news.length
          · obtain ⟨g, off, so, scap, rfl, -, h32, -, -, -, hrow⟩ := coin_at HN6.out.rd j hlt
            have hpl := coin_place hrow h32
            have HTK : Hid (news.take (j + 1) = news.take j ++ [news[j]]) := Lib.hid (List.take_succ_eq_append_getElem hlt)
            have HMEM := Lib.hid (List.getElem_mem hlt)
            obtain ⟨x, hx⟩ : ∃ x, news[j] = x := ⟨_, rfl⟩
            rw [hx] at h32 hpl HTK HMEM
            have hx32 : x.place.tx.length = 32 := h32
            clear hx hrow
            go_wp2_with fail
            refine (coinAt_any cs ca cc x.place hx32 _ (coinR_stays.slB HC.out HS6.out.kept.below (Nat.le_refl _))).mono ?_
            rintro e w7 ⟨rfl, hb⟩
            have HS7 := Lib.hid (HS6.out.on hb)
            have HN7 := Lib.hid (HN6.out.on hb)
            have HNG := Lib.hid (atF_neg x.place cs)
            obtain ⟨k, hk⟩ : ∃ k, atF x.place cs 0 = k := ⟨_, rfl⟩
            rw [hk] at HNG ⊢
            clear hk hb hpl
            by_cases hkn : k < 0
            · have HL : Hid (Lp2 cs news (j + 1) (.int .i64 0)) := Lib.hid (.inl ⟨rfl, fun n hn => by
                rw [HTK.out] at hn
                rcases List.mem_append.1 hn with h' | h'
                · exact HNO.out n h'
                · rw [List.mem_singleton.1 h']; exact HNG.out.1 hkn⟩)
              have hk2 : decide (0 ≤ k) = false := decide_eq_false (by omega)
              go_wp2_with fail
              go_roundw
              case rel => exact ⟨j + 1, by omega, by go_num, HL.out, HS7, HN7⟩
              case measure => simp [intOf]; omega
            · have HL : Hid (Lp2 cs news (j + 1) (.int .i64 6)) := Lib.hid (.inr ⟨rfl, twice_yes HMEM.out (by
                cases hb : atP cs x.place with
                | true => rfl
                | false => exact absurd (HNG.out.2 hb) hkn)⟩)
              have hk2 : decide (0 ≤ k) = true := decide_eq_true (by omega)
              have hk3 : 0 ≤ k := by omega
              go_wp2_with fail
              go_roundw
              case rel => exact ⟨j + 1, by omega, by go_num, HL.out, HS7, HN7⟩
              case measure => simp [intOf]; omega
          have HTW : Hid (twiceB cs news = false) := Lib.hid (twice_not fun n hn => HNO.out n (by rw [List.take_of_length_le (by omega)]; exact hn))
          have hle := HLE.out
          have hS40 : S.length ≤ cs.length := by omega
          by_cases hbig : 1000 < (lessC cs S).length + news.length
          · have HE : Hid (applyE cs t h = 4) := Lib.hid (HEF.out 4 (by unfold withE; rw [if_neg (by rw [HTW.out]; decide), if_pos hbig]))
            have HKY := Lib.hid HS6.out.kept
            have hb2 : (1000 : Int) < (cs.length : Int) - (S.length : Int) + (news.length : Int) := by omega
            clear hbig hle
            have s1 : (rowAt wr A 0 4).isSome = true := by rw [HKY.out.row 0 _ 4 rfl rfl]; rfl
            have s2 : wrAt wr A = true := wrAt_of_heap (HKY.out.get 0 _ rfl)
            have s3 : plainCells #[.slice none 0 0, .slice none 0 0, .int .i64 0, .int .i64 (4)] = true := rfl
            go_wp2
            refine bodyPost_ret (v := .agg #[.slice none 0 0, .slice none 0 0, .int .i64 0, .int .i64 (4)]) (results_cell_at rfl _ _ A 0 _ rfl agg_applied ?_) rfl ?_
            · rw [cells_applied]; exact rowAt_put_same (HKY.out.get 0 _ rfl) #[.slice none 0 0, .slice none 0 0, .int .i64 0, .int .i64 (4)] rfl 4 rfl
            · exact rappPost_no (4) HE.out (by first | decide | exact HNZ.out) (putAt_below HKY.out.below HAG.out _ _) rfl
          have HE : Hid (applyE cs t h = 0) := Lib.hid (HEF.out 0 (by unfold withE; rw [if_neg (by rw [HTW.out]; decide), if_neg hbig]))
          have hb2 : ¬ (1000 : Int) < (cs.length : Int) - (S.length : Int) + (news.length : Int) := by omega
          have hll : (lessC cs S).length ≤ 1000 := by omega
          clear hbig hle
          have c0 : wr.cell? ⟨G, 0, none⟩ = some (.slice ai t.ins.length ci) := HS6.out.kept.cell 1 0 _ _ rfl rfl
          go_wp2_with fail
          refine (less_any cs S ca va cc vcap w wr HS6.out.kept.below (rdc_of HC.out HS6.out.kept.below) HS6.out.rd (by omega)).mono ?_
          rintro e w8 ⟨lv, rfl, hls⟩
          have HL8 := Lib.hid (hls.from_ HS6.out.kept (Below.refl _ _))
          have HS8 := Lib.hid (HS6.out.on hls.kept.below)
          have HN8 := Lib.hid (HN6.out.on hls.kept.below)
          obtain ⟨la, lcap, rfl, -, -⟩ := hls.val
          clear hls c0
          go_wp2_with fail
          refine (merged_any (lessC cs S) news la na lcap ncap w w8 HS8.out.kept.below HL8.out.rdc HN8.out.rdc (by omega)).mono ?_
          rintro e w9 ⟨mv, rfl, hms⟩
          have HM9 := Lib.hid (hms.from_ HS8.out.kept (Below.refl _ _))
          have HS9 := Lib.hid (HS8.out.on hms.kept.below)
          obtain ⟨ma, mcap, rfl, -, -⟩ := hms.val
          clear hms
          have HMG : Hid (applyS cs t h = mergeC (lessC cs S) news) := Lib.hid (by
            unfold applyS
            rw [HSS.out, HNW.out, mergeC_with]
            · exact fun c hc => (all32_iff cs).1 H32.out c (mem_lessC.1 hc).1
            · rw [← HNW.out]; exact fun c hc => by rw [(newsC_mem _ _ _ _ _ hc).1]; exact idD_length t
            · rw [← HNW.out]; exact newsC_sorted _ _ _ _)
          have s1 : (rowAt w9 A 0 4).isSome = true := by rw [HS9.out.kept.row 0 _ 4 rfl rfl]; rfl
          have s2 : wrAt w9 A = true := wrAt_of_heap (HS9.out.kept.get 0 _ rfl)
          have s3 : plainCells #[.slice ma (mergeC (lessC cs S) news).length mcap, .slice va S.length vcap, .int .i64 (hv - pv), .int .i64 0] = true := rfl
          go_wp2
          refine bodyPost_ret (v := .agg #[.slice ma (mergeC (lessC cs S) news).length mcap, .slice va S.length vcap, .int .i64 (hv - pv), .int .i64 0]) (results_cell_at rfl _ _ A 0 _ rfl agg_applied ?_) rfl ?_
          · rw [cells_applied]; exact rowAt_put_same (HS9.out.kept.get 0 _ rfl) #[.slice ma (mergeC (lessC cs S) news).length mcap, .slice va S.length vcap, .int .i64 (hv - pv), .int .i64 0] rfl 4 rfl
          · have hA9 : w9.heap[A]? = some (.cells zAp 61 (0, 0)) := HS9.out.kept.get 0 _ rfl
            exact rappPost_yes _ _ HE.out (putAt_below HS9.out.kept.below HAG.out _ _) (by rw [HLF.out]) (by rw [HMG.out]; exact (HM9.out.put hA9 (by decide) HAG.out _).rd) (by rw [HSS.out]; exact (HS9.out.put hA9 (by decide) HAG.out _).rd)
    · have hin2 : t.ins.length = 0 := by omega
      have HEF : Hid (∀ f, withE cs (lessC cs S) news = f → applyE cs t h = f) := Lib.hid fun f hf => HE3.out f (by rw [if_neg (by omega)]; exact hf)
      have HLF : Hid (applyL cs t h = 0) := Lib.hid (by unfold applyL; rw [if_neg hin])
      go_wp2_with fail
      clear c0
      go_loopw [7, 14] (fun a c wr => ∃ j : Nat, j ≤ news.length ∧ c = .int .i64 j ∧ Lp2 cs news j a ∧ Hid (Sel w w [(A, zAp, 61), (G, txV t ai ao ci co, 59)] (.slice va S.length vcap) S wr) ∧ Hid (Sel w w [(A, zAp, 61), (G, txV t ai ao ci co, 59)] (.slice na news.length ncap) news wr)) (fun _ c _ => news.length - (intOf c).toNat)
      case atStart => exact ⟨0, by omega, rfl, .inl ⟨rfl, fun n hn => by simp at hn⟩, HS5, HN5⟩
      case round =>
        obtain ⟨j, hj, rfl, hlp, HS6, HN6⟩ := hrel
        rcases hlp with ⟨rfl, hno⟩ | ⟨rfl, htw⟩
        rotate_left
        · have HE : Hid (applyE cs t h = 6) := Lib.hid (HEF.out 6 (by unfold withE; rw [if_pos htw]))
          have HKY := Lib.hid HS6.out.kept
          clear htw
          by_cases hjj : j < news.length
          ·
            have s1 : (rowAt wr A 0 4).isSome = true := by rw [HKY.out.row 0 _ 4 rfl rfl]; rfl
            have s2 : wrAt wr A = true := wrAt_of_heap (HKY.out.get 0 _ rfl)
            have s3 : plainCells #[.slice none 0 0, .slice none 0 0, .int .i64 0, .int .i64 (6)] = true := rfl
            go_wp2
            refine bodyPost_ret (v := .agg #[.slice none 0 0, .slice none 0 0, .int .i64 0, .int .i64 (6)]) (results_cell_at rfl _ _ A 0 _ rfl agg_applied ?_) rfl ?_
            · rw [cells_applied]; exact rowAt_put_same (HKY.out.get 0 _ rfl) #[.slice none 0 0, .slice none 0 0, .int .i64 0, .int .i64 (6)] rfl 4 rfl
            · exact rappPost_no (6) HE.out (by first | decide | exact HNZ.out) (putAt_below HKY.out.below HAG.out _ _) rfl
          ·
            have s1 : (rowAt wr A 0 4).isSome = true := by rw [HKY.out.row 0 _ 4 rfl rfl]; rfl
            have s2 : wrAt wr A = true := wrAt_of_heap (HKY.out.get 0 _ rfl)
            have s3 : plainCells #[.slice none 0 0, .slice none 0 0, .int .i64 0, .int .i64 (6)] = true := rfl
            go_wp2
            refine bodyPost_ret (v := .agg #[.slice none 0 0, .slice none 0 0, .int .i64 0, .int .i64 (6)]) (results_cell_at rfl _ _ A 0 _ rfl agg_applied ?_) rfl ?_
            · rw [cells_applied]; exact rowAt_put_same (HKY.out.get 0 _ rfl) #[.slice none 0 0, .slice none 0 0, .int .i64 0, .int .i64 (6)] rfl 4 rfl
            · exact rappPost_no (6) HE.out (by first | decide | exact HNZ.out) (putAt_below HKY.out.below HAG.out _ _) rfl
        have HNO := Lib.hid hno
        clear hno
        by_cases hlt : j < news.length
        · obtain ⟨g, off, so, scap, rfl, -, h32, -, -, -, hrow⟩ := coin_at HN6.out.rd j hlt
          have hpl := coin_place hrow h32
          have HTK : Hid (news.take (j + 1) = news.take j ++ [news[j]]) := Lib.hid (List.take_succ_eq_append_getElem hlt)
          have HMEM := Lib.hid (List.getElem_mem hlt)
          obtain ⟨x, hx⟩ : ∃ x, news[j] = x := ⟨_, rfl⟩
          rw [hx] at h32 hpl HTK HMEM
          have hx32 : x.place.tx.length = 32 := h32
          clear hx hrow
          go_wp2_with fail
          refine (coinAt_any cs ca cc x.place hx32 _ (coinR_stays.slB HC.out HS6.out.kept.below (Nat.le_refl _))).mono ?_
          rintro e w7 ⟨rfl, hb⟩
          have HS7 := Lib.hid (HS6.out.on hb)
          have HN7 := Lib.hid (HN6.out.on hb)
          have HNG := Lib.hid (atF_neg x.place cs)
          obtain ⟨k, hk⟩ : ∃ k, atF x.place cs 0 = k := ⟨_, rfl⟩
          rw [hk] at HNG ⊢
          clear hk hb hpl
          by_cases hkn : k < 0
          · have HL : Hid (Lp2 cs news (j + 1) (.int .i64 0)) := Lib.hid (.inl ⟨rfl, fun n hn => by
              rw [HTK.out] at hn
              rcases List.mem_append.1 hn with h' | h'
              · exact HNO.out n h'
              · rw [List.mem_singleton.1 h']; exact HNG.out.1 hkn⟩)
            have hk2 : decide (0 ≤ k) = false := decide_eq_false (by omega)
            go_wp2_with fail
            go_roundw
            case rel => exact ⟨j + 1, by omega, by go_num, HL.out, HS7, HN7⟩
            case measure => simp [intOf]; omega
          · have HL : Hid (Lp2 cs news (j + 1) (.int .i64 6)) := Lib.hid (.inr ⟨rfl, twice_yes HMEM.out (by
              cases hb : atP cs x.place with
              | true => rfl
              | false => exact absurd (HNG.out.2 hb) hkn)⟩)
            have hk2 : decide (0 ≤ k) = true := decide_eq_true (by omega)
            have hk3 : 0 ≤ k := by omega
            go_wp2_with fail
            go_roundw
            case rel => exact ⟨j + 1, by omega, by go_num, HL.out, HS7, HN7⟩
            case measure => simp [intOf]; omega
        have HTW : Hid (twiceB cs news = false) := Lib.hid (twice_not fun n hn => HNO.out n (by rw [List.take_of_length_le (by omega)]; exact hn))
        have hle := HLE.out
        have hS40 : S.length ≤ cs.length := by omega
        by_cases hbig : 1000 < (lessC cs S).length + news.length
        · have HE : Hid (applyE cs t h = 4) := Lib.hid (HEF.out 4 (by unfold withE; rw [if_neg (by rw [HTW.out]; decide), if_pos hbig]))
          have HKY := Lib.hid HS6.out.kept
          have hb2 : (1000 : Int) < (cs.length : Int) - (S.length : Int) + (news.length : Int) := by omega
          clear hbig hle
          have s1 : (rowAt wr A 0 4).isSome = true := by rw [HKY.out.row 0 _ 4 rfl rfl]; rfl
          have s2 : wrAt wr A = true := wrAt_of_heap (HKY.out.get 0 _ rfl)
          have s3 : plainCells #[.slice none 0 0, .slice none 0 0, .int .i64 0, .int .i64 (4)] = true := rfl
          go_wp2
          refine bodyPost_ret (v := .agg #[.slice none 0 0, .slice none 0 0, .int .i64 0, .int .i64 (4)]) (results_cell_at rfl _ _ A 0 _ rfl agg_applied ?_) rfl ?_
          · rw [cells_applied]; exact rowAt_put_same (HKY.out.get 0 _ rfl) #[.slice none 0 0, .slice none 0 0, .int .i64 0, .int .i64 (4)] rfl 4 rfl
          · exact rappPost_no (4) HE.out (by first | decide | exact HNZ.out) (putAt_below HKY.out.below HAG.out _ _) rfl
        have HE : Hid (applyE cs t h = 0) := Lib.hid (HEF.out 0 (by unfold withE; rw [if_neg (by rw [HTW.out]; decide), if_neg hbig]))
        have hb2 : ¬ (1000 : Int) < (cs.length : Int) - (S.length : Int) + (news.length : Int) := by omega
        have hll : (lessC cs S).length ≤ 1000 := by omega
        clear hbig hle
        have c0 : wr.cell? ⟨G, 0, none⟩ = some (.slice ai t.ins.length ci) := HS6.out.kept.cell 1 0 _ _ rfl rfl
        go_wp2_with fail
        refine (less_any cs S ca va cc vcap w wr HS6.out.kept.below (rdc_of HC.out HS6.out.kept.below) HS6.out.rd (by omega)).mono ?_
        rintro e w8 ⟨lv, rfl, hls⟩
        have HL8 := Lib.hid (hls.from_ HS6.out.kept (Below.refl _ _))
        have HS8 := Lib.hid (HS6.out.on hls.kept.below)
        have HN8 := Lib.hid (HN6.out.on hls.kept.below)
        obtain ⟨la, lcap, rfl, -, -⟩ := hls.val
        clear hls c0
        go_wp2_with fail
        refine (merged_any (lessC cs S) news la na lcap ncap w w8 HS8.out.kept.below HL8.out.rdc HN8.out.rdc (by omega)).mono ?_
        rintro e w9 ⟨mv, rfl, hms⟩
        have HM9 := Lib.hid (hms.from_ HS8.out.kept (Below.refl _ _))
        have HS9 := Lib.hid (HS8.out.on hms.kept.below)
        obtain ⟨ma, mcap, rfl, -, -⟩ := hms.val
        clear hms
        have HMG : Hid (applyS cs t h = mergeC (lessC cs S) news) := Lib.hid (by
          unfold applyS
          rw [HSS.out, HNW.out, mergeC_with]
          · exact fun c hc => (all32_iff cs).1 H32.out c (mem_lessC.1 hc).1
          · rw [← HNW.out]; exact fun c hc => by rw [(newsC_mem _ _ _ _ _ hc).1]; exact idD_length t
          · rw [← HNW.out]; exact newsC_sorted _ _ _ _)
        have s1 : (rowAt w9 A 0 4).isSome = true := by rw [HS9.out.kept.row 0 _ 4 rfl rfl]; rfl
        have s2 : wrAt w9 A = true := wrAt_of_heap (HS9.out.kept.get 0 _ rfl)
        have s3 : plainCells #[.slice ma (mergeC (lessC cs S) news).length mcap, .slice va S.length vcap, .int .i64 (0), .int .i64 0] = true := rfl
        go_wp2
        refine bodyPost_ret (v := .agg #[.slice ma (mergeC (lessC cs S) news).length mcap, .slice va S.length vcap, .int .i64 (0), .int .i64 0]) (results_cell_at rfl _ _ A 0 _ rfl agg_applied ?_) rfl ?_
        · rw [cells_applied]; exact rowAt_put_same (HS9.out.kept.get 0 _ rfl) #[.slice ma (mergeC (lessC cs S) news).length mcap, .slice va S.length vcap, .int .i64 (0), .int .i64 0] rfl 4 rfl
        · have hA9 : w9.heap[A]? = some (.cells zAp 61 (0, 0)) := HS9.out.kept.get 0 _ rfl
          exact rappPost_yes _ _ HE.out (putAt_below HS9.out.kept.below HAG.out _ _) (by rw [HLF.out]) (by rw [HMG.out]; exact (HM9.out.put hA9 (by decide) HAG.out _).rd) (by rw [HSS.out]; exact (HS9.out.put hA9 (by decide) HAG.out _).rd)
end Go.Proofs.YtljcdkfafknnpaaGreatDoor
