/- Merged: Szat. Conditions: none beyond each theorem's own. -/
import Derived.Test.YtljcdkfafknnpaaGreatDoorWid
import Derived.Test.YtljcdkfafknnpaaGreatDoorHdd
namespace Go.Proofs.YtljcdkfafknnpaaGreatDoor
set_option linter.unusedVariables false
set_option linter.unusedSimpArgs false
open Go.RowKit
@[go_sem] theorem agg_got : aggOf Tryz.prog 82 = true := by kernel_rfl
@[go_sem] theorem cells_got : Tryz.prog.cellsOf 82 = 3 := by kernel_rfl
def zGot : Array Value := #[.int .i64 0, .int .i64 0, .int .i64 0]
theorem built_got (parts : List (Nat × Value)) : Tryz.prog.built 82 parts = Instr.fill (fun x => #[(0, 1), (1, 1), (2, 1)][x]?) zGot parts := by kernel_rfl
theorem built_got1 (v : Value) (hv : v.cells = #[v]) : Tryz.prog.built 82 [(2, v)] = some #[.int .i64 0, .int .i64 0, v] := by
  rw [built_got, fill_step _ _ 2 v 2 1 _ rfl (by rw [hv]; rfl) (by decide), hv]; rfl
theorem built_got2 (x y : Value) (hx : x.cells = #[x]) (hy : y.cells = #[y]) : Tryz.prog.built 82 [(0, x), (1, y)] = some #[x, y, .int .i64 0] := by
  rw [built_got, fill_step _ _ 0 x 0 1 _ rfl (by rw [hx]; rfl) (by decide), hx, fill_step _ _ 1 y 1 1 _ rfl (by rw [hy]; rfl) (by simp [zGot]), hy]; rfl
theorem exec_build_got1 (ev : Operand → Value) (w : World) (dst : Option Tmp) (x : Operand) (type : TypeId) (pos : String) (after : Array Edge) (guard : Option (Nat × Bool)) (hx : (ev x).cells = #[ev x]) :
    (execOp ev ⟨dst, .build 82 #[(2, x)], type, pos, after, guard⟩).run Tryz.prog w = .ok (.value (.agg #[.int .i64 0, .int .i64 0, ev x])) w := by
  have := run_build (P := Tryz.prog) w 82 #[(2, ev x)] _ (built_got1 (ev x) hx)
  simp only [execOp, List.map_toArray, List.map_cons, List.map_nil, Sem.run_bind, this]
  rfl
theorem exec_build_got2 (ev : Operand → Value) (w : World) (dst : Option Tmp) (x y : Operand) (type : TypeId) (pos : String) (after : Array Edge) (guard : Option (Nat × Bool)) (hx : (ev x).cells = #[ev x]) (hy : (ev y).cells = #[ev y]) :
    (execOp ev ⟨dst, .build 82 #[(0, x), (1, y)], type, pos, after, guard⟩).run Tryz.prog w = .ok (.value (.agg #[ev x, ev y, .int .i64 0])) w := by
  have := run_build (P := Tryz.prog) w 82 #[(0, ev x), (1, ev y)] _ (built_got2 (ev x) (ev y) hx hy)
  simp only [execOp, List.map_toArray, List.map_cons, List.map_nil, Sem.run_bind, this]
  rfl
def gotA (g : GotD) : Array Value := #[.int .i64 (g.n : Int), .int .i64 (g.next : Int), .int .i64 g.e]
attribute [local go_sem ↓] run_load_agg run_store_agg run_load_any exec_build_got1 exec_build_got2
set_option maxHeartbeats 8000000 in
set_option maxRecDepth 100000 in
theorem sizeAt_any (b : List UInt8) (n : Nat) (ao : Option Addr) (cap : Nat) (i : Nat) (w : World) (h : rd w (.slice ao n cap) n (b.map vB)) (hl : b.length = n) (hi : i ≤ n) (hn : n ≤ 140737488351232) :
    Calls Tryz.prog 39 #[.slice ao n cap, .int .i64 i] w fun e w' => e = .returned (.agg (gotA (szAt b i))) ∧ Below w.heap.size w w' := by
  have h' := h
  obtain ⟨ao', cap', e0, k1, k2, k3⟩ := h'
  cases e0
  clear k2
  have k0 := (Kept.refl w).alloc zGot 82
  have K0 := Lib.hid k0
  have HH := Lib.hid h
  have HL := Lib.hid hl
  clear k0 h
  by_cases hin : n ≤ i
  · have HE : Hid (szAt b i = ⟨0, 0, 3⟩) := Lib.hid (szAt_out (by omega))
    clear k3 hl
    go_enter Tryz.func39, Tryz.ntmps39
    go_upto_region 1 with fail
    change Code.wp _ _ _ _ (w.alloc (.cells zGot 82))
    obtain ⟨A, hA⟩ : ∃ A, w.heap.size = A := ⟨_, rfl⟩
    have HAG : Hid (w.heap.size ≤ A) := Lib.hid (by omega)
    rw [hA] at K0 ⊢
    clear hA
    obtain ⟨w0, hw0⟩ : ∃ w0, w.alloc (.cells zGot 82) = w0 := ⟨_, rfl⟩
    rw [hw0] at K0 ⊢
    clear hw0
    have q1 : ¬ ((i : Int) < 0) := by omega
    have q2 : (n : Int) ≤ (i : Int) := by omega
    clear hi hin
    have s1 : (rowAt w0 A 0 3).isSome = true := by rw [K0.out.row 0 _ 3 rfl rfl]; rfl
    have s2 : wrAt w0 A = true := wrAt_of_heap (K0.out.get 0 _ rfl)
    have s3 : plainCells #[.int .i64 0, .int .i64 0, .int .i64 3] = true := rfl
    go_wp2
    refine bodyPost_ret (v := .agg #[.int .i64 0, .int .i64 0, .int .i64 3]) (results_cell_at rfl _ _ A 0 _ rfl agg_got ?_) rfl ?_
    · rw [cells_got]; exact rowAt_put_same (K0.out.get 0 _ rfl) #[.int .i64 0, .int .i64 0, .int .i64 3] rfl 3 rfl
    · exact ⟨by rw [HE.out]; rfl, putAt_below K0.out.below HAG.out _ _⟩
  rcases k3 with k3 | ⟨g, off, rfl, k3⟩
  · have := congrArg List.length k3; rw [List.length_map, List.length_nil] at this; omega
  obtain ⟨x, hx⟩ : ∃ x, b.getD i 0 = x := ⟨_, rfl⟩
  have hcw : w.cell? ⟨g, off + i, none⟩ = some (.int .u8 (bv x)) := by
    rw [← hx]; apply k3; simp [List.getD_eq_getElem?_getD, List.getElem?_eq_getElem (show i < b.length by omega), vB]
  have hc : (w.alloc (.cells zGot 82)).cell? ⟨g, off + i, none⟩ = some (.int .u8 (bv x)) := (K0.out.below.cell (World.block_lt_of_cell? w _ hcw)).trans hcw
  have HX := Lib.hid hx
  clear k3 hcw hx
  rcases wid_cases x with ⟨hx0, hw⟩ | hrest
  · have HE : Hid (szAt b i = ⟨x.toNat, i + 1, 0⟩) := Lib.hid (szAt_low (by omega) HX.out hx0)
    have HV : Hid (bv x = (x.toNat : Int)) := Lib.hid rfl
    have q3 : bv x < 253 := by rw [HV.out]; omega
    have q4 := bv_nonneg x
    clear hl hw hx0
    go_enter Tryz.func39, Tryz.ntmps39
    go_upto_region 1 with fail
    change Code.wp _ _ _ _ (w.alloc (.cells zGot 82))
    obtain ⟨A, hA⟩ : ∃ A, w.heap.size = A := ⟨_, rfl⟩
    have HAG : Hid (w.heap.size ≤ A) := Lib.hid (by omega)
    rw [hA] at K0 ⊢
    clear hA
    obtain ⟨w0, hw0⟩ : ∃ w0, w.alloc (.cells zGot 82) = w0 := ⟨_, rfl⟩
    rw [hw0] at K0 hc ⊢
    clear hw0
    obtain ⟨X, hX⟩ : ∃ X, bv x = X := ⟨_, rfl⟩
    have HVX : Hid (X = (x.toNat : Int)) := Lib.hid (by rw [← hX]; exact HV.out)
    rw [hX] at hc q3 q4
    clear hX HV
    have q5 : (X == 253) = false := beq_false_of_ne (by omega)
    have q6 : (X == 254) = false := beq_false_of_ne (by omega)
    have q7 : (X == 255) = false := beq_false_of_ne (by omega)
    have s1 : (rowAt w0 A 0 3).isSome = true := by rw [K0.out.row 0 _ 3 rfl rfl]; rfl
    have s2 : wrAt w0 A = true := wrAt_of_heap (K0.out.get 0 _ rfl)
    have s3 : plainCells #[.int .i64 X, .int .i64 ((i : Int) + 1), .int .i64 0] = true := rfl
    go_wp2
    refine bodyPost_ret (v := .agg #[.int .i64 X, .int .i64 ((i : Int) + 1), .int .i64 0]) (results_cell_at rfl _ _ A 0 _ rfl agg_got ?_) rfl ?_
    · rw [cells_got]; exact rowAt_put_same (K0.out.get 0 _ rfl) #[.int .i64 X, .int .i64 ((i : Int) + 1), .int .i64 0] rfl 3 rfl
    · exact ⟨by rw [HE.out, HVX.out]; rfl, putAt_below K0.out.below HAG.out _ _⟩
  rcases hrest with ⟨hx0, hw⟩ | hrest
  · have hv : bv x = 253 := by unfold bv; omega
    rw [hv] at hc
    clear hv hx0
    by_cases hsh : n < i + 1 + 2
    · have HE : Hid (szAt b i = ⟨0, 0, 3⟩) := Lib.hid (szAt_short (by omega) HX.out hw (by omega) (by omega))
      clear hl hw
      go_enter Tryz.func39, Tryz.ntmps39
      go_upto_region 1 with fail
      change Code.wp _ _ _ _ (w.alloc (.cells zGot 82))
      obtain ⟨A, hA⟩ : ∃ A, w.heap.size = A := ⟨_, rfl⟩
      have HAG : Hid (w.heap.size ≤ A) := Lib.hid (by omega)
      rw [hA] at K0 ⊢
      clear hA
      obtain ⟨w0, hw0⟩ : ∃ w0, w.alloc (.cells zGot 82) = w0 := ⟨_, rfl⟩
      rw [hw0] at K0 hc ⊢
      clear hw0
      have q1 : (n : Int) < (i : Int) + 1 + 2 := by omega
      have s1 : (rowAt w0 A 0 3).isSome = true := by rw [K0.out.row 0 _ 3 rfl rfl]; rfl
      have s2 : wrAt w0 A = true := wrAt_of_heap (K0.out.get 0 _ rfl)
      have s3 : plainCells #[.int .i64 0, .int .i64 0, .int .i64 3] = true := rfl
      go_wp2
      refine bodyPost_ret (v := .agg #[.int .i64 0, .int .i64 0, .int .i64 3]) (results_cell_at rfl _ _ A 0 _ rfl agg_got ?_) rfl ?_
      · rw [cells_got]; exact rowAt_put_same (K0.out.get 0 _ rfl) #[.int .i64 0, .int .i64 0, .int .i64 3] rfl 3 rfl
      · exact ⟨by rw [HE.out]; rfl, putAt_below K0.out.below HAG.out _ _⟩
    obtain ⟨c, hcc⟩ : ∃ c, (b.drop (i + 1)).take 2 = c := ⟨_, rfl⟩
    have hcl : c.length = 2 := by rw [← hcc, List.length_take, List.length_drop]; omega
    have hmid := rd_mid HH.out (by rw [List.length_map]; exact hl) (i + 1) (i + 1 + 2) (by omega) (by omega)
    rw [if_neg (by omega), show i + 1 + 2 - (i + 1) = 2 from by omega, Nat.mul_one, ← List.map_drop, ← List.map_take, hcc] at hmid
    have HMID := Lib.hid hmid
    have HCC := Lib.hid hcc
    have HCL := Lib.hid hcl
    have q1 : ¬ ((n : Int) < (i : Int) + 1 + 2) := by omega
    clear hmid hcc hcl
    obtain ⟨N, hN⟩ : ∃ N, numM c = N := ⟨_, rfl⟩
    have hN2 : N < 9223372036854775808 := by rw [← hN]; have := numM_lt c (by rw [HCL.out]; omega); omega
    have HN := Lib.hid hN
    obtain ⟨M, hM⟩ : ∃ M, szM N = M := ⟨_, rfl⟩
    have hML : M.length = 1 + szW N := by
      rw [← hM]; unfold szM
      by_cases q : N < 253
      · rw [if_pos q]; unfold szW; rw [if_pos q]; rfl
      · rw [if_neg q, List.length_cons, putM_length]; omega
    have HM := Lib.hid hM
    have HML := Lib.hid hML
    clear hN hM hML
    by_cases hsw : szW N = 2
    · have HE : Hid (szAt b i = ⟨N, i + 1 + 2, 0⟩) := Lib.hid (by rw [szAt_good (by omega) HX.out hw (by omega) (by omega) HCC.out (by unfold badN; rw [show decide ((2 : Nat) = 8) = false from rfl, Bool.false_and, Bool.false_or]; rw [HN.out, hsw]; rfl), HN.out])
      have hML2 : M.length = 1 + 2 := by rw [HML.out, hsw]
      clear hsw hw hl
      go_enter Tryz.func39, Tryz.ntmps39
      go_upto_region 1 with fail
      change Code.wp _ _ _ _ (w.alloc (.cells zGot 82))
      obtain ⟨A, hA⟩ : ∃ A, w.heap.size = A := ⟨_, rfl⟩
      have HAG : Hid (w.heap.size ≤ A) := Lib.hid (by omega)
      rw [hA] at K0 ⊢
      clear hA
      obtain ⟨w0, hw0⟩ : ∃ w0, w.alloc (.cells zGot 82) = w0 := ⟨_, rfl⟩
      rw [hw0] at K0 hc ⊢
      clear hw0
      go_wp2_with fail
      refine (num_any c _ 2 w0 (rd_below HMID.out K0.out.below) HCL.out (by omega) (by omega)).mono ?_
      rintro e w1 ⟨rfl, hb⟩
      have K1 := Lib.hid (K0.out.on hb)
      clear hb
      rw [HN.out]
      go_wp2_with fail
      refine (rsize63_any N hN2 w1).mono ?_
      rintro e w2 ⟨v, rfl, ho, hb⟩
      have K2 := Lib.hid (K1.out.on hb)
      rw [HM.out] at ho
      obtain ⟨_, va, vc, e1, -⟩ := ho
      clear hb
      have q2 : (M.length : Int) = 1 + 2 := by omega

      have s1 : (rowAt w2 A 0 3).isSome = true := by rw [K2.out.row 0 _ 3 rfl rfl]; rfl
      have s2 : wrAt w2 A = true := wrAt_of_heap (K2.out.get 0 _ rfl)
      have s3 : plainCells #[.int .i64 N, .int .i64 ((i : Int) + 1 + 2), .int .i64 0] = true := rfl
      go_wp2
      refine bodyPost_ret (v := .agg #[.int .i64 N, .int .i64 ((i : Int) + 1 + 2), .int .i64 0]) (results_cell_at rfl _ _ A 0 _ rfl agg_got ?_) rfl ?_
      · rw [cells_got]; exact rowAt_put_same (K2.out.get 0 _ rfl) #[.int .i64 N, .int .i64 ((i : Int) + 1 + 2), .int .i64 0] rfl 3 rfl
      · exact ⟨by rw [HE.out]; rfl, putAt_below K2.out.below HAG.out _ _⟩
    · have HE : Hid (szAt b i = ⟨0, 0, 1⟩) := Lib.hid (szAt_bad (by omega) HX.out hw (by omega) (by omega) HCC.out (by unfold badN; rw [show decide ((2 : Nat) = 8) = false from rfl, Bool.false_and, Bool.false_or]; rw [HN.out]; exact decide_eq_true hsw))
      have hML2 : ¬ M.length = 1 + 2 := by rw [HML.out]; omega
      clear hsw hw hl
      go_enter Tryz.func39, Tryz.ntmps39
      go_upto_region 1 with fail
      change Code.wp _ _ _ _ (w.alloc (.cells zGot 82))
      obtain ⟨A, hA⟩ : ∃ A, w.heap.size = A := ⟨_, rfl⟩
      have HAG : Hid (w.heap.size ≤ A) := Lib.hid (by omega)
      rw [hA] at K0 ⊢
      clear hA
      obtain ⟨w0, hw0⟩ : ∃ w0, w.alloc (.cells zGot 82) = w0 := ⟨_, rfl⟩
      rw [hw0] at K0 hc ⊢
      clear hw0
      go_wp2_with fail
      refine (num_any c _ 2 w0 (rd_below HMID.out K0.out.below) HCL.out (by omega) (by omega)).mono ?_
      rintro e w1 ⟨rfl, hb⟩
      have K1 := Lib.hid (K0.out.on hb)
      clear hb
      rw [HN.out]
      go_wp2_with fail
      refine (rsize63_any N hN2 w1).mono ?_
      rintro e w2 ⟨v, rfl, ho, hb⟩
      have K2 := Lib.hid (K1.out.on hb)
      rw [HM.out] at ho
      obtain ⟨_, va, vc, e1, -⟩ := ho
      clear hb
      have q2 : ((M.length : Int) == 1 + 2) = false := beq_false_of_ne (by omega)
      have s1 : (rowAt w2 A 0 3).isSome = true := by rw [K2.out.row 0 _ 3 rfl rfl]; rfl
      have s2 : wrAt w2 A = true := wrAt_of_heap (K2.out.get 0 _ rfl)
      have s3 : plainCells #[.int .i64 0, .int .i64 0, .int .i64 1] = true := rfl
      go_wp2
      refine bodyPost_ret (v := .agg #[.int .i64 0, .int .i64 0, .int .i64 1]) (results_cell_at rfl _ _ A 0 _ rfl agg_got ?_) rfl ?_
      · rw [cells_got]; exact rowAt_put_same (K2.out.get 0 _ rfl) #[.int .i64 0, .int .i64 0, .int .i64 1] rfl 3 rfl
      · exact ⟨by rw [HE.out]; rfl, putAt_below K2.out.below HAG.out _ _⟩
  rcases hrest with ⟨hx0, hw⟩ | hrest
  · have hv : bv x = 254 := by unfold bv; omega
    rw [hv] at hc
    clear hv hx0
    by_cases hsh : n < i + 1 + 4
    · have HE : Hid (szAt b i = ⟨0, 0, 3⟩) := Lib.hid (szAt_short (by omega) HX.out hw (by omega) (by omega))
      clear hl hw
      go_enter Tryz.func39, Tryz.ntmps39
      go_upto_region 1 with fail
      change Code.wp _ _ _ _ (w.alloc (.cells zGot 82))
      obtain ⟨A, hA⟩ : ∃ A, w.heap.size = A := ⟨_, rfl⟩
      have HAG : Hid (w.heap.size ≤ A) := Lib.hid (by omega)
      rw [hA] at K0 ⊢
      clear hA
      obtain ⟨w0, hw0⟩ : ∃ w0, w.alloc (.cells zGot 82) = w0 := ⟨_, rfl⟩
      rw [hw0] at K0 hc ⊢
      clear hw0
      have q1 : (n : Int) < (i : Int) + 1 + 4 := by omega
      have s1 : (rowAt w0 A 0 3).isSome = true := by rw [K0.out.row 0 _ 3 rfl rfl]; rfl
      have s2 : wrAt w0 A = true := wrAt_of_heap (K0.out.get 0 _ rfl)
      have s3 : plainCells #[.int .i64 0, .int .i64 0, .int .i64 3] = true := rfl
      go_wp2
      refine bodyPost_ret (v := .agg #[.int .i64 0, .int .i64 0, .int .i64 3]) (results_cell_at rfl _ _ A 0 _ rfl agg_got ?_) rfl ?_
      · rw [cells_got]; exact rowAt_put_same (K0.out.get 0 _ rfl) #[.int .i64 0, .int .i64 0, .int .i64 3] rfl 3 rfl
      · exact ⟨by rw [HE.out]; rfl, putAt_below K0.out.below HAG.out _ _⟩
    obtain ⟨c, hcc⟩ : ∃ c, (b.drop (i + 1)).take 4 = c := ⟨_, rfl⟩
    have hcl : c.length = 4 := by rw [← hcc, List.length_take, List.length_drop]; omega
    have hmid := rd_mid HH.out (by rw [List.length_map]; exact hl) (i + 1) (i + 1 + 4) (by omega) (by omega)
    rw [if_neg (by omega), show i + 1 + 4 - (i + 1) = 4 from by omega, Nat.mul_one, ← List.map_drop, ← List.map_take, hcc] at hmid
    have HMID := Lib.hid hmid
    have HCC := Lib.hid hcc
    have HCL := Lib.hid hcl
    have q1 : ¬ ((n : Int) < (i : Int) + 1 + 4) := by omega
    clear hmid hcc hcl
    obtain ⟨N, hN⟩ : ∃ N, numM c = N := ⟨_, rfl⟩
    have hN2 : N < 9223372036854775808 := by rw [← hN]; have := numM_lt c (by rw [HCL.out]; omega); omega
    have HN := Lib.hid hN
    obtain ⟨M, hM⟩ : ∃ M, szM N = M := ⟨_, rfl⟩
    have hML : M.length = 1 + szW N := by
      rw [← hM]; unfold szM
      by_cases q : N < 253
      · rw [if_pos q]; unfold szW; rw [if_pos q]; rfl
      · rw [if_neg q, List.length_cons, putM_length]; omega
    have HM := Lib.hid hM
    have HML := Lib.hid hML
    clear hN hM hML
    by_cases hsw : szW N = 4
    · have HE : Hid (szAt b i = ⟨N, i + 1 + 4, 0⟩) := Lib.hid (by rw [szAt_good (by omega) HX.out hw (by omega) (by omega) HCC.out (by unfold badN; rw [show decide ((4 : Nat) = 8) = false from rfl, Bool.false_and, Bool.false_or]; rw [HN.out, hsw]; rfl), HN.out])
      have hML2 : M.length = 1 + 4 := by rw [HML.out, hsw]
      clear hsw hw hl
      go_enter Tryz.func39, Tryz.ntmps39
      go_upto_region 1 with fail
      change Code.wp _ _ _ _ (w.alloc (.cells zGot 82))
      obtain ⟨A, hA⟩ : ∃ A, w.heap.size = A := ⟨_, rfl⟩
      have HAG : Hid (w.heap.size ≤ A) := Lib.hid (by omega)
      rw [hA] at K0 ⊢
      clear hA
      obtain ⟨w0, hw0⟩ : ∃ w0, w.alloc (.cells zGot 82) = w0 := ⟨_, rfl⟩
      rw [hw0] at K0 hc ⊢
      clear hw0
      go_wp2_with fail
      refine (num_any c _ 4 w0 (rd_below HMID.out K0.out.below) HCL.out (by omega) (by omega)).mono ?_
      rintro e w1 ⟨rfl, hb⟩
      have K1 := Lib.hid (K0.out.on hb)
      clear hb
      rw [HN.out]
      go_wp2_with fail
      refine (rsize63_any N hN2 w1).mono ?_
      rintro e w2 ⟨v, rfl, ho, hb⟩
      have K2 := Lib.hid (K1.out.on hb)
      rw [HM.out] at ho
      obtain ⟨_, va, vc, e1, -⟩ := ho
      clear hb
      have q2 : (M.length : Int) = 1 + 4 := by omega

      have s1 : (rowAt w2 A 0 3).isSome = true := by rw [K2.out.row 0 _ 3 rfl rfl]; rfl
      have s2 : wrAt w2 A = true := wrAt_of_heap (K2.out.get 0 _ rfl)
      have s3 : plainCells #[.int .i64 N, .int .i64 ((i : Int) + 1 + 4), .int .i64 0] = true := rfl
      go_wp2
      refine bodyPost_ret (v := .agg #[.int .i64 N, .int .i64 ((i : Int) + 1 + 4), .int .i64 0]) (results_cell_at rfl _ _ A 0 _ rfl agg_got ?_) rfl ?_
      · rw [cells_got]; exact rowAt_put_same (K2.out.get 0 _ rfl) #[.int .i64 N, .int .i64 ((i : Int) + 1 + 4), .int .i64 0] rfl 3 rfl
      · exact ⟨by rw [HE.out]; rfl, putAt_below K2.out.below HAG.out _ _⟩
    · have HE : Hid (szAt b i = ⟨0, 0, 1⟩) := Lib.hid (szAt_bad (by omega) HX.out hw (by omega) (by omega) HCC.out (by unfold badN; rw [show decide ((4 : Nat) = 8) = false from rfl, Bool.false_and, Bool.false_or]; rw [HN.out]; exact decide_eq_true hsw))
      have hML2 : ¬ M.length = 1 + 4 := by rw [HML.out]; omega
      clear hsw hw hl
      go_enter Tryz.func39, Tryz.ntmps39
      go_upto_region 1 with fail
      change Code.wp _ _ _ _ (w.alloc (.cells zGot 82))
      obtain ⟨A, hA⟩ : ∃ A, w.heap.size = A := ⟨_, rfl⟩
      have HAG : Hid (w.heap.size ≤ A) := Lib.hid (by omega)
      rw [hA] at K0 ⊢
      clear hA
      obtain ⟨w0, hw0⟩ : ∃ w0, w.alloc (.cells zGot 82) = w0 := ⟨_, rfl⟩
      rw [hw0] at K0 hc ⊢
      clear hw0
      go_wp2_with fail
      refine (num_any c _ 4 w0 (rd_below HMID.out K0.out.below) HCL.out (by omega) (by omega)).mono ?_
      rintro e w1 ⟨rfl, hb⟩
      have K1 := Lib.hid (K0.out.on hb)
      clear hb
      rw [HN.out]
      go_wp2_with fail
      refine (rsize63_any N hN2 w1).mono ?_
      rintro e w2 ⟨v, rfl, ho, hb⟩
      have K2 := Lib.hid (K1.out.on hb)
      rw [HM.out] at ho
      obtain ⟨_, va, vc, e1, -⟩ := ho
      clear hb
      have q2 : ((M.length : Int) == 1 + 4) = false := beq_false_of_ne (by omega)
      have s1 : (rowAt w2 A 0 3).isSome = true := by rw [K2.out.row 0 _ 3 rfl rfl]; rfl
      have s2 : wrAt w2 A = true := wrAt_of_heap (K2.out.get 0 _ rfl)
      have s3 : plainCells #[.int .i64 0, .int .i64 0, .int .i64 1] = true := rfl
      go_wp2
      refine bodyPost_ret (v := .agg #[.int .i64 0, .int .i64 0, .int .i64 1]) (results_cell_at rfl _ _ A 0 _ rfl agg_got ?_) rfl ?_
      · rw [cells_got]; exact rowAt_put_same (K2.out.get 0 _ rfl) #[.int .i64 0, .int .i64 0, .int .i64 1] rfl 3 rfl
      · exact ⟨by rw [HE.out]; rfl, putAt_below K2.out.below HAG.out _ _⟩
  obtain ⟨hx0, hw⟩ := hrest
  have hv : bv x = 255 := by unfold bv; omega
  rw [hv] at hc
  clear hv hx0
  by_cases hsh : n < i + 1 + 8
  · have HE : Hid (szAt b i = ⟨0, 0, 3⟩) := Lib.hid (szAt_short (by omega) HX.out hw (by omega) (by omega))
    clear hl hw
    go_enter Tryz.func39, Tryz.ntmps39
    go_upto_region 1 with fail
    change Code.wp _ _ _ _ (w.alloc (.cells zGot 82))
    obtain ⟨A, hA⟩ : ∃ A, w.heap.size = A := ⟨_, rfl⟩
    have HAG : Hid (w.heap.size ≤ A) := Lib.hid (by omega)
    rw [hA] at K0 ⊢
    clear hA
    obtain ⟨w0, hw0⟩ : ∃ w0, w.alloc (.cells zGot 82) = w0 := ⟨_, rfl⟩
    rw [hw0] at K0 hc ⊢
    clear hw0
    have q1 : (n : Int) < (i : Int) + 1 + 8 := by omega
    have s1 : (rowAt w0 A 0 3).isSome = true := by rw [K0.out.row 0 _ 3 rfl rfl]; rfl
    have s2 : wrAt w0 A = true := wrAt_of_heap (K0.out.get 0 _ rfl)
    have s3 : plainCells #[.int .i64 0, .int .i64 0, .int .i64 3] = true := rfl
    go_wp2
    refine bodyPost_ret (v := .agg #[.int .i64 0, .int .i64 0, .int .i64 3]) (results_cell_at rfl _ _ A 0 _ rfl agg_got ?_) rfl ?_
    · rw [cells_got]; exact rowAt_put_same (K0.out.get 0 _ rfl) #[.int .i64 0, .int .i64 0, .int .i64 3] rfl 3 rfl
    · exact ⟨by rw [HE.out]; rfl, putAt_below K0.out.below HAG.out _ _⟩
  obtain ⟨c, hcc⟩ : ∃ c, (b.drop (i + 1)).take 8 = c := ⟨_, rfl⟩
  have hcl : c.length = 8 := by rw [← hcc, List.length_take, List.length_drop]; omega
  have hmid := rd_mid HH.out (by rw [List.length_map]; exact hl) (i + 1) (i + 1 + 8) (by omega) (by omega)
  rw [if_neg (by omega), show i + 1 + 8 - (i + 1) = 8 from by omega, Nat.mul_one, ← List.map_drop, ← List.map_take, hcc] at hmid
  have HMID := Lib.hid hmid
  have HCC := Lib.hid hcc
  have HCL := Lib.hid hcl
  have q1 : ¬ ((n : Int) < (i : Int) + 1 + 8) := by omega
  clear hmid hcc hcl
  by_cases h128 : 128 ≤ (c.getD 0 0).toNat
  · have HE : Hid (szAt b i = ⟨0, 0, 1⟩) := Lib.hid (szAt_bad (by omega) HX.out hw (by omega) (by omega) HCC.out (by unfold badN; rw [decide_eq_true h128]; rfl))
    have H128 := Lib.hid h128
    clear h128 hw hl
    go_enter Tryz.func39, Tryz.ntmps39
    go_upto_region 1 with fail
    change Code.wp _ _ _ _ (w.alloc (.cells zGot 82))
    obtain ⟨A, hA⟩ : ∃ A, w.heap.size = A := ⟨_, rfl⟩
    have HAG : Hid (w.heap.size ≤ A) := Lib.hid (by omega)
    rw [hA] at K0 ⊢
    clear hA
    obtain ⟨w0, hw0⟩ : ∃ w0, w.alloc (.cells zGot 82) = w0 := ⟨_, rfl⟩
    rw [hw0] at K0 hc ⊢
    clear hw0
    go_wp2_with fail
    refine (num8_bad c _ 8 w0 (rd_below HMID.out K0.out.below) HCL.out rfl H128.out).mono ?_
    rintro e w1 ⟨rfl, hb⟩
    have K1 := Lib.hid (K0.out.on hb)
    clear hb
    have s1 : (rowAt w1 A 0 3).isSome = true := by rw [K1.out.row 0 _ 3 rfl rfl]; rfl
    have s2 : wrAt w1 A = true := wrAt_of_heap (K1.out.get 0 _ rfl)
    have s3 : plainCells #[.int .i64 0, .int .i64 0, .int .i64 1] = true := rfl
    go_wp2
    refine bodyPost_ret (v := .agg #[.int .i64 0, .int .i64 0, .int .i64 1]) (results_cell_at rfl _ _ A 0 _ rfl agg_got ?_) rfl ?_
    · rw [cells_got]; exact rowAt_put_same (K1.out.get 0 _ rfl) #[.int .i64 0, .int .i64 0, .int .i64 1] rfl 3 rfl
    · exact ⟨by rw [HE.out]; rfl, putAt_below K1.out.below HAG.out _ _⟩
  obtain ⟨N, hN⟩ : ∃ N, numM c = N := ⟨_, rfl⟩
  have hN2 : N < 9223372036854775808 := by rw [← hN]; exact numM_8 HCL.out h128
  have H128 := Lib.hid h128
  clear h128
  have HN := Lib.hid hN
  obtain ⟨M, hM⟩ : ∃ M, szM N = M := ⟨_, rfl⟩
  have hML : M.length = 1 + szW N := by
    rw [← hM]; unfold szM
    by_cases q : N < 253
    · rw [if_pos q]; unfold szW; rw [if_pos q]; rfl
    · rw [if_neg q, List.length_cons, putM_length]; omega
  have HM := Lib.hid hM
  have HML := Lib.hid hML
  clear hN hM hML
  by_cases hsw : szW N = 8
  · have HE : Hid (szAt b i = ⟨N, i + 1 + 8, 0⟩) := Lib.hid (by rw [szAt_good (by omega) HX.out hw (by omega) (by omega) HCC.out (by unfold badN; rw [decide_eq_false H128.out, Bool.and_false, Bool.false_or]; rw [HN.out, hsw]; rfl), HN.out])
    have hML2 : M.length = 1 + 8 := by rw [HML.out, hsw]
    clear hsw hw hl
    go_enter Tryz.func39, Tryz.ntmps39
    go_upto_region 1 with fail
    change Code.wp _ _ _ _ (w.alloc (.cells zGot 82))
    obtain ⟨A, hA⟩ : ∃ A, w.heap.size = A := ⟨_, rfl⟩
    have HAG : Hid (w.heap.size ≤ A) := Lib.hid (by omega)
    rw [hA] at K0 ⊢
    clear hA
    obtain ⟨w0, hw0⟩ : ∃ w0, w.alloc (.cells zGot 82) = w0 := ⟨_, rfl⟩
    rw [hw0] at K0 hc ⊢
    clear hw0
    go_wp2_with fail
    refine (num8_any c _ 8 w0 (rd_below HMID.out K0.out.below) HCL.out rfl H128.out).mono ?_
    rintro e w1 ⟨rfl, hb⟩
    have K1 := Lib.hid (K0.out.on hb)
    clear hb
    rw [HN.out]
    go_wp2_with fail
    refine (rsize63_any N hN2 w1).mono ?_
    rintro e w2 ⟨v, rfl, ho, hb⟩
    have K2 := Lib.hid (K1.out.on hb)
    rw [HM.out] at ho
    obtain ⟨_, va, vc, e1, -⟩ := ho
    clear hb
    have q2 : (M.length : Int) = 1 + 8 := by omega

    have s1 : (rowAt w2 A 0 3).isSome = true := by rw [K2.out.row 0 _ 3 rfl rfl]; rfl
    have s2 : wrAt w2 A = true := wrAt_of_heap (K2.out.get 0 _ rfl)
    have s3 : plainCells #[.int .i64 N, .int .i64 ((i : Int) + 1 + 8), .int .i64 0] = true := rfl
    go_wp2
    refine bodyPost_ret (v := .agg #[.int .i64 N, .int .i64 ((i : Int) + 1 + 8), .int .i64 0]) (results_cell_at rfl _ _ A 0 _ rfl agg_got ?_) rfl ?_
    · rw [cells_got]; exact rowAt_put_same (K2.out.get 0 _ rfl) #[.int .i64 N, .int .i64 ((i : Int) + 1 + 8), .int .i64 0] rfl 3 rfl
    · exact ⟨by rw [HE.out]; rfl, putAt_below K2.out.below HAG.out _ _⟩
  · have HE : Hid (szAt b i = ⟨0, 0, 1⟩) := Lib.hid (szAt_bad (by omega) HX.out hw (by omega) (by omega) HCC.out (by unfold badN; rw [decide_eq_false H128.out, Bool.and_false, Bool.false_or]; rw [HN.out]; exact decide_eq_true hsw))
    have hML2 : ¬ M.length = 1 + 8 := by rw [HML.out]; omega
    clear hsw hw hl
    go_enter Tryz.func39, Tryz.ntmps39
    go_upto_region 1 with fail
    change Code.wp _ _ _ _ (w.alloc (.cells zGot 82))
    obtain ⟨A, hA⟩ : ∃ A, w.heap.size = A := ⟨_, rfl⟩
    have HAG : Hid (w.heap.size ≤ A) := Lib.hid (by omega)
    rw [hA] at K0 ⊢
    clear hA
    obtain ⟨w0, hw0⟩ : ∃ w0, w.alloc (.cells zGot 82) = w0 := ⟨_, rfl⟩
    rw [hw0] at K0 hc ⊢
    clear hw0
    go_wp2_with fail
    refine (num8_any c _ 8 w0 (rd_below HMID.out K0.out.below) HCL.out rfl H128.out).mono ?_
    rintro e w1 ⟨rfl, hb⟩
    have K1 := Lib.hid (K0.out.on hb)
    clear hb
    rw [HN.out]
    go_wp2_with fail
    refine (rsize63_any N hN2 w1).mono ?_
    rintro e w2 ⟨v, rfl, ho, hb⟩
    have K2 := Lib.hid (K1.out.on hb)
    rw [HM.out] at ho
    obtain ⟨_, va, vc, e1, -⟩ := ho
    clear hb
    have q2 : ((M.length : Int) == 1 + 8) = false := beq_false_of_ne (by omega)
    have s1 : (rowAt w2 A 0 3).isSome = true := by rw [K2.out.row 0 _ 3 rfl rfl]; rfl
    have s2 : wrAt w2 A = true := wrAt_of_heap (K2.out.get 0 _ rfl)
    have s3 : plainCells #[.int .i64 0, .int .i64 0, .int .i64 1] = true := rfl
    go_wp2
    refine bodyPost_ret (v := .agg #[.int .i64 0, .int .i64 0, .int .i64 1]) (results_cell_at rfl _ _ A 0 _ rfl agg_got ?_) rfl ?_
    · rw [cells_got]; exact rowAt_put_same (K2.out.get 0 _ rfl) #[.int .i64 0, .int .i64 0, .int .i64 1] rfl 3 rfl
    · exact ⟨by rw [HE.out]; rfl, putAt_below K2.out.below HAG.out _ _⟩
end Go.Proofs.YtljcdkfafknnpaaGreatDoor
