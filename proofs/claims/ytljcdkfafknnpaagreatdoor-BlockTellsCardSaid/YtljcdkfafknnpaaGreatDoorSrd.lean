/- Merged: Srd. Conditions: none beyond each theorem's own. -/
import Derived.Test.YtljcdkfafknnpaaGreatDoorSzat
import Derived.Laws.Bits64b
namespace Go.Proofs.YtljcdkfafknnpaaGreatDoor
set_option linter.unusedVariables false
set_option linter.unusedSimpArgs false
open Go.RowKit
theorem results_tri {fn : Func} {t u v : Tmp} (h : fn.results = #[.tmp t, .tmp u, .tmp v]) (tmps : Array Value) (P : Program) (w : World) :
    (results fn tmps).run P w = .ok (.tuple #[tmps.getD t undef, tmps.getD u undef, tmps.getD v undef]) w := by
  simp [results, h]
theorem or_byte (V : Nat) (x : UInt8) (hV : V < 72057594037927936) : bits .or .u64 ((V : Int) * 256) (bv x) = ((V * 256 + x.toNat : Nat) : Int) := by
  have hx := x.toNat_lt
  have e1 : (V : Int) * 256 = ((V * 256 : Nat) : Int) := by omega
  have e2 : bv x = ((x.toNat : Nat) : Int) := rfl
  rw [e1, e2, bits_or_u64_nat _ _ (by omega) (by omega)]
  have := Nat.shiftLeft_add_eq_or_of_lt (i := 8) (b := x.toNat) (by omega) V
  rw [Nat.shiftLeft_eq] at this
  rw [← this]
theorem take_step (c : List UInt8) (k : Nat) (hk : k < c.length) : numM (c.take (k + 1)) = numM (c.take k) * 256 + (c.getD k 0).toNat := by
  have hs : c.take (k + 1) = c.take k ++ [c.getD k 0] := by
    rw [List.take_add_one, List.getD_eq_getElem?_getD, List.getElem?_eq_getElem (by omega)]; rfl
  rw [hs, numM_snoc]
set_option maxHeartbeats 8000000 in
set_option maxRecDepth 100000 in
theorem sread_any (b : List UInt8) (n : Nat) (ao : Option Addr) (cap : Nat) (i : Nat) (w : World) (h : rd w (.slice ao n cap) n (b.map vB)) (hl : b.length = n) (hi : i ≤ n) (hn : n ≤ 140737488351232) :
    Calls Tryz.prog 40 #[.slice ao n cap, .int .i64 i] w fun e w' => e = .returned (.tuple #[.int .i64 (szAt b i).n, .int .i64 (szAt b i).next, errV (szAt b i).e]) ∧ Below w.heap.size w w' := by
  have h' := h
  obtain ⟨ao', cap', e0, k1, k2, k3⟩ := h'
  cases e0
  clear k2
  have HH := Lib.hid h
  have HL := Lib.hid hl
  clear h
  by_cases hin : n ≤ i
  · have HE : Hid (szAt b i = ⟨0, 0, 3⟩) := Lib.hid (szAt_out (by omega))
    clear k3 hl
    have q1 : ¬ ((i : Int) < 0) := by omega
    have q2 : (n : Int) ≤ (i : Int) := by omega
    clear hi hin
    rw [HE.out]
    go_enter Tryz.func40, Tryz.ntmps40
    go_wp2
    ((try simp only [Exit.inBlock, Exit.then]); refine bodyPost_ret (results_tri rfl _ _ _) rfl ?_)
    exact ⟨rfl, Below.refl _ _⟩
  rcases k3 with k3 | ⟨g, off, rfl, k3⟩
  · have := congrArg List.length k3; rw [List.length_map, List.length_nil] at this; omega
  obtain ⟨x, hx⟩ : ∃ x, b.getD i 0 = x := ⟨_, rfl⟩
  have hc : w.cell? ⟨g, off + i, none⟩ = some (.int .u8 (bv x)) := by
    rw [← hx]; apply k3; simp [List.getD_eq_getElem?_getD, List.getElem?_eq_getElem (show i < b.length by omega), vB]
  have HX := Lib.hid hx
  have HCW : Hid (∀ j, j < n → w.cell? ⟨g, off + j, none⟩ = some (.int .u8 (bv (b.getD j 0)))) := Lib.hid (fun j hj => by
    apply k3; simp [List.getD_eq_getElem?_getD, List.getElem?_eq_getElem (show j < b.length by omega), vB])
  clear k3 hx
  rcases wid_cases x with ⟨hx0, hw⟩ | hrest
  · have HE : Hid (szAt b i = ⟨x.toNat, i + 1, 0⟩) := Lib.hid (szAt_low (by omega) HX.out hx0)
    have HV : Hid (bv x = (x.toNat : Int)) := Lib.hid rfl
    have q3 : bv x < 253 := by rw [HV.out]; omega
    have q4 := bv_nonneg x
    clear hl hw hx0
    obtain ⟨X, hX⟩ : ∃ X, bv x = X := ⟨_, rfl⟩
    have HVX : Hid (X = (x.toNat : Int)) := Lib.hid (by rw [← hX]; exact HV.out)
    rw [hX] at hc q3 q4
    clear hX HV
    rw [HE.out]
    go_enter Tryz.func40, Tryz.ntmps40
    go_wp2
    ((try simp only [Exit.inBlock, Exit.then]); refine bodyPost_ret (results_tri rfl _ _ _) rfl ?_)
    exact ⟨by rw [HVX.out]; rfl, Below.refl _ _⟩
  rcases hrest with ⟨hx0, hw⟩ | hrest
  · have hv : bv x = 253 := by unfold bv; omega
    rw [hv] at hc
    clear hv hx0
    by_cases hsh : n < i + 1 + 2
    · have HE : Hid (szAt b i = ⟨0, 0, 3⟩) := Lib.hid (szAt_short (by omega) HX.out hw (by omega) (by omega))
      clear hl hw
      rw [HE.out]
      have q1 : (n : Int) < (i : Int) + 1 + 2 := by omega
      by_cases hcap : cap = i + 1
      all_goals
        go_enter Tryz.func40, Tryz.ntmps40
        go_wp2
        ((try simp only [Exit.inBlock, Exit.then]); refine bodyPost_ret (results_tri rfl _ _ _) rfl ?_)
        exact ⟨rfl, Below.refl _ _⟩
    obtain ⟨c, hcc⟩ : ∃ c, (b.drop (i + 1)).take 2 = c := ⟨_, rfl⟩
    have hcl : c.length = 2 := by rw [← hcc, List.length_take, List.length_drop]; omega
    have HCC := Lib.hid hcc
    have HCL := Lib.hid hcl
    have HC : Hid (∀ j, j < 2 → w.cell? ⟨g, off + (i + 1) + j, none⟩ = some (.int .u8 (bv (c.getD j 0)))) := Lib.hid (fun j hj => by
      have := HCW.out (i + 1 + j) (by omega)
      rw [← Nat.add_assoc] at this
      rw [this, ← hcc]
      simp only [List.getD_eq_getElem?_getD, List.getElem?_take_of_lt hj, List.getElem?_drop])
    have q1 : ¬ ((n : Int) < (i : Int) + 1 + 2) := by omega
    have hcap : ¬ cap = i + 1 := by omega
    have hcap2 : i + 1 + 2 ≤ cap := by omega
    clear hcc hcl
    obtain ⟨N, hN⟩ : ∃ N, numM c = N := ⟨_, rfl⟩
    have hN2 : N < 18446744073709551616 := by rw [← hN]; have := numM_pow c; rw [HCL.out] at this; exact Nat.lt_of_lt_of_le this (by decide)
    have HN := Lib.hid hN
    clear hN
    have hN3 : N < 9223372036854775808 := by rw [← HN.out]; have := numM_lt c (by rw [HCL.out]; omega); omega
    by_cases hsw : szW N = 2
    · have HE : Hid (szAt b i = ⟨N, i + 1 + 2, 0⟩) := Lib.hid (by rw [szAt_good (by omega) HX.out hw (by omega) (by omega) HCC.out (by unfold badN; rw [show decide ((2 : Nat) = 8) = false from rfl, Bool.false_and, Bool.false_or]; rw [HN.out, hsw]; rfl), HN.out])
      rw [HE.out]
      clear hw hl
      go_enter Tryz.func40, Tryz.ntmps40
      go_upto_region 14 with fail
      go_loopw [10, 47] (fun s ix wr => ∃ k : Nat, k ≤ 2 ∧ ix = .int .i64 k ∧ s = .int .u64 (numM (c.take k)) ∧ Hid (Below w.heap.size w wr)) (fun _ ix _ => 2 - (intOf ix).toNat)
      case atStart => exact ⟨0, by omega, rfl, by simp [numM], Lib.hid (Below.refl _ _)⟩
      case round =>
        obtain ⟨k, hk, rfl, rfl, hB⟩ := hrel
        by_cases hlt : k < 2
        · have hcx : wr.cell? ⟨g, off + (i + 1) + k, none⟩ = some (.int .u8 (bv (c.getD k 0))) := (hB.out.cell (World.block_lt_of_cell? w _ (HC.out k hlt))).trans (HC.out k hlt)
          have hst := take_step c k (by rw [HCL.out]; exact hlt)
          have hlt2 := numM_lt (c.take k) (by rw [List.length_take]; omega)
          obtain ⟨V, hV⟩ : ∃ V, numM (c.take k) = V := ⟨_, rfl⟩
          obtain ⟨y, hy⟩ : ∃ y, c.getD k 0 = y := ⟨_, rfl⟩
          rw [hV] at hlt2 hst ⊢
          rw [hy] at hcx hst
          have hb1 := bv_nonneg y; have hb2 := bv_lt y
          have HOR := Lib.hid (or_byte V y hlt2)
          have HS := Lib.hid hst
          clear hst hV hy

          go_wp2
          go_roundw
          case rel => exact ⟨k + 1, by omega, by go_num, by rw [HS.out]; first | exact congrArg _ HOR.out | (simp only [IntKind.wrap_u64]; rw [Int.emod_eq_of_lt (by omega) (by omega), HOR.out]), hB⟩
          case measure => simp [intOf]; omega
        · obtain rfl : k = 2 := by omega
          rw [List.take_of_length_le (by rw [HCL.out]; omega), HN.out]
          have q2 : ¬ ((N : Int) / 9223372036854775808 > 0) := by omega
          have q5 : (szW N : Int) = 2 := by omega
          go_wp2_with fail
          refine (wide63_any N hN3 wr).mono ?_
          rintro e w1 ⟨rfl, hw1⟩
          rw [hw1]
          clear hw1 w1
          go_wp2
          ((try simp only [Exit.inBlock, Exit.then]); refine bodyPost_ret (results_tri rfl _ _ _) rfl ?_)
          exact ⟨rfl, hB.out⟩
    · have HE : Hid (szAt b i = ⟨0, 0, 1⟩) := Lib.hid (szAt_bad (by omega) HX.out hw (by omega) (by omega) HCC.out (by unfold badN; rw [show decide ((2 : Nat) = 8) = false from rfl, Bool.false_and, Bool.false_or]; rw [HN.out]; exact decide_eq_true hsw))
      rw [HE.out]
      clear hw hl
      go_enter Tryz.func40, Tryz.ntmps40
      go_upto_region 14 with fail
      go_loopw [10, 47] (fun s ix wr => ∃ k : Nat, k ≤ 2 ∧ ix = .int .i64 k ∧ s = .int .u64 (numM (c.take k)) ∧ Hid (Below w.heap.size w wr)) (fun _ ix _ => 2 - (intOf ix).toNat)
      case atStart => exact ⟨0, by omega, rfl, by simp [numM], Lib.hid (Below.refl _ _)⟩
      case round =>
        obtain ⟨k, hk, rfl, rfl, hB⟩ := hrel
        by_cases hlt : k < 2
        · have hcx : wr.cell? ⟨g, off + (i + 1) + k, none⟩ = some (.int .u8 (bv (c.getD k 0))) := (hB.out.cell (World.block_lt_of_cell? w _ (HC.out k hlt))).trans (HC.out k hlt)
          have hst := take_step c k (by rw [HCL.out]; exact hlt)
          have hlt2 := numM_lt (c.take k) (by rw [List.length_take]; omega)
          obtain ⟨V, hV⟩ : ∃ V, numM (c.take k) = V := ⟨_, rfl⟩
          obtain ⟨y, hy⟩ : ∃ y, c.getD k 0 = y := ⟨_, rfl⟩
          rw [hV] at hlt2 hst ⊢
          rw [hy] at hcx hst
          have hb1 := bv_nonneg y; have hb2 := bv_lt y
          have HOR := Lib.hid (or_byte V y hlt2)
          have HS := Lib.hid hst
          clear hst hV hy

          go_wp2
          go_roundw
          case rel => exact ⟨k + 1, by omega, by go_num, by rw [HS.out]; first | exact congrArg _ HOR.out | (simp only [IntKind.wrap_u64]; rw [Int.emod_eq_of_lt (by omega) (by omega), HOR.out]), hB⟩
          case measure => simp [intOf]; omega
        · obtain rfl : k = 2 := by omega
          rw [List.take_of_length_le (by rw [HCL.out]; omega), HN.out]
          have q2 : ¬ ((N : Int) / 9223372036854775808 > 0) := by omega
          have q5 : ((szW N : Int) == 2) = false := beq_false_of_ne (by omega)
          go_wp2_with fail
          refine (wide63_any N hN3 wr).mono ?_
          rintro e w1 ⟨rfl, hw1⟩
          rw [hw1]
          clear hw1 w1
          go_wp2
          ((try simp only [Exit.inBlock, Exit.then]); refine bodyPost_ret (results_tri rfl _ _ _) rfl ?_)
          exact ⟨rfl, hB.out⟩
  rcases hrest with ⟨hx0, hw⟩ | hrest
  · have hv : bv x = 254 := by unfold bv; omega
    rw [hv] at hc
    clear hv hx0
    by_cases hsh : n < i + 1 + 4
    · have HE : Hid (szAt b i = ⟨0, 0, 3⟩) := Lib.hid (szAt_short (by omega) HX.out hw (by omega) (by omega))
      clear hl hw
      rw [HE.out]
      have q1 : (n : Int) < (i : Int) + 1 + 4 := by omega
      by_cases hcap : cap = i + 1
      all_goals
        go_enter Tryz.func40, Tryz.ntmps40
        go_wp2
        ((try simp only [Exit.inBlock, Exit.then]); refine bodyPost_ret (results_tri rfl _ _ _) rfl ?_)
        exact ⟨rfl, Below.refl _ _⟩
    obtain ⟨c, hcc⟩ : ∃ c, (b.drop (i + 1)).take 4 = c := ⟨_, rfl⟩
    have hcl : c.length = 4 := by rw [← hcc, List.length_take, List.length_drop]; omega
    have HCC := Lib.hid hcc
    have HCL := Lib.hid hcl
    have HC : Hid (∀ j, j < 4 → w.cell? ⟨g, off + (i + 1) + j, none⟩ = some (.int .u8 (bv (c.getD j 0)))) := Lib.hid (fun j hj => by
      have := HCW.out (i + 1 + j) (by omega)
      rw [← Nat.add_assoc] at this
      rw [this, ← hcc]
      simp only [List.getD_eq_getElem?_getD, List.getElem?_take_of_lt hj, List.getElem?_drop])
    have q1 : ¬ ((n : Int) < (i : Int) + 1 + 4) := by omega
    have hcap : ¬ cap = i + 1 := by omega
    have hcap2 : i + 1 + 4 ≤ cap := by omega
    clear hcc hcl
    obtain ⟨N, hN⟩ : ∃ N, numM c = N := ⟨_, rfl⟩
    have hN2 : N < 18446744073709551616 := by rw [← hN]; have := numM_pow c; rw [HCL.out] at this; exact Nat.lt_of_lt_of_le this (by decide)
    have HN := Lib.hid hN
    clear hN
    have hN3 : N < 9223372036854775808 := by rw [← HN.out]; have := numM_lt c (by rw [HCL.out]; omega); omega
    by_cases hsw : szW N = 4
    · have HE : Hid (szAt b i = ⟨N, i + 1 + 4, 0⟩) := Lib.hid (by rw [szAt_good (by omega) HX.out hw (by omega) (by omega) HCC.out (by unfold badN; rw [show decide ((4 : Nat) = 8) = false from rfl, Bool.false_and, Bool.false_or]; rw [HN.out, hsw]; rfl), HN.out])
      rw [HE.out]
      clear hw hl
      go_enter Tryz.func40, Tryz.ntmps40
      go_upto_region 14 with fail
      go_loopw [10, 47] (fun s ix wr => ∃ k : Nat, k ≤ 4 ∧ ix = .int .i64 k ∧ s = .int .u64 (numM (c.take k)) ∧ Hid (Below w.heap.size w wr)) (fun _ ix _ => 4 - (intOf ix).toNat)
      case atStart => exact ⟨0, by omega, rfl, by simp [numM], Lib.hid (Below.refl _ _)⟩
      case round =>
        obtain ⟨k, hk, rfl, rfl, hB⟩ := hrel
        by_cases hlt : k < 4
        · have hcx : wr.cell? ⟨g, off + (i + 1) + k, none⟩ = some (.int .u8 (bv (c.getD k 0))) := (hB.out.cell (World.block_lt_of_cell? w _ (HC.out k hlt))).trans (HC.out k hlt)
          have hst := take_step c k (by rw [HCL.out]; exact hlt)
          have hlt2 := numM_lt (c.take k) (by rw [List.length_take]; omega)
          obtain ⟨V, hV⟩ : ∃ V, numM (c.take k) = V := ⟨_, rfl⟩
          obtain ⟨y, hy⟩ : ∃ y, c.getD k 0 = y := ⟨_, rfl⟩
          rw [hV] at hlt2 hst ⊢
          rw [hy] at hcx hst
          have hb1 := bv_nonneg y; have hb2 := bv_lt y
          have HOR := Lib.hid (or_byte V y hlt2)
          have HS := Lib.hid hst
          clear hst hV hy

          go_wp2
          go_roundw
          case rel => exact ⟨k + 1, by omega, by go_num, by rw [HS.out]; first | exact congrArg _ HOR.out | (simp only [IntKind.wrap_u64]; rw [Int.emod_eq_of_lt (by omega) (by omega), HOR.out]), hB⟩
          case measure => simp [intOf]; omega
        · obtain rfl : k = 4 := by omega
          rw [List.take_of_length_le (by rw [HCL.out]; omega), HN.out]
          have q2 : ¬ ((N : Int) / 9223372036854775808 > 0) := by omega
          have q5 : (szW N : Int) = 4 := by omega
          go_wp2_with fail
          refine (wide63_any N hN3 wr).mono ?_
          rintro e w1 ⟨rfl, hw1⟩
          rw [hw1]
          clear hw1 w1
          go_wp2
          ((try simp only [Exit.inBlock, Exit.then]); refine bodyPost_ret (results_tri rfl _ _ _) rfl ?_)
          exact ⟨rfl, hB.out⟩
    · have HE : Hid (szAt b i = ⟨0, 0, 1⟩) := Lib.hid (szAt_bad (by omega) HX.out hw (by omega) (by omega) HCC.out (by unfold badN; rw [show decide ((4 : Nat) = 8) = false from rfl, Bool.false_and, Bool.false_or]; rw [HN.out]; exact decide_eq_true hsw))
      rw [HE.out]
      clear hw hl
      go_enter Tryz.func40, Tryz.ntmps40
      go_upto_region 14 with fail
      go_loopw [10, 47] (fun s ix wr => ∃ k : Nat, k ≤ 4 ∧ ix = .int .i64 k ∧ s = .int .u64 (numM (c.take k)) ∧ Hid (Below w.heap.size w wr)) (fun _ ix _ => 4 - (intOf ix).toNat)
      case atStart => exact ⟨0, by omega, rfl, by simp [numM], Lib.hid (Below.refl _ _)⟩
      case round =>
        obtain ⟨k, hk, rfl, rfl, hB⟩ := hrel
        by_cases hlt : k < 4
        · have hcx : wr.cell? ⟨g, off + (i + 1) + k, none⟩ = some (.int .u8 (bv (c.getD k 0))) := (hB.out.cell (World.block_lt_of_cell? w _ (HC.out k hlt))).trans (HC.out k hlt)
          have hst := take_step c k (by rw [HCL.out]; exact hlt)
          have hlt2 := numM_lt (c.take k) (by rw [List.length_take]; omega)
          obtain ⟨V, hV⟩ : ∃ V, numM (c.take k) = V := ⟨_, rfl⟩
          obtain ⟨y, hy⟩ : ∃ y, c.getD k 0 = y := ⟨_, rfl⟩
          rw [hV] at hlt2 hst ⊢
          rw [hy] at hcx hst
          have hb1 := bv_nonneg y; have hb2 := bv_lt y
          have HOR := Lib.hid (or_byte V y hlt2)
          have HS := Lib.hid hst
          clear hst hV hy

          go_wp2
          go_roundw
          case rel => exact ⟨k + 1, by omega, by go_num, by rw [HS.out]; first | exact congrArg _ HOR.out | (simp only [IntKind.wrap_u64]; rw [Int.emod_eq_of_lt (by omega) (by omega), HOR.out]), hB⟩
          case measure => simp [intOf]; omega
        · obtain rfl : k = 4 := by omega
          rw [List.take_of_length_le (by rw [HCL.out]; omega), HN.out]
          have q2 : ¬ ((N : Int) / 9223372036854775808 > 0) := by omega
          have q5 : ((szW N : Int) == 4) = false := beq_false_of_ne (by omega)
          go_wp2_with fail
          refine (wide63_any N hN3 wr).mono ?_
          rintro e w1 ⟨rfl, hw1⟩
          rw [hw1]
          clear hw1 w1
          go_wp2
          ((try simp only [Exit.inBlock, Exit.then]); refine bodyPost_ret (results_tri rfl _ _ _) rfl ?_)
          exact ⟨rfl, hB.out⟩
  obtain ⟨hx0, hw⟩ := hrest
  have hv : bv x = 255 := by unfold bv; omega
  rw [hv] at hc
  clear hv hx0
  by_cases hsh : n < i + 1 + 8
  · have HE : Hid (szAt b i = ⟨0, 0, 3⟩) := Lib.hid (szAt_short (by omega) HX.out hw (by omega) (by omega))
    clear hl hw
    rw [HE.out]
    have q1 : (n : Int) < (i : Int) + 1 + 8 := by omega
    by_cases hcap : cap = i + 1
    all_goals
      go_enter Tryz.func40, Tryz.ntmps40
      go_wp2
      ((try simp only [Exit.inBlock, Exit.then]); refine bodyPost_ret (results_tri rfl _ _ _) rfl ?_)
      exact ⟨rfl, Below.refl _ _⟩
  obtain ⟨c, hcc⟩ : ∃ c, (b.drop (i + 1)).take 8 = c := ⟨_, rfl⟩
  have hcl : c.length = 8 := by rw [← hcc, List.length_take, List.length_drop]; omega
  have HCC := Lib.hid hcc
  have HCL := Lib.hid hcl
  have HC : Hid (∀ j, j < 8 → w.cell? ⟨g, off + (i + 1) + j, none⟩ = some (.int .u8 (bv (c.getD j 0)))) := Lib.hid (fun j hj => by
    have := HCW.out (i + 1 + j) (by omega)
    rw [← Nat.add_assoc] at this
    rw [this, ← hcc]
    simp only [List.getD_eq_getElem?_getD, List.getElem?_take_of_lt hj, List.getElem?_drop])
  have q1 : ¬ ((n : Int) < (i : Int) + 1 + 8) := by omega
  have hcap : ¬ cap = i + 1 := by omega
  have hcap2 : i + 1 + 8 ≤ cap := by omega
  clear hcc hcl
  obtain ⟨N, hN⟩ : ∃ N, numM c = N := ⟨_, rfl⟩
  have hN2 : N < 18446744073709551616 := by rw [← hN]; have := numM_pow c; rw [HCL.out] at this; exact Nat.lt_of_lt_of_le this (by decide)
  have HN := Lib.hid hN
  clear hN
  by_cases h128 : 128 ≤ (c.getD 0 0).toNat
  · have HE : Hid (szAt b i = ⟨0, 0, 1⟩) := Lib.hid (szAt_bad (by omega) HX.out hw (by omega) (by omega) HCC.out (by unfold badN; rw [decide_eq_true h128]; rfl))
    have hN3 := numM_8' HCL.out h128
    rw [HN.out] at hN3
    rw [HE.out]
    clear h128 hw hl
    go_enter Tryz.func40, Tryz.ntmps40
    go_upto_region 14 with fail
    go_loopw [10, 47] (fun s ix wr => ∃ k : Nat, k ≤ 8 ∧ ix = .int .i64 k ∧ s = .int .u64 (numM (c.take k)) ∧ Hid (Below w.heap.size w wr)) (fun _ ix _ => 8 - (intOf ix).toNat)
    case atStart => exact ⟨0, by omega, rfl, by simp [numM], Lib.hid (Below.refl _ _)⟩
    case round =>
      obtain ⟨k, hk, rfl, rfl, hB⟩ := hrel
      by_cases hlt : k < 8
      · have hcx : wr.cell? ⟨g, off + (i + 1) + k, none⟩ = some (.int .u8 (bv (c.getD k 0))) := (hB.out.cell (World.block_lt_of_cell? w _ (HC.out k hlt))).trans (HC.out k hlt)
        have hst := take_step c k (by rw [HCL.out]; exact hlt)
        have hlt2 := numM_lt (c.take k) (by rw [List.length_take]; omega)
        obtain ⟨V, hV⟩ : ∃ V, numM (c.take k) = V := ⟨_, rfl⟩
        obtain ⟨y, hy⟩ : ∃ y, c.getD k 0 = y := ⟨_, rfl⟩
        rw [hV] at hlt2 hst ⊢
        rw [hy] at hcx hst
        have hb1 := bv_nonneg y; have hb2 := bv_lt y
        have HOR := Lib.hid (or_byte V y hlt2)
        have HS := Lib.hid hst
        clear hst hV hy

        go_wp2
        go_roundw
        case rel => exact ⟨k + 1, by omega, by go_num, by rw [HS.out]; first | exact congrArg _ HOR.out | (simp only [IntKind.wrap_u64]; rw [Int.emod_eq_of_lt (by omega) (by omega), HOR.out]), hB⟩
        case measure => simp [intOf]; omega
      · obtain rfl : k = 8 := by omega
        rw [List.take_of_length_le (by rw [HCL.out]; omega), HN.out]
        have q2 : (N : Int) / 9223372036854775808 > 0 := by omega
        go_wp2
        ((try simp only [Exit.inBlock, Exit.then]); refine bodyPost_ret (results_tri rfl _ _ _) rfl ?_)
        exact ⟨rfl, hB.out⟩
  have hN3 := numM_8 HCL.out h128
  rw [HN.out] at hN3
  have H128 := Lib.hid h128
  clear h128
  by_cases hsw : szW N = 8
  · have HE : Hid (szAt b i = ⟨N, i + 1 + 8, 0⟩) := Lib.hid (by rw [szAt_good (by omega) HX.out hw (by omega) (by omega) HCC.out (by unfold badN; rw [decide_eq_false H128.out, Bool.and_false, Bool.false_or]; rw [HN.out, hsw]; rfl), HN.out])
    rw [HE.out]
    clear hw hl
    go_enter Tryz.func40, Tryz.ntmps40
    go_upto_region 14 with fail
    go_loopw [10, 47] (fun s ix wr => ∃ k : Nat, k ≤ 8 ∧ ix = .int .i64 k ∧ s = .int .u64 (numM (c.take k)) ∧ Hid (Below w.heap.size w wr)) (fun _ ix _ => 8 - (intOf ix).toNat)
    case atStart => exact ⟨0, by omega, rfl, by simp [numM], Lib.hid (Below.refl _ _)⟩
    case round =>
      obtain ⟨k, hk, rfl, rfl, hB⟩ := hrel
      by_cases hlt : k < 8
      · have hcx : wr.cell? ⟨g, off + (i + 1) + k, none⟩ = some (.int .u8 (bv (c.getD k 0))) := (hB.out.cell (World.block_lt_of_cell? w _ (HC.out k hlt))).trans (HC.out k hlt)
        have hst := take_step c k (by rw [HCL.out]; exact hlt)
        have hlt2 := numM_lt (c.take k) (by rw [List.length_take]; omega)
        obtain ⟨V, hV⟩ : ∃ V, numM (c.take k) = V := ⟨_, rfl⟩
        obtain ⟨y, hy⟩ : ∃ y, c.getD k 0 = y := ⟨_, rfl⟩
        rw [hV] at hlt2 hst ⊢
        rw [hy] at hcx hst
        have hb1 := bv_nonneg y; have hb2 := bv_lt y
        have HOR := Lib.hid (or_byte V y hlt2)
        have HS := Lib.hid hst
        clear hst hV hy

        go_wp2
        go_roundw
        case rel => exact ⟨k + 1, by omega, by go_num, by rw [HS.out]; first | exact congrArg _ HOR.out | (simp only [IntKind.wrap_u64]; rw [Int.emod_eq_of_lt (by omega) (by omega), HOR.out]), hB⟩
        case measure => simp [intOf]; omega
      · obtain rfl : k = 8 := by omega
        rw [List.take_of_length_le (by rw [HCL.out]; omega), HN.out]
        have q2 : ¬ ((N : Int) / 9223372036854775808 > 0) := by omega
        have q5 : (szW N : Int) = 8 := by omega
        go_wp2_with fail
        refine (wide63_any N hN3 wr).mono ?_
        rintro e w1 ⟨rfl, hw1⟩
        rw [hw1]
        clear hw1 w1
        go_wp2
        ((try simp only [Exit.inBlock, Exit.then]); refine bodyPost_ret (results_tri rfl _ _ _) rfl ?_)
        exact ⟨rfl, hB.out⟩
  · have HE : Hid (szAt b i = ⟨0, 0, 1⟩) := Lib.hid (szAt_bad (by omega) HX.out hw (by omega) (by omega) HCC.out (by unfold badN; rw [decide_eq_false H128.out, Bool.and_false, Bool.false_or]; rw [HN.out]; exact decide_eq_true hsw))
    rw [HE.out]
    clear hw hl
    go_enter Tryz.func40, Tryz.ntmps40
    go_upto_region 14 with fail
    go_loopw [10, 47] (fun s ix wr => ∃ k : Nat, k ≤ 8 ∧ ix = .int .i64 k ∧ s = .int .u64 (numM (c.take k)) ∧ Hid (Below w.heap.size w wr)) (fun _ ix _ => 8 - (intOf ix).toNat)
    case atStart => exact ⟨0, by omega, rfl, by simp [numM], Lib.hid (Below.refl _ _)⟩
    case round =>
      obtain ⟨k, hk, rfl, rfl, hB⟩ := hrel
      by_cases hlt : k < 8
      · have hcx : wr.cell? ⟨g, off + (i + 1) + k, none⟩ = some (.int .u8 (bv (c.getD k 0))) := (hB.out.cell (World.block_lt_of_cell? w _ (HC.out k hlt))).trans (HC.out k hlt)
        have hst := take_step c k (by rw [HCL.out]; exact hlt)
        have hlt2 := numM_lt (c.take k) (by rw [List.length_take]; omega)
        obtain ⟨V, hV⟩ : ∃ V, numM (c.take k) = V := ⟨_, rfl⟩
        obtain ⟨y, hy⟩ : ∃ y, c.getD k 0 = y := ⟨_, rfl⟩
        rw [hV] at hlt2 hst ⊢
        rw [hy] at hcx hst
        have hb1 := bv_nonneg y; have hb2 := bv_lt y
        have HOR := Lib.hid (or_byte V y hlt2)
        have HS := Lib.hid hst
        clear hst hV hy

        go_wp2
        go_roundw
        case rel => exact ⟨k + 1, by omega, by go_num, by rw [HS.out]; first | exact congrArg _ HOR.out | (simp only [IntKind.wrap_u64]; rw [Int.emod_eq_of_lt (by omega) (by omega), HOR.out]), hB⟩
        case measure => simp [intOf]; omega
      · obtain rfl : k = 8 := by omega
        rw [List.take_of_length_le (by rw [HCL.out]; omega), HN.out]
        have q2 : ¬ ((N : Int) / 9223372036854775808 > 0) := by omega
        have q5 : ((szW N : Int) == 8) = false := beq_false_of_ne (by omega)
        go_wp2_with fail
        refine (wide63_any N hN3 wr).mono ?_
        rintro e w1 ⟨rfl, hw1⟩
        rw [hw1]
        clear hw1 w1
        go_wp2
        ((try simp only [Exit.inBlock, Exit.then]); refine bodyPost_ret (results_tri rfl _ _ _) rfl ?_)
        exact ⟨rfl, hB.out⟩
end Go.Proofs.YtljcdkfafknnpaaGreatDoor
