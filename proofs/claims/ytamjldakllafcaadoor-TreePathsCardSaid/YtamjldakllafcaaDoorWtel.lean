/- The walk of the law WorkTells. Conditions: none beyond each theorem's own. -/
import Derived.Test.YtamjldakllafcaaDoorNext
import Derived.Test.YtamjldakllafcaaDoorTold
namespace Go.Proofs.YtamjldakllafcaaDoor
set_option linter.unusedVariables false
set_option linter.unusedSimpArgs false
open Go.RowKit
attribute [local go_sem ↓] run_load_agg run_store_agg run_load_any

theorem Held1.on {w0 : World} {A : Nat} {X : List UInt8} {w w' : World} (h : Held1 w0 A X w) (hb : Below w.heap.size w w') : Held1 w0 A X w' :=
  ⟨h.below.trans (hb.mono h.below.size), (rowAt_below hb (rowAt_lt h.a) 0 32).trans h.a⟩
theorem badB_of_within (n took want : Int) (h : withinB n = false) : badB n took want = true := by simp [badB, h]
/-- The answer told, whatever error there is. -/
theorem same_told (w : World) (hE : errAt w) (err : Value) (c : Int) (w2 : World) (hb2 : Below w.heap.size w w2) (he : (err = .nilIface ∧ c = 0) ∨ err = .iface 47 (.int .i64 c)) :
    Calls Tryd.prog 27 #[err, .int .i64 c] w2 fun e w' => e = .returned (.bool true) ∧ Below w.heap.size w w' := by
  rcases he with ⟨rfl, rfl⟩ | rfl
  · refine (same_nil 0 w2).mono ?_
    rintro e w' ⟨rfl, rfl⟩
    exact ⟨rfl, hb2⟩
  · refine (same_errno c c w2 (errAt_below hE hb2 (Nat.le_refl _))).mono ?_
    rintro e w' ⟨rfl, hb3⟩
    exact ⟨by simp, hb2.trans (hb3.mono hb2.size)⟩
def isErr (err : Value) (c : Int) : Prop := (err = .nilIface ∧ c = 0) ∨ err = .iface 47 (.int .i64 c)
theorem next_all (n took want : Int) : ∃ (x c : Int) (err : Value), isErr err c ∧ (∀ w, Calls Tryd.prog 28 #[.int .i64 n, .int .i64 took, .int .i64 want] w fun e w' => e = .returned (.tuple #[.int .i64 x, .int .i64 c]) ∧ w' = w) ∧
    (∀ w, Calls Tryd.prog 29 #[.int .i64 n, .int .i64 took, .int .i64 want] w fun e w' => e = .returned (.tuple #[.int .i64 x, err]) ∧ w' = w) := by
  cases h : badB n took want
  · exact ⟨nextV n took want, 0, .nilIface, .inl ⟨rfl, rfl⟩, fun w => nextOf_good n took want w h, fun w => next_good n took want w h⟩
  · exact ⟨0, 2, .iface 47 (.int .i64 2), .inr rfl, fun w => nextOf_bad n took want w h, fun w => next_bad n took want w h⟩
set_option maxHeartbeats 4000000 in
set_option maxRecDepth 100000 in
theorem tells_any (d : List UInt8) (hd : d.length = 32) (n took want : Int) (w : World) (hE : errAt w) :
    Calls Tryd.prog 8 #[.agg (dgV d), .int .i64 n, .int .i64 took, .int .i64 want] w fun e w' => e = .returned (.bool true) ∧ Below w.heap.size w w' := by
  have hsd : (dgV d).size = 32 := by rw [dgV_size, hd]
  have hpd : plainCells (dgV d) = true := dgV_plain _
  have HE := Lib.hid hE; clear hE
  have cr : Hid (rowAt (w.alloc (.cells (dgV d) 25)) w.heap.size 0 32 = some (dgV d)) := rowAt_whole (heap_alloc_new w (.cells (dgV d) 25)) 32 hsd.symm
  have hb0 : Hid (Below w.heap.size w (w.alloc (.cells (dgV d) 25))) := (Below.refl _ _).alloc (Nat.le_refl _) _
  have HZ1 := Lib.hid (zeros_any d hd); have HZ2 := Lib.hid (zerosOf_any d hd); have HG := Lib.hid (good_any d hd n)
  obtain ⟨Z, hZ⟩ : ∃ Z, ((zerosM d : Nat) : Int) = Z := ⟨_, rfl⟩
  rw [hZ] at HZ1 HZ2 HG
  clear hZ
  obtain ⟨G, hG⟩ : ∃ G, decide (n ≤ Z) = G := ⟨_, rfl⟩
  rw [hG] at HG
  have hz1 : (Z != Z) = false := by simp
  have hz2 : (G != G) = false := by simp
  obtain ⟨x, c, err, herr, hN1, hN2⟩ := next_all n took want
  have HER := Lib.hid herr; have HN1 := Lib.hid hN1; have HN2 := Lib.hid hN2
  clear herr hN1 hN2
  by_cases h1 : n < 0
  · have hbad : withinB n = false := by simp [withinB]; omega
    go_enter Tryd.func8, Tryd.ntmps8
    go_wp2_with fail
    change Code.wp _ _ _ _ (w.alloc (.cells (dgV d) 25))
    generalize w.alloc (.cells (dgV d) 25) = wa at cr hb0 ⊢
    refine wp_region_quiet (C := Held1 w w.heap.size d) (by kernel_rfl) (by kernel_rfl) ⟨hb0.out.drew, cr.out⟩ ?_
    refine wpQuiet_step (fun K hK => ?_)
    rw [if_pos (by rfl)]
    refine quiet_load w.heap.size 0 _ rfl (fun w h => h.a) (hK _ ?_)
    clear hK K
    quiet_step ((intro hC; refine (HZ1.out _).mono ?_; rintro e w9 ⟨rfl, hb9⟩; exact ⟨rfl, hC.on hb9⟩))
    refine wpQuiet_step (fun K hK => ?_)
    rw [if_pos (by rfl)]
    refine quiet_load w.heap.size 0 _ rfl (fun w h => h.a) (hK _ ?_)
    clear hK K
    quiet_step ((intro hC; refine (HZ2.out _).mono ?_; rintro e w9 ⟨rfl, hb9⟩; exact ⟨rfl, hC.on hb9⟩))
    iterate 2 quiet_step ((intro _; with_reducible rfl))
    refine wpQuiet_step (fun K hK => ?_)
    rw [if_pos (by rfl)]
    refine quiet_load w.heap.size 0 _ rfl (fun w h => h.a) (hK _ ?_)
    clear hK K
    quiet_step ((intro _; with_reducible rfl))
    quiet_step ((intro hC; refine (HG.out _).mono ?_; rintro e w9 ⟨rfl, hb9⟩; exact ⟨rfl, hC.on hb9⟩))
    refine wpQuiet_step (fun K hK => ?_)
    rw [if_pos (by rfl)]
    refine quiet_load w.heap.size 0 _ rfl (fun w h => h.a) (hK _ ?_)
    clear hK K
    quiet_step ((intro hC; refine (HZ2.out _).mono ?_; rintro e w9 ⟨rfl, hb9⟩; exact ⟨rfl, hC.on hb9⟩))
    iterate 4 quiet_step ((intro _; with_reducible rfl))
    refine wpQuiet_nil ?_
    intro w3 hw3
    have B3 := Lib.hid hw3.below
    clear hw3 hG
    go_wp2_with fail
    refine (work_no n hbad _).mono ?_
    rintro e w' ⟨rfl, rfl⟩
    go_wp2_with fail
    refine (same_told w HE.out _ 2 _ B3.out (.inr rfl)).mono ?_
    rintro e w4 ⟨rfl, hb4⟩
    have B4 := Lib.hid hb4; clear hb4
    go_wp2_with fail
    refine (HN1.out _).mono ?_
    rintro e w' ⟨rfl, rfl⟩
    go_wp2_with fail
    refine (HN2.out _).mono ?_
    rintro e w' ⟨rfl, rfl⟩
    go_wp2_with fail
    refine (same_told w HE.out err c _ B4.out HER.out).mono ?_
    rintro e w5 ⟨rfl, hb5⟩
    have B5 := Lib.hid hb5; clear hb5
    go_wp2
    go_ret
    exact ⟨by simp, B5.out⟩
  by_cases h2 : 40 < n
  · have hbad : withinB n = false := by simp [withinB]; omega
    go_enter Tryd.func8, Tryd.ntmps8
    go_wp2_with fail
    change Code.wp _ _ _ _ (w.alloc (.cells (dgV d) 25))
    generalize w.alloc (.cells (dgV d) 25) = wa at cr hb0 ⊢
    refine wp_region_quiet (C := Held1 w w.heap.size d) (by kernel_rfl) (by kernel_rfl) ⟨hb0.out.drew, cr.out⟩ ?_
    refine wpQuiet_step (fun K hK => ?_)
    rw [if_pos (by rfl)]
    refine quiet_load w.heap.size 0 _ rfl (fun w h => h.a) (hK _ ?_)
    clear hK K
    quiet_step ((intro hC; refine (HZ1.out _).mono ?_; rintro e w9 ⟨rfl, hb9⟩; exact ⟨rfl, hC.on hb9⟩))
    refine wpQuiet_step (fun K hK => ?_)
    rw [if_pos (by rfl)]
    refine quiet_load w.heap.size 0 _ rfl (fun w h => h.a) (hK _ ?_)
    clear hK K
    quiet_step ((intro hC; refine (HZ2.out _).mono ?_; rintro e w9 ⟨rfl, hb9⟩; exact ⟨rfl, hC.on hb9⟩))
    iterate 2 quiet_step ((intro _; with_reducible rfl))
    refine wpQuiet_step (fun K hK => ?_)
    rw [if_pos (by rfl)]
    refine quiet_load w.heap.size 0 _ rfl (fun w h => h.a) (hK _ ?_)
    clear hK K
    quiet_step ((intro _; with_reducible rfl))
    quiet_step ((intro hC; refine (HG.out _).mono ?_; rintro e w9 ⟨rfl, hb9⟩; exact ⟨rfl, hC.on hb9⟩))
    refine wpQuiet_step (fun K hK => ?_)
    rw [if_pos (by rfl)]
    refine quiet_load w.heap.size 0 _ rfl (fun w h => h.a) (hK _ ?_)
    clear hK K
    quiet_step ((intro hC; refine (HZ2.out _).mono ?_; rintro e w9 ⟨rfl, hb9⟩; exact ⟨rfl, hC.on hb9⟩))
    iterate 4 quiet_step ((intro _; with_reducible rfl))
    refine wpQuiet_nil ?_
    intro w3 hw3
    have B3 := Lib.hid hw3.below
    clear hw3 hG
    go_wp2_with fail
    refine (work_no n hbad _).mono ?_
    rintro e w' ⟨rfl, rfl⟩
    go_wp2_with fail
    refine (same_told w HE.out _ 2 _ B3.out (.inr rfl)).mono ?_
    rintro e w4 ⟨rfl, hb4⟩
    have B4 := Lib.hid hb4; clear hb4
    go_wp2_with fail
    refine (HN1.out _).mono ?_
    rintro e w' ⟨rfl, rfl⟩
    go_wp2_with fail
    refine (HN2.out _).mono ?_
    rintro e w' ⟨rfl, rfl⟩
    go_wp2_with fail
    refine (same_told w HE.out err c _ B4.out HER.out).mono ?_
    rintro e w5 ⟨rfl, hb5⟩
    have B5 := Lib.hid hb5; clear hb5
    go_wp2
    go_ret
    exact ⟨by simp, B5.out⟩
  · obtain ⟨m, rfl⟩ : ∃ k : Nat, n = k := ⟨n.toNat, by omega⟩
    have hm : m ≤ 40 := by omega
    obtain ⟨P, hP⟩ : ∃ P, ((2 ^ m : Nat) : Int) = P := ⟨_, rfl⟩
    have HP := Lib.hid hP; clear hP
    go_enter Tryd.func8, Tryd.ntmps8
    go_wp2_with fail
    change Code.wp _ _ _ _ (w.alloc (.cells (dgV d) 25))
    generalize w.alloc (.cells (dgV d) 25) = wa at cr hb0 ⊢
    refine wp_region_quiet (C := Held1 w w.heap.size d) (by kernel_rfl) (by kernel_rfl) ⟨hb0.out.drew, cr.out⟩ ?_
    refine wpQuiet_step (fun K hK => ?_)
    rw [if_pos (by rfl)]
    refine quiet_load w.heap.size 0 _ rfl (fun w h => h.a) (hK _ ?_)
    clear hK K
    quiet_step ((intro hC; refine (HZ1.out _).mono ?_; rintro e w9 ⟨rfl, hb9⟩; exact ⟨rfl, hC.on hb9⟩))
    refine wpQuiet_step (fun K hK => ?_)
    rw [if_pos (by rfl)]
    refine quiet_load w.heap.size 0 _ rfl (fun w h => h.a) (hK _ ?_)
    clear hK K
    quiet_step ((intro hC; refine (HZ2.out _).mono ?_; rintro e w9 ⟨rfl, hb9⟩; exact ⟨rfl, hC.on hb9⟩))
    iterate 2 quiet_step ((intro _; with_reducible rfl))
    refine wpQuiet_step (fun K hK => ?_)
    rw [if_pos (by rfl)]
    refine quiet_load w.heap.size 0 _ rfl (fun w h => h.a) (hK _ ?_)
    clear hK K
    quiet_step ((intro _; with_reducible rfl))
    quiet_step ((intro hC; refine (HG.out _).mono ?_; rintro e w9 ⟨rfl, hb9⟩; exact ⟨rfl, hC.on hb9⟩))
    refine wpQuiet_step (fun K hK => ?_)
    rw [if_pos (by rfl)]
    refine quiet_load w.heap.size 0 _ rfl (fun w h => h.a) (hK _ ?_)
    clear hK K
    quiet_step ((intro hC; refine (HZ2.out _).mono ?_; rintro e w9 ⟨rfl, hb9⟩; exact ⟨rfl, hC.on hb9⟩))
    iterate 4 quiet_step ((intro _; with_reducible rfl))
    refine wpQuiet_nil ?_
    intro w3 hw3
    have B3 := Lib.hid hw3.below
    clear hw3 hG
    go_wp2_with fail
    refine (power_any m hm _).mono ?_
    rintro e w' ⟨rfl, rfl⟩
    rw [HP.out]
    go_wp2_with fail
    refine (work_ok m hm _).mono ?_
    rintro e w' ⟨rfl, rfl⟩
    rw [HP.out]
    go_wp2_with fail
    refine (same_told w HE.out _ 0 _ B3.out (.inl ⟨rfl, rfl⟩)).mono ?_
    rintro e w4 ⟨rfl, hb4⟩
    have B4 := Lib.hid hb4; clear hb4
    go_wp2_with fail
    refine (HN1.out _).mono ?_
    rintro e w' ⟨rfl, rfl⟩
    go_wp2_with fail
    refine (HN2.out _).mono ?_
    rintro e w' ⟨rfl, rfl⟩
    go_wp2_with fail
    refine (same_told w HE.out err c _ B4.out HER.out).mono ?_
    rintro e w5 ⟨rfl, hb5⟩
    have B5 := Lib.hid hb5; clear hb5
    go_wp2
    go_ret
    exact ⟨by simp, B5.out⟩
end Go.Proofs.YtamjldakllafcaaDoor
