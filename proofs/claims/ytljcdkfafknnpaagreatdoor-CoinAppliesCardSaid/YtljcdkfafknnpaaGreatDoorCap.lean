/- Merged: Cap. Conditions: none beyond each theorem's own. -/
import Derived.Test.YtljcdkfafknnpaaGreatDoorRap
import Derived.Test.YtljcdkfafknnpaaGreatDoorTld
import Derived.Test.YtljcdkfafknnpaaGreatDoorMc
import Derived.Test.YtljcdkfafknnpaaGreatDoorMa
namespace Go.Proofs.YtljcdkfafknnpaaGreatDoor
set_option linter.unusedVariables false
set_option linter.unusedSimpArgs false
open Go.RowKit
attribute [local go_sem ↓] run_load_agg run_store_agg run_load_any

def resS (cs : List CoinD) (t : TxD) (h : Int) : List CoinD := if applyE cs t h = 0 then applyS cs t h else []
def resU (cs : List CoinD) (t : TxD) (h : Int) : List CoinD := if applyE cs t h = 0 then spC cs t.ins else []
def resL (cs : List CoinD) (t : TxD) (h : Int) : Int := if applyE cs t h = 0 then applyL cs t h else 0
theorem rapp_cases {cs : List CoinD} {t : TxD} {h : Int} {w w' : World} {e : Ending} (hp : RAppPost cs t h w e w') :
    Below w.heap.size w w' ∧ ∃ va vcap ua ucap, e = .returned (.agg #[.slice va (resS cs t h).length vcap, .slice ua (resU cs t h).length ucap, .int .i64 (resL cs t h), .int .i64 (applyE cs t h)]) ∧
      rdSl coinR 36 w' (.slice va (resS cs t h).length vcap) (resS cs t h) ∧ rdSl coinR 36 w' (.slice ua (resU cs t h).length ucap) (resU cs t h) := by
  obtain ⟨hb, ⟨h0, he⟩ | ⟨h0, v, u, he, h1, h2⟩⟩ := hp
  · refine ⟨hb, none, 0, none, 0, ?_, ?_, ?_⟩
    · unfold resS resU resL; rw [if_neg h0, if_neg h0, if_neg h0]; exact he
    · unfold resS; rw [if_neg h0]; exact rdSl_nil _ _ _
    · unfold resU; rw [if_neg h0]; exact rdSl_nil _ _ _
  · obtain ⟨va, vcap, rfl, -, -⟩ := sl_bounds h1
    obtain ⟨ua, ucap, rfl, -, -⟩ := sl_bounds h2
    refine ⟨hb, va, vcap, ua, ucap, ?_, ?_, ?_⟩
    · unfold resS resU resL; rw [if_pos h0, if_pos h0, if_pos h0, h0]; exact he
    · unfold resS; rw [if_pos h0]; exact h1
    · unfold resU; rw [if_pos h0]; exact h2
theorem app_cases {cs : List CoinD} {t : TxD} {h : Int} {w w' : World} {e : Ending} (hp : ApplyPost cs t h w e w') :
    Below w.heap.size w w' ∧ ∃ va vcap ua ucap, e = .returned (.tuple #[.slice va (resS cs t h).length vcap, .slice ua (resU cs t h).length ucap, .int .i64 (resL cs t h), errV (applyE cs t h)]) ∧
      rdSl coinR 36 w' (.slice va (resS cs t h).length vcap) (resS cs t h) ∧ rdSl coinR 36 w' (.slice ua (resU cs t h).length ucap) (resU cs t h) := by
  obtain ⟨hb, ⟨h0, he⟩ | ⟨h0, v, u, he, h1, h2⟩⟩ := hp
  · refine ⟨hb, none, 0, none, 0, ?_, ?_, ?_⟩
    · unfold resS resU resL; rw [if_neg h0, if_neg h0, if_neg h0]; exact he
    · unfold resS; rw [if_neg h0]; exact rdSl_nil _ _ _
    · unfold resU; rw [if_neg h0]; exact rdSl_nil _ _ _
  · obtain ⟨va, vcap, rfl, -, -⟩ := sl_bounds h1
    obtain ⟨ua, ucap, rfl, -, -⟩ := sl_bounds h2
    refine ⟨hb, va, vcap, ua, ucap, ?_, ?_, ?_⟩
    · unfold resS resU resL; rw [if_pos h0, if_pos h0, if_pos h0, h0]; exact he
    · unfold resS; rw [if_pos h0]; exact h1
    · unfold resU; rw [if_pos h0]; exact h2
theorem new_ap (w : World) (va ua : Option Addr) (n c m d : Nat) (L E : Int) : (rowAt (w.alloc (.cells zAp 61)) w.heap.size 0 4).isSome = true ∧ wrAt (w.alloc (.cells zAp 61)) w.heap.size = true ∧
    plainCells #[.slice va n c, .slice ua m d, .int .i64 L, .int .i64 E] = true :=
  ⟨by rw [rowAt_whole (heap_alloc_new w _) 4 rfl]; rfl, wrAt_of_heap (heap_alloc_new w _), rfl⟩
set_option maxHeartbeats 4000000 in
set_option maxRecDepth 100000 in
theorem coinApplies_any (cs : List CoinD) (ca : Option Addr) (cc : Nat) (t : TxD) (ai : Option Addr) (ci : Nat) (ao : Option Addr) (co : Nat) (h : Int) (w : World) (hc : rdSl coinR 36 w (.slice ca cs.length cc) cs) (hi : rdSl inR 34 w (.slice ai t.ins.length ci) t.ins) (ho : rdSl outR 2 w (.slice ao t.outs.length co) t.outs) (hT : tabAt w) (hE : errAt w) :
    Calls Tryz.prog 4 #[.slice ca cs.length cc, .agg #[.slice ai t.ins.length ci, .slice ao t.outs.length co, .int .i64 t.time], .int .i64 h] w fun e w' => e = .returned (.bool true) ∧ Below w.heap.size w w' := by
  obtain ⟨n1, n2, n3⟩ := new_tx w ai ao t.ins.length t.outs.length ci co t.time
  have k0 := (Kept.refl w).alloc (txV t ai ao ci co) 59
  unfold zTx at n1 n2
  have hgT := rowAt_lt hT
  have HC := Lib.hid hc; have HI := Lib.hid hi; have HO := Lib.hid ho; have HT := Lib.hid hT; have HE := Lib.hid hE
  have K0 := Lib.hid k0
  clear hc hi ho hT hE k0
  go_enter Tryz.func4, Tryz.ntmps4
  go_upto_region 1 with fail
  clear n1 n2 n3
  change Code.wp _ _ _ _ (w.alloc (.cells (txV t ai ao ci co) 59))
  obtain ⟨G, hG⟩ : ∃ G, w.heap.size = G := ⟨_, rfl⟩
  have K0' : Hid (∃ w0, w.alloc (.cells (txV t ai ao ci co) 59) = w0 ∧ Kept w [(G, txV t ai ao ci co, 59)] w0) := Lib.hid ⟨_, rfl, by rw [← hG]; exact K0.out⟩
  rw [hG] at ⊢
  clear hG K0
  obtain ⟨w0, hw0, k0⟩ := K0'.out
  rw [hw0]
  have K0 := Lib.hid k0
  clear hw0 k0 K0'
  have r3 : rowAt w0 G 0 3 = some #[.slice ai t.ins.length ci, .slice ao t.outs.length co, .int .i64 t.time] := K0.out.row 0 _ 3 rfl rfl
  go_wp2_with fail
  refine (rapply_any cs t h ca ai ao cc ci co w0 (coinR_stays.slB HC.out K0.out.below (Nat.le_refl _)) (inR_stays.slB HI.out K0.out.below (Nat.le_refl _)) (outR_stays.slB HO.out K0.out.below (Nat.le_refl _))).mono ?_
  intro e w1 hap
  obtain ⟨hb, va, vcap, ua, ucap, rfl, hs1, hu1⟩ := rapp_cases hap
  have K1 := Lib.hid (K0.out.on hb)
  clear hb r3 hap
  obtain ⟨_, _, e, s1, s2⟩ := sl_bounds hs1
  cases e
  obtain ⟨_, _, e, u1, u2⟩ := sl_bounds hu1
  cases e
  unfold maxLen at s2 u2
  have HS1 := Lib.hid hs1; have HU1 := Lib.hid hu1
  have HAP := Lib.hid (fun W (q1 : rdSl coinR 36 W (.slice ca cs.length cc) cs) (q2 : rdSl inR 34 W (.slice ai t.ins.length ci) t.ins) (q3 : rdSl outR 2 W (.slice ao t.outs.length co) t.outs) (q4 : tabAt W) => (apply_any cs t h ca ai ao cc ci co W q1 q2 q3 q4).mono (fun e w' hp => app_cases hp))
  obtain ⟨S, hS⟩ : ∃ S, resS cs t h = S := ⟨_, rfl⟩
  obtain ⟨U, hU⟩ : ∃ U, resU cs t h = U := ⟨_, rfl⟩
  obtain ⟨L, hL⟩ : ∃ L, resL cs t h = L := ⟨_, rfl⟩
  obtain ⟨F, hF⟩ : ∃ F, applyE cs t h = F := ⟨_, rfl⟩
  rw [hS] at HS1 s1 HAP ⊢
  rw [hU] at HU1 u1 HAP ⊢
  rw [hL] at HAP ⊢
  rw [hF] at HAP ⊢
  clear hS hU hL hF hs1 hu1
  obtain ⟨p1, p2, p3⟩ := new_ap w1 va ua S.length vcap U.length ucap L F
  unfold zAp at p1 p2
  go_upto_region 2 with fail
  clear p1 p2 p3
  have K2' : Hid (∃ X w2, w1.heap.size = X ∧ w1.alloc (.cells #[.slice va S.length vcap, .slice ua U.length ucap, .int .i64 L, .int .i64 F] 61) = w2 ∧ Kept w [(X, #[.slice va S.length vcap, .slice ua U.length ucap, .int .i64 L, .int .i64 F], 61), (G, txV t ai ao ci co, 59)] w2 ∧ Below w1.heap.size w1 w2) := Lib.hid ⟨_, _, rfl, rfl, K1.out.alloc _ _, (Below.refl _ _).alloc (Nat.le_refl _) _⟩
  change Code.wp _ _ _ _ (w1.alloc (.cells #[.slice va S.length vcap, .slice ua U.length ucap, .int .i64 L, .int .i64 F] 61))
  obtain ⟨X, w2, hx, hw, k2, hb⟩ := K2'.out
  rw [hx, hw]
  have K2 := Lib.hid k2
  have HS2 := Lib.hid (coinR_stays.slB HS1.out hb (Nat.le_refl _))
  have HU2 := Lib.hid (coinR_stays.slB HU1.out hb (Nat.le_refl _))
  clear hx hw k2 K2' hb HS1 HU1
  have r3 : rowAt w2 G 0 3 = some #[.slice ai t.ins.length ci, .slice ao t.outs.length co, .int .i64 t.time] := K2.out.row 1 _ 3 rfl rfl
  go_wp2_with fail
  refine (HAP.out w2 (coinR_stays.slB HC.out K2.out.below (Nat.le_refl _)) (inR_stays.slB HI.out K2.out.below (Nat.le_refl _)) (outR_stays.slB HO.out K2.out.below (Nat.le_refl _)) ((rowAt_below K2.out.below hgT 0 64).trans HT.out)).mono ?_
  rintro e w3 ⟨hb, xa, xcap, ya, ycap, rfl, hs3, hu3⟩
  have K3 := Lib.hid (K2.out.on hb)
  have HS3 := Lib.hid (coinR_stays.slB HS2.out hb (Nat.le_refl _))
  have HU3 := Lib.hid (coinR_stays.slB HU2.out hb (Nat.le_refl _))
  have HX3 := Lib.hid hs3; have HY3 := Lib.hid hu3
  clear hb r3 hs3 hu3 HAP HS2 HU2
  have e3 : w3.cell? ⟨X, 3, none⟩ = some (.int .i64 F) := K3.out.cell 0 3 _ _ rfl rfl
  go_wp2_with fail
  refine (told_eq F w3 (errAt_below HE.out K3.out.below (Nat.le_refl _))).mono ?_
  rintro e w4 ⟨rfl, hb⟩
  have K4 := Lib.hid (K3.out.on hb)
  have HS4 := Lib.hid (coinR_stays.slB HS3.out hb (Nat.le_refl _))
  have HU4 := Lib.hid (coinR_stays.slB HU3.out hb (Nat.le_refl _))
  have HX4 := Lib.hid (coinR_stays.slB HX3.out hb (Nat.le_refl _))
  have HY4 := Lib.hid (coinR_stays.slB HY3.out hb (Nat.le_refl _))
  clear hb e3 HS3 HU3 HX3 HY3
  have e0 : w4.cell? ⟨X, 0, none⟩ = some (.slice va S.length vcap) := K4.out.cell 0 0 _ _ rfl rfl
  go_wp2_with fail
  refine (coins_same S xa va S.length xcap vcap w4 HX4.out HS4.out rfl).mono ?_
  rintro e w5 ⟨rfl, hd⟩
  have hb := hd.below
  have K5 := Lib.hid (K4.out.on hb)
  have HU5 := Lib.hid (coinR_stays.slB HU4.out hb (Nat.le_refl _))
  have HY5 := Lib.hid (coinR_stays.slB HY4.out hb (Nat.le_refl _))
  clear hd hb e0 HS4 HU4 HX4 HY4
  have e1 : w5.cell? ⟨X, 1, none⟩ = some (.slice ua U.length ucap) := K5.out.cell 0 1 _ _ rfl rfl
  go_wp2_with fail
  refine (coins_same U ya ua U.length ycap ucap w5 HY5.out HU5.out rfl).mono ?_
  rintro e w6 ⟨rfl, hd⟩
  have hb := hd.below
  have K6 := Lib.hid (K5.out.on hb)
  clear hd hb e1 HU5 HY5
  go_wp2_with fail
  refine (made_law w6 ((rowAt_below K6.out.below hgT 0 64).trans HT.out)).mono ?_
  rintro e w7 ⟨rfl, hb⟩
  have K7 := Lib.hid (K6.out.on hb)
  clear hb
  have e2 : w7.cell? ⟨X, 2, none⟩ = some (.int .i64 L) := K7.out.cell 0 2 _ _ rfl rfl
  go_wp2
  go_ret
  exact ⟨rfl, K7.out.below⟩
end Go.Proofs.YtljcdkfafknnpaaGreatDoor
