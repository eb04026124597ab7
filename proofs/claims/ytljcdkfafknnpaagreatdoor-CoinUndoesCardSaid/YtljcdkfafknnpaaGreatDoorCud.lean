/- Merged: Cud. Conditions: none beyond each theorem's own. -/
import Derived.Test.YtljcdkfafknnpaaGreatDoorRun
import Derived.Test.YtljcdkfafknnpaaGreatDoorTld
import Derived.Test.YtljcdkfafknnpaaGreatDoorMc
import Derived.Test.YtljcdkfafknnpaaGreatDoorMa
namespace Go.Proofs.YtljcdkfafknnpaaGreatDoor
set_option linter.unusedVariables false
set_option linter.unusedSimpArgs false
open Go.RowKit
attribute [local go_sem ↓] run_load_agg run_store_agg run_load_any

def resB (cs : List CoinD) (t : TxD) (sp : List CoinD) : List CoinD := if undoE cs t sp = 0 then undoS cs t sp else []
theorem rund_cases {cs : List CoinD} {t : TxD} {sp : List CoinD} {w w' : World} {e : Ending} (hp : RUndPost cs t sp w e w') :
    Below w.heap.size w w' ∧ ∃ va vcap, e = .returned (.tuple #[.slice va (resB cs t sp).length vcap, .int .i64 (undoE cs t sp)]) ∧ rdSl coinR 36 w' (.slice va (resB cs t sp).length vcap) (resB cs t sp) := by
  obtain ⟨hb, ⟨h0, he⟩ | ⟨h0, v, he, h1⟩⟩ := hp
  · refine ⟨hb, none, 0, ?_, ?_⟩
    · unfold resB; rw [if_neg h0]; exact he
    · unfold resB; rw [if_neg h0]; exact rdSl_nil _ _ _
  · obtain ⟨va, vcap, rfl, -, -⟩ := sl_bounds h1
    refine ⟨hb, va, vcap, ?_, ?_⟩
    · unfold resB; rw [if_pos h0, h0]; exact he
    · unfold resB; rw [if_pos h0]; exact h1
theorem und_cases {cs : List CoinD} {t : TxD} {sp : List CoinD} {w w' : World} {e : Ending} (hp : UndoPost cs t sp w e w') :
    Below w.heap.size w w' ∧ ∃ va vcap, e = .returned (.tuple #[.slice va (resB cs t sp).length vcap, errV (undoE cs t sp)]) ∧ rdSl coinR 36 w' (.slice va (resB cs t sp).length vcap) (resB cs t sp) := by
  obtain ⟨hb, ⟨h0, he⟩ | ⟨h0, v, he, h1⟩⟩ := hp
  · refine ⟨hb, none, 0, ?_, ?_⟩
    · unfold resB; rw [if_neg h0]; exact he
    · unfold resB; rw [if_neg h0]; exact rdSl_nil _ _ _
  · obtain ⟨va, vcap, rfl, -, -⟩ := sl_bounds h1
    refine ⟨hb, va, vcap, ?_, ?_⟩
    · unfold resB; rw [if_pos h0, h0]; exact he
    · unfold resB; rw [if_pos h0]; exact h1
set_option maxHeartbeats 4000000 in
set_option maxRecDepth 100000 in
theorem coinUndoes_any (cs : List CoinD) (ca : Option Addr) (cc : Nat) (t : TxD) (ai : Option Addr) (ci : Nat) (ao : Option Addr) (co : Nat) (sp : List CoinD) (sa : Option Addr) (sc : Nat) (w : World) (hc : rdSl coinR 36 w (.slice ca cs.length cc) cs) (hi : rdSl inR 34 w (.slice ai t.ins.length ci) t.ins) (ho : rdSl outR 2 w (.slice ao t.outs.length co) t.outs) (hs : rdSl coinR 36 w (.slice sa sp.length sc) sp) (hf : ∀ c ∈ sp, FitC c) (hT : tabAt w) (hE : errAt w) :
    Calls Tryz.prog 5 #[.slice ca cs.length cc, .agg #[.slice ai t.ins.length ci, .slice ao t.outs.length co, .int .i64 t.time], .slice sa sp.length sc] w fun e w' => e = .returned (.bool true) ∧ Below w.heap.size w w' := by
  obtain ⟨n1, n2, n3⟩ := new_tx w ai ao t.ins.length t.outs.length ci co t.time
  have k0 := (Kept.refl w).alloc (txV t ai ao ci co) 59
  unfold zTx at n1 n2
  have hgT := rowAt_lt hT
  have HC := Lib.hid hc; have HI := Lib.hid hi; have HO := Lib.hid ho; have HT := Lib.hid hT; have HE := Lib.hid hE; have HSP := Lib.hid hs; have HFT := Lib.hid hf
  have K0 := Lib.hid k0
  clear hc hi ho hT hE k0 hs hf
  go_enter Tryz.func5, Tryz.ntmps5
  go_upto_region 1 with fail
  clear n1 n2 n3
  change Code.wp _ _ _ _ (w.alloc (.cells (txV t ai ao ci co) 59))
  obtain ⟨G, hG⟩ : ∃ G, w.heap.size = G := ⟨_, rfl⟩
  have K0' : Hid (∃ w0, w.alloc (.cells (txV t ai ao ci co) 59) = w0 ∧ Kept w [(G, txV t ai ao ci co, 59)] w0) := Lib.hid ⟨_, rfl, by rw [← hG]; exact K0.out⟩
  rw [hG] at ⊢
  clear hG K0
  obtain ⟨w0, hw0, k0⟩ := K0'.out
  rw [hw0]
  have K0 := Lib.hid k0
  clear hw0 k0 K0'
  have r3 : rowAt w0 G 0 3 = some #[.slice ai t.ins.length ci, .slice ao t.outs.length co, .int .i64 t.time] := K0.out.row 0 _ 3 rfl rfl
  go_wp2_with fail
  refine (rundone_any cs t sp ca ai ao sa cc ci co sc w0 (coinR_stays.slB HC.out K0.out.below (Nat.le_refl _)) (inR_stays.slB HI.out K0.out.below (Nat.le_refl _)) (outR_stays.slB HO.out K0.out.below (Nat.le_refl _)) (coinR_stays.slB HSP.out K0.out.below (Nat.le_refl _))).mono ?_
  intro e w1 hap
  obtain ⟨hb, va, vcap, rfl, hs1⟩ := rund_cases hap
  have K1 := Lib.hid (K0.out.on hb)
  clear hb r3 hap
  obtain ⟨_, _, e, s1, s2⟩ := sl_bounds hs1
  cases e
  unfold maxLen at s2
  have HS1 := Lib.hid hs1
  have HAP := Lib.hid (fun W (q1 : rdSl coinR 36 W (.slice ca cs.length cc) cs) (q2 : rdSl inR 34 W (.slice ai t.ins.length ci) t.ins) (q3 : rdSl outR 2 W (.slice ao t.outs.length co) t.outs) (q5 : rdSl coinR 36 W (.slice sa sp.length sc) sp) (q4 : tabAt W) =>
    (undo_any cs t sp ca ai ao sa cc ci co sc W q1 q2 q3 q5 q4 (fun hn W' hb => copy_fit sp sa sc W' (coinR_stays.slB q5 hb (Nat.le_refl _)) (by omega) HFT.out)).mono (fun e w' hp => und_cases hp))
  obtain ⟨S, hS⟩ : ∃ S, resB cs t sp = S := ⟨_, rfl⟩
  obtain ⟨F, hF⟩ : ∃ F, undoE cs t sp = F := ⟨_, rfl⟩
  rw [hS] at HS1 s1 HAP ⊢
  rw [hF] at HAP ⊢
  clear hS hF hs1
  have r3 : rowAt w1 G 0 3 = some #[.slice ai t.ins.length ci, .slice ao t.outs.length co, .int .i64 t.time] := K1.out.row 0 _ 3 rfl rfl
  go_wp2_with fail
  refine (HAP.out w1 (coinR_stays.slB HC.out K1.out.below (Nat.le_refl _)) (inR_stays.slB HI.out K1.out.below (Nat.le_refl _)) (outR_stays.slB HO.out K1.out.below (Nat.le_refl _)) (coinR_stays.slB HSP.out K1.out.below (Nat.le_refl _)) ((rowAt_below K1.out.below hgT 0 64).trans HT.out)).mono ?_
  rintro e w3 ⟨hb, xa, xcap, rfl, hs3⟩
  have K3 := Lib.hid (K1.out.on hb)
  have HS3 := Lib.hid (coinR_stays.slB HS1.out hb (Nat.le_refl _))
  have HX3 := Lib.hid hs3
  clear hb r3 hs3 HAP HS1
  go_wp2_with fail
  refine (told_eq F w3 (errAt_below HE.out K3.out.below (Nat.le_refl _))).mono ?_
  rintro e w4 ⟨rfl, hb⟩
  have K4 := Lib.hid (K3.out.on hb)
  have HS4 := Lib.hid (coinR_stays.slB HS3.out hb (Nat.le_refl _))
  have HX4 := Lib.hid (coinR_stays.slB HX3.out hb (Nat.le_refl _))
  clear hb HS3 HX3
  go_wp2_with fail
  refine (coins_same S xa va S.length xcap vcap w4 HX4.out HS4.out rfl).mono ?_
  rintro e w5 ⟨rfl, hd⟩
  have hb := hd.below
  have K5 := Lib.hid (K4.out.on hb)
  clear hd hb HS4 HX4
  go_wp2_with fail
  refine (made_law w5 ((rowAt_below K5.out.below hgT 0 64).trans HT.out)).mono ?_
  rintro e w7 ⟨rfl, hb⟩
  have K7 := Lib.hid (K5.out.on hb)
  clear hb
  go_wp2
  go_ret
  exact ⟨rfl, K7.out.below⟩
end Go.Proofs.YtljcdkfafknnpaaGreatDoor
