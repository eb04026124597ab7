/- Two places compared with ==, and the walk of the reference's CoinAt. Conditions: none beyond each theorem's own. -/
import Derived.Test.YtljcdkfafknnpaaDoorSetp
import Derived.Laws.StructEq
namespace Go.Proofs.YtljcdkfafknnpaaDoor
set_option linter.unusedVariables false
set_option linter.unusedSimpArgs false
open Go.RowKit
attribute [local go_sem ↓] run_load_agg run_store_agg run_load_any

theorem run_eqItems_digD (d : Nat) (a b : List UInt8) (ha : a.length = 32) (hb : b.length = 32) (w : World) : (Op.equalIn (d + 2) 29 (.agg (dgV a)) (.agg (dgV b))).run Tryd.prog w = .ok (decide (a = b)) w := by
  obtain ⟨i, hi, -, hs, -⟩ := info_parts' info_u8
  rw [run_equalIn_array w (d + 1) (dgV a) (dgV b) Tryd.underlying29 hi]
  have hc : Tryd.prog.cellsOf 5 = 1 := by kernel_rfl
  rw [hc, List.range_eq_range']
  simpa using run_eqItems_dig d a b ha hb w 32 0 rfl
/-- Are two places one? -/
def plE (p q : PlaceD) : Bool := decide (p.tx = q.tx) && decide (p.ix = q.ix)
theorem fields_place : Tryd.prog.fieldsOf 35 = #[{ name := "Tx", type := 29, offset := 0, embedded := false, tag := "", pkgPath := "", byteOffset := 0 }, { name := "At", type := 3, offset := 32, embedded := false, tag := "", pkgPath := "", byteOffset := 32 }] := by kernel_rfl
theorem held_place : Tryd.prog.stoodInHeld 35 = false := by kernel_rfl
theorem und_place : Tryd.prog.underlying 35 = some (.struct (Tryd.prog.fieldsOf 35)) := by kernel_rfl
theorem plV_dig (p : PlaceD) (h : p.tx.length = 32) : (plV p).extract 0 32 = dgV p.tx := by
  have hz : (dgV p.tx).size = 32 := by rw [dgV_size, h]
  apply Array.ext
  · simp [plV, hz]
  · intro i h1 h2
    simp only [Array.getElem_extract, Nat.zero_add, plV]
    rw [Array.getElem_append_left h2]
theorem run_part_tx (p : PlaceD) (h : p.tx.length = 32) (w : World) : (part 29 (plV p) 0).run Tryd.prog w = .ok (.agg (dgV p.tx)) w := by
  obtain ⟨h1, h2⟩ := run_isAgg (P := Tryd.prog) agg_digest w
  simp [part, Sem.run_bind, h1, h2, cells_digest, plV_dig p h]
theorem run_part_ix (p : PlaceD) (h : p.tx.length = 32) (w : World) : (part 3 (plV p) 32).run Tryd.prog w = .ok (.int .i64 p.ix) w := by
  have := plV_ix p h
  simp [part, isAgg, run_underlying Tryd.underlying3, this]
theorem eqFields_two {P : Program} (D : Nat) (xs ys : Array Value) (f0 f1 : Field) (n0 : f0.name ≠ "_") (n1 : f1.name ≠ "_") (a0 b0 a1 b1 : Value) (r0 r1 : Bool) (w : World)
    (pa0 : (part f0.type xs f0.offset).run P w = .ok a0 w) (pb0 : (part f0.type ys f0.offset).run P w = .ok b0 w) (e0 : (Op.equalIn D f0.type a0 b0).run P w = .ok r0 w)
    (pa1 : (part f1.type xs f1.offset).run P w = .ok a1 w) (pb1 : (part f1.type ys f1.offset).run P w = .ok b1 w) (e1 : (Op.equalIn D f1.type a1 b1).run P w = .ok r1 w) :
    (Op.eqFields D xs ys [f0, f1]).run P w = .ok (r0 && r1) w := by
  cases r0 <;> cases r1 <;> simp [Op.eqFields, n0, n1, Sem.run_bind, pa0, pb0, e0, pa1, pb1, e1]
theorem fields_place' : (Tryd.prog.fieldsOf 35).toList = [{ name := "Tx", type := 29, offset := 0, embedded := false, tag := "", pkgPath := "", byteOffset := 0 }, { name := "At", type := 3, offset := 32, embedded := false, tag := "", pkgPath := "", byteOffset := 32 }] := by rw [fields_place]
theorem run_eql_placeD (d : Nat) (p q : PlaceD) (hp : p.tx.length = 32) (hq : q.tx.length = 32) (w : World) : (Op.equalIn (d + 3) 35 (.agg (plV p)) (.agg (plV q))).run Tryd.prog w = .ok (plE p q) w := by
  have h1 := run_eqItems_digD d p.tx q.tx hp hq w
  have h2 : (Op.equalIn (d + 2) 3 (.int .i64 p.ix) (.int .i64 q.ix)).run Tryd.prog w = .ok (p.ix == q.ix) w := run_equalIn_int (P := Tryd.prog) w (d + 1) 3 .i64 .i64 p.ix q.ix Tryd.underlying3
  have h3 := eqFields_two (P := Tryd.prog) (d + 2) (plV p) (plV q) { name := "Tx", type := 29, offset := 0, embedded := false, tag := "", pkgPath := "", byteOffset := 0 } { name := "At", type := 3, offset := 32, embedded := false, tag := "", pkgPath := "", byteOffset := 32 } (by decide) (by decide) _ _ _ _ _ _ w
    (run_part_tx p hp w) (run_part_tx q hq w) h1 (run_part_ix p hp w) (run_part_ix q hq w) h2
  exact (run_equalIn_struct (P := Tryd.prog) w (d + 2) 35 (plV p) (plV q) und_place held_place).trans ((congrArg (fun l => (Op.eqFields (d + 2) (plV p) (plV q) l).run Tryd.prog w) fields_place').trans h3)
theorem run_eql_place (p q : PlaceD) (hp : p.tx.length = 32) (hq : q.tx.length = 32) (w : World) : (Op.equalIn 10000 35 (.agg (plV p)) (.agg (plV q))).run Tryd.prog w = .ok (plE p q) w :=
  run_eql_placeD 9997 p q hp hq w
/-- The first coin at a place. -/
def atF (p : PlaceD) : List CoinD → Nat → Int
  | [], _ => -1
  | c :: cs, j => if plE c.place p = true then (j : Int) else atF p cs (j + 1)
theorem atF_hit (p : PlaceD) (cs : List CoinD) (j : Nat) (hj : j < cs.length) (h : plE cs[j].place p = true) (k : Nat) : atF p (cs.drop j) k = k := by
  rw [List.drop_eq_getElem_cons hj, atF, if_pos h]
theorem atF_step (p : PlaceD) (cs : List CoinD) (j : Nat) (hj : j < cs.length) (h : plE cs[j].place p = false) (k : Nat) : atF p (cs.drop j) k = atF p (cs.drop (j + 1)) (k + 1) := by
  rw [List.drop_eq_getElem_cons hj, atF, if_neg (by rw [h]; decide)]
set_option maxHeartbeats 2000000 in
set_option maxRecDepth 100000 in
theorem coinAt_any (cs : List CoinD) (ao : Option Addr) (cap : Nat) (p : PlaceD) (hp : p.tx.length = 32) (w : World) (h : rdSl coinR 36 w (.slice ao cs.length cap) cs) :
    Calls Tryd.prog 22 #[.slice ao cs.length cap, .agg (plV p)] w fun e w' => e = .returned (.int .i64 (atF p cs 0)) ∧ Below w.heap.size w w' := by
  obtain ⟨_, _, e, hcap, hmax⟩ := sl_bounds h
  cases e
  unfold maxLen at hmax
  have HS := Lib.hid h; clear h
  have hsp : (plV p).size = 33 := plV_size p hp
  have hpp := plV_plain p
  have hb0 : Hid (Below w.heap.size w (w.alloc (.cells (plV p) 35))) := (Below.refl _ _).alloc (Nat.le_refl _) _
  have hr0 : Hid (rowAt (w.alloc (.cells (plV p) 35)) w.heap.size 0 33 = some (plV p)) := rowAt_whole (heap_alloc_new w (.cells (plV p) 35)) 33 hsp.symm
  have HW := Lib.hid (rowAt_lt hr0.out)
  go_enter Tryd.func22, Tryd.ntmps22
  go_wp2_with fail
  change Code.wp _ _ _ _ (w.alloc (.cells (plV p) 35))
  generalize w.alloc (.cells (plV p) 35) = wa at hb0 hr0 HW ⊢
  go_loopw [5] (fun c wr => ∃ j : Nat, j ≤ cs.length ∧ c = .int .i64 j ∧ Hid (Below w.heap.size w wr) ∧ Hid (rowAt wr w.heap.size 0 33 = some (plV p)) ∧ Hid (atF p cs 0 = atF p (cs.drop j) j)) (fun c _ => cs.length - (intOf c).toNat)
  case atStart => exact ⟨0, by omega, rfl, hb0, hr0, Lib.hid rfl⟩
  case round =>
    obtain ⟨j, hj, rfl, HB, HR, HF⟩ := hrel
    by_cases hlt : j < cs.length
    · obtain ⟨g, off, so, scap, rfl, -, h32, d1, d2, hlock, hrow⟩ := coin_at (coinR_stays.slB HS.out HB.out (Nat.le_refl _)) j hlt
      have hpl : rowAt wr g (off + j * 36) 33 = some (plV cs[j].place) := by
        have := rowAt_part hrow 0 33 (by omega)
        rw [Nat.add_zero, Nat.zero_add, coinV_place _ _ h32] at this
        exact this
      have HH := Lib.hid (atF_hit p cs j hlt); have HT := Lib.hid (atF_step p cs j hlt)
      obtain ⟨q, hq⟩ : ∃ q, cs[j].place = q := ⟨_, rfl⟩
      have hq32 : q.tx.length = 32 := by rw [← hq]; exact h32
      rw [hq] at hpl HH HT
      have hr2 := HR.out
      have he := run_eql_place q p hq32 hp
      obtain ⟨b, hb⟩ : ∃ b, plE q p = b := ⟨_, rfl⟩
      rw [hb] at he HH HT
      clear hlock hrow d1 d2 hq hb h32
      cases b
      · have HF2 := Lib.hid (HF.out.trans (HT.out rfl j))
        go_wp2_with fail
        go_region
        all_goals
          go_wp2
          go_roundw
          case rel => exact ⟨j + 1, by omega, by go_num, Lib.hid HB.out.drew, HR, HF2⟩
          case measure => simp [intOf]; omega
      · have HF2 := Lib.hid (HF.out.trans (HH.out rfl j))
        go_wp2_with fail
        go_region
        all_goals
          go_wp2
          go_ret
          exact ⟨by rw [HF2.out]; rfl, HB.out.drew⟩
    · have hz : atF p cs 0 = -1 := by rw [HF.out, List.drop_eq_nil_of_le (by omega)]; rfl
      have HZ := Lib.hid hz
      clear hz
      go_wp2
      go_ret
      exact ⟨by rw [HZ.out]; rfl, HB.out⟩
end Go.Proofs.YtljcdkfafknnpaaDoor
