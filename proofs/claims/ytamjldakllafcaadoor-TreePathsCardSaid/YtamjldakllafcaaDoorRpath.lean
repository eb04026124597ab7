/- The walk of the reference's Path. Conditions: none beyond each theorem's own. -/
import Derived.Test.YtamjldakllafcaaDoorRroot
import Derived.Test.YtamjldakllafcaaDoorFold
import Derived.Deep.RegionLaw
namespace Go.Proofs.YtamjldakllafcaaDoor
set_option linter.unusedVariables false
set_option linter.unusedSimpArgs false
open Go.RowKit

def b1Is : Op → Bool | .buildSlice t n els => t == 22 && n == 1 && els.size == 1 && (els.getD 0 (1, .const undef)).1 == 0 | _ => false
def b1X : Op → Operand | .buildSlice _ _ els => (els.getD 0 (1, .const undef)).2 | _ => .const undef
theorem run_build1_any (ev : Operand → Value) (w : World) (o : Oper) (h0 : b1Is o.op = true) (hx : isAggV (ev (b1X o.op)) = true) (hsx : (aggCells (ev (b1X o.op))).size = 32) :
    (execOp ev o).run Tryd.prog w = .ok (.value (.slice (some ⟨w.heap.size, 0, none⟩) 1 1)) (w.alloc (.cells (aggCells (ev (b1X o.op))) 25)) := by
  obtain ⟨dst, op, type, pos, after, guard⟩ := o
  cases op with
  | buildSlice t n els =>
    simp only [b1Is, Bool.and_eq_true, beq_iff_eq] at h0
    obtain ⟨⟨⟨rfl, rfl⟩, h1⟩, h2⟩ := h0
    obtain ⟨l⟩ := els
    match l, h1 with
    | [⟨k, x⟩], _ =>
      obtain rfl : k = 0 := h2
      exact run_build_one ev w dst x type pos after guard hx hsx
  | _ => exact absurd h0 Bool.false_ne_true
attribute [local go_sem] b1Is b1X
attribute [local go_sem ↓] run_load_agg run_store_agg run_build_two run_build_one run_build1_any
/-- APPEND of what reads as a slice, as one step of a region that draws. -/
theorem step_append_rd {P : Program} {ops : Array Oper} {o : Oper} {a : Act} {w : World} {K : Act → World → Prop} {Q : Exit → Act → World → Prop} {E : Prop} (hgd : o.guard = none) (s x : Operand) (t : TypeId)
    (ho : o.op = .call { callee := .builtin .append, args := #[s, x], argTypes := #[t, t] })
    (e : TypeId) (i : TypeInfo) (z : Value) (sz bytes : Nat) (ht : P.underlying t = some (.slice e)) (hi : P.info? e = some i) (hz : i.zero = some z)
    (hsz : i.size = sz) (hby : i.bytes = bytes) (hzs : z.cells.size = sz) (h0 : 0 < sz)
    (base n : Nat) (xs : List Value) (v : Value) (hs : a.eval s = v) (hown : own w base e sz v n xs)
    (m : Nat) (news : List Value) (hl : news.length = m * sz) (u : Value) (hu : a.eval x = u) (hx : rd w u m news) (h1 : ∀ u ∈ news, u.oneCell' = true)
    (h63 : n + m ≤ maxLen) (hbytes : (n + m) * bytes ≤ 140737488355328) (hbase : base ≤ w.heap.size)
    (h : ∀ v' w', own w' base e sz v' (n + m) (xs ++ news) → w.grownBy w' (wrow v) → K (a.put o.dst v') w') :
    if Region.wanted o (yielded ops a.tmps) = true then Oper.wp P o a w K Q else E := by
  have hw : Region.wanted o (yielded ops a.tmps) = true := by simp [Region.wanted, hgd]
  rw [if_pos hw]
  obtain ⟨v', w', hrun, r1, r2, r3⟩ := run_append_rd (P := P) w base t o.type e i z sz bytes ht hi hz hsz hby hzs h0 v n xs hown u m news hl hx h1 h63 hbytes hbase
  unfold Oper.wp
  simp [execOp, ho, resolve, invoke, builtin, hs, hu, hrun, Result.andThen]
  exact h v' w' r1 r3
theorem own_snoc_dig {w : World} {base : Nat} {v : Value} {k : Nat} {acc : List (List UInt8)} {X : List UInt8} (h : own w base 25 32 v k (acc.flatten.map vB ++ X.map vB)) : own w base 25 32 v k ((acc ++ [X]).flatten.map vB) := by
  have e : (acc ++ [X]).flatten.map vB = acc.flatten.map vB ++ X.map vB := by simp
  rw [e]; exact h
set_option maxHeartbeats 2000000 in
set_option maxRecDepth 100000 in
theorem rpath_any : ∀ (N : Nat) (ls : List (List UInt8)) (h32 : ∀ d ∈ ls, d.length = 32) (v : Value) (n i : Nat) (w : World), n ≤ N → rd w v n (ls.flatten.map vB) → ls.length = n → n ≤ 256 → i < n → tabAt w →
    Calls Tryd.prog 34 #[v, .int .i64 i] w fun e w' => ∃ p k, e = .returned p ∧ own w' w.heap.size 25 32 p k ((downM ls i).reverse.flatten.map vB) ∧ k = (downM ls i).length ∧ Below w.heap.size w w' := by
  intro N
  induction N with
  | zero => intro ls h32 v n i w hN hb hl hn hi; omega
  | succ N ih =>
    intro ls h32 v n i w hN hb hl hn hi hT
    have hg := rowAt_lt hT
    have hb' := hb
    obtain ⟨ao, cap, rfl, k1, k2, -⟩ := hb'
    unfold maxLen at k2
    have HT := Lib.hid hT; have HB := Lib.hid hb; clear hb hT
    by_cases h2 : 2 ≤ n
    · obtain ⟨hh1, hh2, -⟩ := halfM_bounds n h2 hn
      obtain ⟨g, off, rfl, -⟩ := rd_digest h32 hl HB.out (by omega)
      have hhalf := rhalf_any n h2 hn
      have hn1 : ((n : Int) == 1) = false := beq_false_of_ne (by omega)
      obtain ⟨k, hk⟩ : ∃ k, halfM n = k := ⟨_, rfl⟩
      rw [hk] at hh1 hh2 hhalf
      have HH := Lib.hid hhalf; have HK := Lib.hid hk; clear hhalf hk
      have hs1 : ∀ w, (Instr.sliceAt 22 (.slice (some ⟨g, off, none⟩) n cap) none (some (.int .i64 k)) none).run Tryd.prog w = .ok (.slice (some ⟨g, off, none⟩) k cap) w := fun w => run_slice_to _ _ 32 Tryd.underlying22 size_dig g off n cap k (by omega) k1 w
      have hs2 : ∀ w, (Instr.sliceAt 22 (.slice (some ⟨g, off, none⟩) n cap) (some (.int .i64 k)) none none).run Tryd.prog w = .ok (.slice (if cap = k then some ⟨g, off, none⟩ else (some ⟨g, off, none⟩ : Option Addr).map (·.add (k * 32))) (n - k) (cap - k)) w := fun w => run_slice_from' _ _ 32 Tryd.underlying22 size_dig _ n cap k (by omega) w
      have r1 := Lib.hid (rd_take HB.out k (32 * k) (by omega))
      have r2 := rd_drop HB.out (sz := 32) (by rw [List.length_map, flat_length ls h32, hl]; omega) k (by omega)
      generalize (if cap = k then some ⟨g, off, none⟩ else (some ⟨g, off, none⟩ : Option Addr).map (·.add (k * 32))) = a2 at hs2 r2
      have R2 := Lib.hid r2; clear r2
      have hl1 : (ls.take k).length = k := by simp; omega
      have hl2 : (ls.drop k).length = n - k := by simp; omega
      have m1 : ∀ d ∈ ls.take k, d.length = 32 := fun d hd => h32 d (List.mem_of_mem_take hd)
      have m2 : ∀ d ∈ ls.drop k, d.length = 32 := fun d hd => h32 d (List.mem_of_mem_drop hd)
      rw [← List.map_take, ← flat_take ls h32] at r1
      rw [Nat.mul_comm, ← List.map_drop, ← flat_drop ls h32] at R2
      obtain ⟨i0, hi0, hz0, hz1, hz2⟩ := info_parts' info_dig
      have HL1 := Lib.hid hl1; have HL2 := Lib.hid hl2
      by_cases hik : i < k
      · have hdn : (downM ls i).reverse = (downM (ls.take k) i).reverse ++ [rootM (ls.drop k)] := by
          have e := downM_left ls i (by omega) (by omega) (by rw [hl, HK.out]; exact hik)
          rw [hl, HK.out] at e
          rw [e, List.reverse_cons]
        have hdl : (downM ls i).length = (downM (ls.take k) i).length + 1 := by
          have := congrArg List.length hdn; simpa using this
        have hlen : (downM (ls.take k) i).length + 1 ≤ k := by
          rw [downM_length k _ _ (by omega) (by omega), hl1]; exact sidesM_bound k i k (Nat.le_refl _) (by omega)
        have hXl := rootM_length (ls.drop k) m2
        obtain ⟨X, hX⟩ : ∃ X, rootM (ls.drop k) = X := ⟨_, rfl⟩
        rw [hX] at hdn hXl
        have HX := Lib.hid hX; have HDN := Lib.hid hdn; have HDL := Lib.hid hdl
        obtain ⟨q, hq⟩ : ∃ q, (downM (ls.take k) i).length = q := ⟨_, rfl⟩
        rw [hq] at hlen
        have HQ := Lib.hid hq
        have hsX : (dgV X).size = 32 := by rw [dgV_size, hXl]
        have HC := Lib.hid (ih (ls.take k) m1 (.slice (some ⟨g, off, none⟩) k cap) k i w.drew (by omega) r1.out HL1.out (by omega) hik HT.out)
        clear hX hdn hdl hq hl1 hl2
        go_enter Tryd.func34, Tryd.ntmps34
        go_wp2_with fail
        refine (HH.out w).mono ?_
        rintro e w' ⟨rfl, rfl⟩
        go_wp2_with fail
        go_region_law (first
          | (go_simp; first
             | (go_at_call 34
                with_reducible refine Calls.mono HC.out ?_
                rintro e w2 ⟨p1, q1, rfl, ho2, hq2, hb2⟩
                rw [HQ.out] at hq2
                subst hq2
                have B2 := Lib.hid ((Below.refl w'.heap.size w').drew.trans hb2)
                have HO2 : Hid (own w2 w'.heap.size 25 32 p1 q1 ((downM (ls.take k) i).reverse.flatten.map vB)) := ho2
                clear ho2 hb2)
             | (go_at_call 30
                refine (rroot_any (n - k) (ls.drop k) m2 _ (n - k) _ (Nat.le_refl _) (rd_belowB R2.out B2.out (Nat.le_refl _)) HL2.out (by omega) ((rowAt_below B2.out hg 0 64).trans HT.out)).mono ?_
                rintro e w3 ⟨rfl, hb3⟩
                rw [HX.out]
                have B3 := Lib.hid (B2.out.trans (hb3.mono B2.out.size))
                have HO3 := Lib.hid (own_below hb3 HO2.out (Nat.le_refl _))
                have B4 := Lib.hid (B3.out.alloc B3.out.size (.cells (dgV X) 25))
                have HO4 := Lib.hid (own_alloc HO3.out (.cells (dgV X) 25))
                have HN4 := Lib.hid (rd_new_dig w3 X hXl _ rfl)
                clear hb3))
          | (refine step_append_rd rfl (.tmp 19) (.tmp 24) 22 rfl 25 i0 (.agg zD) 32 32 Tryd.underlying22 hi0 hz0 hz1 hz2 zD_size (by decide) w'.heap.size q1 _ p1 ?_ HO4.out 1 (X.map vB) ?_ (.slice (some ⟨w3.heap.size, 0, none⟩) 1 1) ?_ HN4.out (vB_plain _) ?_ ?_ B4.out.size ?_
             · simp [Act.eval, Act.put]
             · simp [hXl]
             · simp [Act.eval, Act.put]
             · unfold maxLen; omega
             · omega
             intro v5 w5 ho5 hg5
             have HO5 := Lib.hid ho5
             have B5 := Lib.hid (B4.out.grown hg5 B4.out.size (fun q hq => (own_lt HO4.out hq).1))
             clear ho5 hg5))
        go_wp2
        go_ret
        exact ⟨_, _, rfl, by rw [HDN.out]; exact own_snoc_dig HO5.out, by rw [HDL.out, HQ.out], B5.out⟩
      · have hdn : (downM ls i).reverse = (downM (ls.drop k) (i - k)).reverse ++ [rootM (ls.take k)] := by
          have e := downM_right ls i (by omega) (by omega) (by rw [hl, HK.out]; exact hik)
          rw [hl, HK.out] at e
          rw [e, List.reverse_cons]
        have hdl : (downM ls i).length = (downM (ls.drop k) (i - k)).length + 1 := by
          have := congrArg List.length hdn; simpa using this
        have hlen : (downM (ls.drop k) (i - k)).length + 1 ≤ n - k := by
          rw [downM_length (n - k) _ _ (by omega) (by omega), hl2]; exact sidesM_bound (n - k) (i - k) (n - k) (Nat.le_refl _) (by omega)
        have hXl := rootM_length (ls.take k) m1
        obtain ⟨X, hX⟩ : ∃ X, rootM (ls.take k) = X := ⟨_, rfl⟩
        rw [hX] at hdn hXl
        have HX := Lib.hid hX; have HDN := Lib.hid hdn; have HDL := Lib.hid hdl
        obtain ⟨q, hq⟩ : ∃ q, (downM (ls.drop k) (i - k)).length = q := ⟨_, rfl⟩
        rw [hq] at hlen
        have HQ := Lib.hid hq
        have hsX : (dgV X).size = 32 := by rw [dgV_size, hXl]
        have hC := ih (ls.drop k) m2 (.slice a2 (n - k) (cap - k)) (n - k) (i - k) w.drew (by omega) R2.out HL2.out (by omega) (by omega) HT.out
        rw [show ((i - k : Nat) : Int) = IntKind.i64.wrap ((i : Int) - (k : Int)) from by rw [IntKind.wrap_i64]; omega] at hC
        have HC := Lib.hid hC
        clear hX hdn hdl hq hl1 hl2 hC
        go_enter Tryd.func34, Tryd.ntmps34
        go_wp2_with fail
        refine (HH.out w).mono ?_
        rintro e w' ⟨rfl, rfl⟩
        go_wp2_with fail
        go_region_law (first
          | (go_simp; first
             | (go_at_call 34
                with_reducible refine Calls.mono HC.out ?_
                rintro e w2 ⟨p1, q1, rfl, ho2, hq2, hb2⟩
                rw [HQ.out] at hq2
                subst hq2
                have B2 := Lib.hid ((Below.refl w'.heap.size w').drew.trans hb2)
                have HO2 : Hid (own w2 w'.heap.size 25 32 p1 q1 ((downM (ls.drop k) (i - k)).reverse.flatten.map vB)) := ho2
                clear ho2 hb2)
             | (go_at_call 30
                refine (rroot_any k (ls.take k) m1 _ k _ (Nat.le_refl _) (rd_belowB r1.out B2.out (Nat.le_refl _)) HL1.out (by omega) ((rowAt_below B2.out hg 0 64).trans HT.out)).mono ?_
                rintro e w3 ⟨rfl, hb3⟩
                rw [HX.out]
                have B3 := Lib.hid (B2.out.trans (hb3.mono B2.out.size))
                have HO3 := Lib.hid (own_below hb3 HO2.out (Nat.le_refl _))
                have B4 := Lib.hid (B3.out.alloc B3.out.size (.cells (dgV X) 25))
                have HO4 := Lib.hid (own_alloc HO3.out (.cells (dgV X) 25))
                have HN4 := Lib.hid (rd_new_dig w3 X hXl _ rfl)
                clear hb3))
          | (refine step_append_rd rfl (.tmp 32) (.tmp 37) 22 rfl 25 i0 (.agg zD) 32 32 Tryd.underlying22 hi0 hz0 hz1 hz2 zD_size (by decide) w'.heap.size q1 _ p1 ?_ HO4.out 1 (X.map vB) ?_ (.slice (some ⟨w3.heap.size, 0, none⟩) 1 1) ?_ HN4.out (vB_plain _) ?_ ?_ B4.out.size ?_
             · simp [Act.eval, Act.put]
             · simp [hXl]
             · simp [Act.eval, Act.put]
             · unfold maxLen; omega
             · omega
             intro v5 w5 ho5 hg5
             have HO5 := Lib.hid ho5
             have B5 := Lib.hid (B4.out.grown hg5 B4.out.size (fun q hq => (own_lt HO4.out hq).1))
             clear ho5 hg5))
        go_wp2
        go_ret
        exact ⟨_, _, rfl, by rw [HDN.out]; exact own_snoc_dig HO5.out, by rw [HDL.out, HQ.out], B5.out⟩
    · obtain rfl : n = 1 := by omega
      have hd : downM ls i = [] := downM_one ls i (by omega)
      have HD := Lib.hid hd; clear hd
      go_enter Tryd.func34, Tryd.ntmps34
      go_wp2
      go_ret
      exact ⟨_, _, rfl, by rw [HD.out]; exact own_nil _ _ _ _, by rw [HD.out]; rfl, Below.refl _ _⟩
end Go.Proofs.YtamjldakllafcaaDoor
