/- Merged: Hdo. Conditions: none beyond each theorem's own. -/
import Derived.Test.YtljcdkfafknnpaaGreatDoorDgat
namespace Go.Proofs.YtljcdkfafknnpaaGreatDoor
set_option linter.unusedVariables false
set_option linter.unusedSimpArgs false
open Go.RowKit
def hdA (p r : Array Value) : Array Value := p ++ r ++ #[.int .i64 0, .int .i64 0, .int .i64 0, .int .i64 0]
theorem built_hdA (p r : Array Value) (hd : p.size = 32) (hr : r.size = 32) : Tryz.prog.built 25 [(0, .agg p), (1, .agg r)] = some (hdA p r) := by
  show _ = some (p ++ r ++ #[.int .i64 0, .int .i64 0, .int .i64 0, .int .i64 0])
  have hz : zHd.size = 68 := rfl
  have hl1 : p.toList.length = 32 := by rw [Array.length_toList, hd]
  rw [built_hd, fill_step _ _ 0 (.agg p) 0 32 _ rfl (by simpa [Value.cells] using hd) (by omega), fill_step _ _ 1 (.agg r) 32 32 _ rfl (by simpa [Value.cells] using hr) (by simp [Value.cells, hd, hz])]
  simp only [Instr.fill, List.take_zero, List.nil_append, Value.cells]
  congr 1
  apply Array.ext'
  simp only [List.toList_toArray, Array.toList_append]
  have e1 : zHd.toList.drop 32 = List.replicate 32 (Value.int .u8 0) ++ [.int .i64 0, .int .i64 0, .int .i64 0, .int .i64 0] := by rfl
  rw [Nat.zero_add, e1, List.take_left' hl1, List.drop_append, List.drop_eq_nil_of_le (show p.toList.length ≤ 32 + 32 by omega), hl1]
  rfl
theorem exec_build_hd2 (ev : Operand → Value) (w : World) (dst : Option Tmp) (x y : Operand) (type : TypeId) (pos : String) (after : Array Edge) (guard : Option (Nat × Bool)) (hx : isAggV (ev x) = true) (hsx : (aggCells (ev x)).size = 32) (hy : isAggV (ev y) = true) (hsy : (aggCells (ev y)).size = 32) :
    (execOp ev ⟨dst, .build 25 #[(0, x), (1, y)], type, pos, after, guard⟩).run Tryz.prog w = .ok (.value (.agg (hdA (aggCells (ev x)) (aggCells (ev y))))) w := by
  unfold isAggV at hx hy
  split at hx
  · rename_i d hd
    split at hy
    · rename_i r hr
      rw [hd] at hsx ⊢
      rw [hr] at hsy ⊢
      simp only [aggCells] at hsx hsy ⊢
      have := run_build (P := Tryz.prog) w 25 #[(0, .agg d), (1, .agg r)] _ (built_hdA d r hsx hsy)
      simp only [execOp, List.map_toArray, List.map_cons, List.map_nil, hd, hr, Sem.run_bind, this]
      rfl
    · cases hy
  · cases hx
theorem hd_append (h : HeadD) (k : HdOk h) : hdV h = dgV h.prev ++ dgV h.root ++ #[.int .i64 h.height, .int .i64 h.time, .int .i64 h.bits, .int .i64 h.nonce] := rfl
theorem hd_front (h : HeadD) (k : HdOk h) : (dgV h.prev ++ dgV h.root).size = 64 := by simp [dgV_size, k.p, k.r]
theorem set_right (a b : Array Value) (i j : Nat) (v : Value) (h : i = a.size + j) : (a ++ b).setIfInBounds i v = a ++ b.setIfInBounds j v := by
  apply Array.ext'
  rw [Array.toList_setIfInBounds, Array.toList_append, Array.toList_append, Array.toList_setIfInBounds, List.set_append_right _ _ (by rw [Array.length_toList]; omega), Array.length_toList, h, Nat.add_sub_cancel_left]
theorem hd_set0 (p r : List UInt8) (a b c d x : Int) (k : HdOk ⟨p, r, a, b, c, d⟩) : (hdV ⟨p, r, a, b, c, d⟩).setIfInBounds 64 (.int .i64 x) = hdV ⟨p, r, x, b, c, d⟩ := by
  unfold hdV; rw [set_right _ _ 64 0 _ (by rw [hd_front _ k])]; rfl
theorem hd_set1 (p r : List UInt8) (a b c d x : Int) (k : HdOk ⟨p, r, a, b, c, d⟩) : (hdV ⟨p, r, a, b, c, d⟩).setIfInBounds 65 (.int .i64 x) = hdV ⟨p, r, a, x, c, d⟩ := by
  unfold hdV; rw [set_right _ _ 65 1 _ (by rw [hd_front _ k])]; rfl
theorem hd_set2 (p r : List UInt8) (a b c d x : Int) (k : HdOk ⟨p, r, a, b, c, d⟩) : (hdV ⟨p, r, a, b, c, d⟩).setIfInBounds 66 (.int .i64 x) = hdV ⟨p, r, a, b, x, d⟩ := by
  unfold hdV; rw [set_right _ _ 66 2 _ (by rw [hd_front _ k])]; rfl
theorem hd_set3 (p r : List UInt8) (a b c d x : Int) (k : HdOk ⟨p, r, a, b, c, d⟩) : (hdV ⟨p, r, a, b, c, d⟩).setIfInBounds 67 (.int .i64 x) = hdV ⟨p, r, a, b, c, x⟩ := by
  unfold hdV; rw [set_right _ _ 67 3 _ (by rw [hd_front _ k])]; rfl
theorem hd_ok (p r : List UInt8) (a b c d x y z t : Int) (k : HdOk ⟨p, r, a, b, c, d⟩) : HdOk ⟨p, r, x, y, z, t⟩ := ⟨k.p, k.r⟩
/-- What the walk asks where a result of SizeAt is laid into a new box. -/
theorem new_got (w : World) (g : GotD) : (rowAt (w.alloc (.cells zGot 82)) w.heap.size 0 3).isSome = true ∧ wrAt (w.alloc (.cells zGot 82)) w.heap.size = true ∧ plainCells (gotA g) = true ∧ (gotA g).size = 3 :=
  ⟨by rw [rowAt_whole (heap_alloc_new w _) 3 rfl]; rfl, wrAt_of_heap (heap_alloc_new w _), rfl, rfl⟩
theorem keptTail {w w1 : World} {b : BoxD} {bs : List BoxD} (h : Kept w (b :: bs) w1) : Kept w bs w1 := ⟨h.below, fun x hx => h.at_ x (List.mem_cons_of_mem _ hx)⟩
theorem kept_grown {w0 w w' : World} {bs : List BoxD} {v : Value} {n sz : Nat} {e : TypeId} {xs : List Value} (k : Kept w0 bs w) (ho : own w w0.heap.size e sz v n xs) (ht : ∀ b ∈ bs, e ≠ b.2.2) (hg : w.grownBy w' (wrow v)) : Kept w0 bs w' :=
  ⟨k.below.grown hg k.below.size (fun q hq => (own_lt ho hq).1), fun b hb => (hg.block b.1 (Array.getElem?_eq_some_iff.1 (k.at_ b hb)).1 (fun e' => own_ne ho (k.at_ b hb) (ht b hb) e'.symm)).trans (k.at_ b hb)⟩
/-- Numbers as they lie. -/
def nV (ns : List Nat) : List Value := ns.map fun (n : Nat) => .int .i64 (n : Int)
theorem nV_snoc (ns : List Nat) (n : Nat) : nV (ns ++ [n]) = nV ns ++ [.int .i64 (n : Int)] := by simp [nV]
theorem own_cells {w : World} {base : Nat} {e : TypeId} {v : Value} {n : Nat} {xs : List Value} (h : own w base e 1 v n xs) (hn : 0 < n) : ∃ g off cap, v = .slice (some ⟨g, off, none⟩) n cap ∧ n ≤ cap ∧ (∃ c, w.heap[g]? = some (.cells c e (0, 0))) ∧ ∀ j u, xs[j]? = some u → w.cell? ⟨g, off + j, none⟩ = some u := by
  have hr := own_rd h
  obtain ⟨hl, ao, cap, rfl, h1, h2, h3⟩ := h
  obtain ⟨ao', cap', e1, k1, k2, k3⟩ := hr
  cases e1
  rcases h3 with h3 | ⟨g, off, cur, rfl, hb, hg, r⟩
  · omega
  rcases k3 with k3 | ⟨g', off', e2, k3⟩
  · subst k3; simp at hl; omega
  · cases e2
    exact ⟨g, off, cap, rfl, h1, ⟨cur, hg⟩, k3⟩
theorem own_at {w : World} {base : Nat} {e : TypeId} {g off cap : Nat} {n : Nat} {xs : List Value} (h : own w base e 1 (.slice (some ⟨g, off, none⟩) n cap) n xs) (hn : 0 < n) : ∀ j u, xs[j]? = some u → w.cell? ⟨g, off + j, none⟩ = some u := by
  obtain ⟨g', off', cap', e1, -, -, g3⟩ := own_cells h hn
  simp only [Value.slice.injEq, Option.some.injEq, Addr.mk.injEq] at e1
  obtain ⟨⟨h1, h2, -⟩, -, -⟩ := e1
  rw [h1, h2]
  exact g3
attribute [local go_sem ↓] run_load_agg run_store_agg run_load_any exec_build_hd0 exec_build_hd2
set_option maxHeartbeats 8000000 in
set_option maxRecDepth 100000 in
theorem headOf_any (b : List UInt8) (n : Nat) (ao : Option Addr) (cap : Nat) (w : World) (h : rd w (.slice ao n cap) n (b.map vB)) (hl : b.length = n) (hn : n ≤ 140737488351232) :
    Calls Tryz.prog 15 #[.slice ao n cap] w fun e w' => e = .returned (.tuple #[.agg (hdV ((headM b).getD hZero)), .bool (headM b).isSome]) ∧ Below w.heap.size w w' := by
  have h' := h
  obtain ⟨ao', cap', e0, k1, -, -⟩ := h'
  cases e0
  have HH := Lib.hid h
  have HL := Lib.hid hl
  have k0 := (Kept.refl w).alloc zHd 25
  have K0 := Lib.hid k0
  obtain ⟨i0, hi0, hz0, hz1, hz2⟩ := info_parts' info_int
  have I0 := Lib.hid hi0; have I1 := Lib.hid hz0; have I2 := Lib.hid hz1; have I3 := Lib.hid hz2
  clear h k0 hi0 hz0 hz1 hz2
  go_enter Tryz.func15, Tryz.ntmps15
  go_upto_region 1 with fail
  change Code.wp _ _ _ _ (w.alloc (.cells zHd 25))
  obtain ⟨R, hR⟩ : ∃ R, w.heap.size = R := ⟨_, rfl⟩
  have HRG : Hid (w.heap.size ≤ R) := Lib.hid (by omega)
  have HRE : Hid (w.heap.size = R) := Lib.hid hR
  rw [hR] at K0 ⊢
  clear hR
  obtain ⟨w0, hw0⟩ : ∃ w0, w.alloc (.cells zHd 25) = w0 := ⟨_, rfl⟩
  rw [hw0] at K0 ⊢
  clear hw0
  by_cases h64 : n < 64
  · have HE : Hid (headM b = none) := Lib.hid (by unfold headM; rw [if_pos (by omega)])
    clear hl
    have s1 : (rowAt w0 R 0 68).isSome = true := by rw [K0.out.row 0 _ 68 rfl rfl]; rfl
    have s2 : wrAt w0 R = true := wrAt_of_heap (K0.out.get 0 _ rfl)
    have s3 : plainCells zHd = true := rfl
    have s4 : zHd.size = 68 := rfl
    go_wp2
    refine bodyPost_ret (v := .tuple #[.agg zHd, .bool false]) (results_cell_tmp_at rfl _ _ R 0 _ _ rfl rfl agg_head ?_) rfl ⟨?_, ?_⟩
    · rw [cells_head]; exact rowAt_put_same (K0.out.get 0 _ rfl) zHd rfl 68 rfl
    · rw [HE.out, zHd_eq]; rfl
    · exact putAt_below K0.out.below HRG.out _ _
  have HM : Hid (headM b = headAt b 0 64 []) := Lib.hid (by unfold headM; rw [if_neg (by omega)])
  have HR0 : Hid (ReadOk b 64 []) := Lib.hid (readOk_0 (by omega))
  have HOK : Hid (∀ ns, HdOk (mkHd b ns)) := Lib.hid (mkHd_ok (by omega))
  go_wp2_with fail
  refine Calls.mono (digestAt_any b n ao cap 0 w0 (rd_below HH.out K0.out.below) HL.out (by omega) hn) ?_
  rintro e w1 ⟨rfl, hb⟩
  have K1 := Lib.hid (K0.out.on hb)
  clear hb K0
  go_wp2_with fail
  refine Calls.mono (digestAt_any b n ao cap 32 w1 (rd_below HH.out K1.out.below) HL.out (by omega) hn) ?_
  rintro e w2 ⟨rfl, hb⟩
  have K2 := Lib.hid (K1.out.on hb)
  clear hb K1
  obtain ⟨p, hp⟩ : ∃ p, b.take 32 = p := ⟨_, rfl⟩
  obtain ⟨r, hr⟩ : ∃ r, (b.drop 32).take 32 = r := ⟨_, rfl⟩
  have HMK : Hid (∀ a b' c d : Nat, mkHd b [a, b', c, d] = ⟨p, r, a, b', c, d⟩) := Lib.hid (fun a b' c d => by unfold mkHd; rw [hp, hr]; rfl)
  have okz : HdOk ⟨p, r, 0, 0, 0, 0⟩ := ⟨by rw [← hp, List.length_take]; omega, by rw [← hr, List.length_take, List.length_drop]; omega⟩
  rw [hp, hr]
  clear hp hr
  have OKZ := Lib.hid okz
  obtain ⟨n1, n2, n3, n4⟩ := new_hd w2 ⟨p, r, 0, 0, 0, 0⟩ okz
  have p1 : (dgV p).size = 32 := by rw [dgV_size, okz.p]
  have p2 : (dgV r).size = 32 := by rw [dgV_size, okz.r]
  have hE : hdA (dgV p) (dgV r) = hdV ⟨p, r, 0, 0, 0, 0⟩ := rfl
  have k3 := K2.out.alloc (hdV ⟨p, r, 0, 0, 0, 0⟩) 25
  have HNE : Hid (R ≠ w2.heap.size) := Lib.hid (by have := (Array.getElem?_eq_some_iff.1 (K2.out.get 0 _ rfl)).1; simp at this; omega)
  have HHG : Hid (w.heap.size ≤ w2.heap.size) := Lib.hid K2.out.below.size
  have K3 := Lib.hid k3
  unfold zHd at n1 n2
  clear k3 okz K2
  go_upto_region 7 with fail
  clear n1 n2 n3 n4 p1 p2 hE
  change Code.wp _ _ _ _ (w2.alloc (.cells (hdV ⟨p, r, 0, 0, 0, 0⟩) 25))
  obtain ⟨H, hH⟩ : ∃ H, w2.heap.size = H := ⟨_, rfl⟩
  rw [hH] at K3 HNE HHG ⊢
  clear hH
  obtain ⟨w3, hw3⟩ : ∃ w3, w2.alloc (.cells (hdV ⟨p, r, 0, 0, 0, 0⟩) 25) = w3 := ⟨_, rfl⟩
  rw [hw3] at K3 ⊢
  clear hw3
  go_loopw [5, 6, 7] (fun s v c wr => ∃ (k ix : Nat) (ns : List Nat), k ≤ 4 ∧ c = .int .i64 k ∧ s = .int .i64 ix ∧ Hid (own wr w.heap.size 3 1 v k (nV ns)) ∧ Hid (ns.length = k) ∧ Hid (headM b = headAt b k ix ns) ∧ Hid (ReadOk b ix ns) ∧ Hid (Kept w [(H, hdV ⟨p, r, 0, 0, 0, 0⟩, 25), (R, zHd, 25)] wr)) (fun _ _ c _ => 4 - (intOf c).toNat)
  case atStart => exact ⟨0, 64, [], by omega, rfl, rfl, Lib.hid (own_nil _ _ _ _), Lib.hid rfl, HM, HR0, K3⟩
  case round =>
    obtain ⟨k, ix, ns, hk, rfl, rfl, HO, HNL, HMK2, HRO, HK⟩ := hrel
    have ho' := HO.out
    obtain ⟨-, oo, ocap, rfl, o1, o2, -⟩ := ho'
    unfold maxLen at o2
    have hix : ix ≤ n := by have := HRO.out.2.1; omega
    by_cases hlt : k < 4
    · go_wp2_with fail
      refine Calls.mono (sizeAt_any b n ao cap ix wr (rd_below HH.out HK.out.below) HL.out hix hn) ?_
      rintro e w4 ⟨rfl, hb⟩
      have K4 := Lib.hid (HK.out.on hb)
      have HO4 := Lib.hid (own_below hb HO.out (Nat.le_refl _))
      clear hb
      obtain ⟨n1, n2, n3, n4⟩ := new_got w4 (szAt b ix)
      have K5 := Lib.hid (K4.out.alloc (gotA (szAt b ix)) 82)
      have HO5 := Lib.hid (own_alloc HO4.out (.cells (gotA (szAt b ix)) 82))
      unfold zGot at n1 n2
      go_upto_region 10 with fail
      clear n1 n2 n3 n4
      change Code.wp _ _ _ _ (w4.alloc (.cells (gotA (szAt b ix)) 82))
      obtain ⟨G, hG⟩ : ∃ G, w4.heap.size = G := ⟨_, rfl⟩
      rw [hG] at K5 ⊢
      clear hG
      obtain ⟨w5, hw5⟩ : ∃ w5, w4.alloc (.cells (gotA (szAt b ix)) 82) = w5 := ⟨_, rfl⟩
      rw [hw5] at K5 HO5 ⊢
      clear hw5
      have HNO : Hid ((szAt b ix).e ≠ 0 → headM b = none) := Lib.hid (fun hz => by rw [HMK2.out]; exact headAt_no hlt hz)
      have HST : Hid ((szAt b ix).e = 0 → headM b = headAt b (k + 1) (szAt b ix).next (ns ++ [(szAt b ix).n])) := Lib.hid (fun hz => by rw [HMK2.out]; exact headAt_step hlt hz)
      have HRS : Hid ((szAt b ix).e = 0 → ReadOk b (szAt b ix).next (ns ++ [(szAt b ix).n])) := Lib.hid (fun hz => readOk_step HRO.out hz)
      obtain ⟨gd, hgd⟩ : ∃ gd, szAt b ix = gd := ⟨_, rfl⟩
      rw [hgd] at K5 HNO HST HRS
      clear hgd
      have c0 : w5.cell? ⟨G, 0, none⟩ = some (.int .i64 (gd.n : Int)) := K5.out.cell 0 0 _ _ rfl rfl
      have c2 : w5.cell? ⟨G, 2, none⟩ = some (.int .i64 gd.e) := K5.out.cell 0 2 _ _ rfl rfl
      by_cases hz : gd.e = 0
      rotate_left
      · have HE : Hid (headM b = none) := Lib.hid (HNO.out hz)
        have q1 : (gd.e == 0) = false := by simp; exact hz
        have q2 : (gd.e != 0) = true := bne_iff_ne.2 hz
        have s1 : (rowAt w5 R 0 68).isSome = true := by rw [K5.out.row 2 _ 68 rfl rfl]; rfl
        have s2 : wrAt w5 R = true := wrAt_of_heap (K5.out.get 2 _ rfl)
        have s3 : plainCells zHd = true := rfl
        have s4 : zHd.size = 68 := rfl
        go_wp2
        refine bodyPost_ret (v := .tuple #[.agg zHd, .bool false]) (results_cell_tmp_at rfl _ _ R 0 _ _ rfl rfl agg_head ?_) rfl ⟨?_, ?_⟩
        · rw [cells_head]; exact rowAt_put_same (K5.out.get 2 _ rfl) zHd rfl 68 rfl
        · rw [HE.out, zHd_eq]; rfl
        · exact putAt_below K5.out.below HRG.out _ _
      have HS1 := Lib.hid (HST.out hz)
      have HS2 := Lib.hid (HRS.out hz)
      rw [hz] at c2
      clear hz HNO HST HRS
      have HN := Lib.hid (rd_new1 w5 (.int .i64 (gd.n : Int)) 3 _ rfl)
      have HO6 := Lib.hid (own_alloc HO5.out (.cells #[.int .i64 (gd.n : Int)] 3))
      have K6 := Lib.hid (keptTail (K5.out.alloc #[.int .i64 (gd.n : Int)] 3))
      go_wp2_with (at_builtin; refine wpList_append_rd rfl (.tmp 29) (.tmp 32) 80 rfl 3 i0 (.int .i64 0) 1 8 Tryz.underlying80 I0.out I1.out I2.out I3.out rfl (by decide) w.heap.size k _ HO6.out 1 [.int .i64 (gd.n : Int)] ?c1 HN.out ?c5 ?c2 ?c3 ?c4 ?_)
      case c1 => rfl
      case c5 => intro u hu; rw [List.mem_singleton.1 hu]; rfl
      case c2 => unfold maxLen; omega
      case c3 => omega
      case c4 => exact K6.out.below.size
      intro v1 w6 ho1 _ hg1
      have K7 := Lib.hid (kept_grown K6.out HO6.out (by intro bx hbx; simp only [List.mem_cons, List.not_mem_nil, or_false] at hbx; rcases hbx with rfl | rfl | rfl <;> (show (_ : Nat) ≠ _; simp only []; decide)) hg1)
      have c1 : w6.cell? ⟨G, 1, none⟩ = some (.int .i64 (gd.next : Int)) := K7.out.cell 0 1 _ _ rfl rfl
      have HO7 := Lib.hid ho1
      clear ho1 hg1
      go_wp2_with fail
      go_roundw
      case rel => exact ⟨k + 1, gd.next, ns ++ [gd.n], by omega, by go_num, rfl, Lib.hid (by rw [nV_snoc]; exact HO7.out), Lib.hid (by rw [List.length_append, HNL.out]; rfl), HS1, HS2, Lib.hid (keptTail K7.out)⟩
      case measure => simp [intOf]; omega
    · obtain rfl : k = 4 := by omega
      have hnl := HNL.out
      obtain ⟨a0, a1, a2, a3, rfl⟩ : ∃ a0 a1 a2 a3, ns = [a0, a1, a2, a3] := by
        match ns, hnl with
        | [a0, a1, a2, a3], _ => exact ⟨a0, a1, a2, a3, rfl⟩
      have HE := Lib.hid (HMK2.out.trans (headAt_end b ix [a0, a1, a2, a3]))
      rw [HMK.out] at HE
      obtain ⟨g, off, cap2, e1, g1, ⟨cur, hcur⟩, g2⟩ := own_cells HO.out (by omega)
      cases e1
      have hne : wrow (.slice (some ⟨g, off, none⟩) 4 ocap) ≠ some H := own_ne HO.out (HK.out.get 0 _ rfl) (by show (_ : Nat) ≠ _; simp only []; decide)
      have HNW := Lib.hid hne
      clear hnl hne hcur g2
      have g3 := own_at HO.out (by omega)
      have cc : wr.cell? ⟨g, off, none⟩ = some (.int .i64 (a0 : Int)) := g3 0 _ rfl
      have hd0 : wr.heap[H]? = some (.cells (hdV ⟨p, r, 0,0,0,0⟩) 25 (0, 0)) := HK.out.get 0 _ rfl
      have OKJ0 : Hid (HdOk ⟨p, r, 0,0,0,0⟩) := Lib.hid (hd_ok p r 0 0 0 0 _ _ _ _ OKZ.out)
      have hz0 : wr.cell? ⟨H, 64, none⟩ = some (.int .i64 0) := HK.out.cell 0 64 _ _ rfl (hdV_tail _ OKJ0.out).1
      have hfr : wr.frozen? ⟨H, 64, none⟩ = false := frozen_of_row _ _ _ _ _ hd0
      have K10 := Lib.hid (keptPut HK.out 64 (.int .i64 (a0 : Int)) HHG.out (by intro bx hbx; rcases List.mem_singleton.1 hbx with rfl; exact HNE.out))
      rw [hd_set0 _ _ _ _ _ _ _ OKJ0.out] at K10
      have O10 := Lib.hid (own_setCell HO.out ⟨H, 64, none⟩ (.int .i64 (a0 : Int)) HNW.out)
      clear g3 hd0
      go_upto_region 15 with fail
      clear cc hz0 hfr
      obtain ⟨x0, hx⟩ : ∃ x, wr.setCell ⟨H, 64, none⟩ (.int .i64 (a0 : Int)) = x := ⟨_, rfl⟩
      rw [hx] at K10 O10 ⊢
      clear hx
      have g3 := own_at O10.out (by omega)
      have cc : x0.cell? ⟨g, off + 1, none⟩ = some (.int .i64 (a1 : Int)) := g3 1 _ rfl
      have hd1 : x0.heap[H]? = some (.cells (hdV ⟨p, r, (a0 : Int),0,0,0⟩) 25 (0, 0)) := K10.out.get 0 _ rfl
      have OKJ1 : Hid (HdOk ⟨p, r, (a0 : Int),0,0,0⟩) := Lib.hid (hd_ok p r 0 0 0 0 _ _ _ _ OKZ.out)
      have hz1 : x0.cell? ⟨H, 65, none⟩ = some (.int .i64 0) := K10.out.cell 0 65 _ _ rfl (hdV_tail _ OKJ1.out).2.1
      have hfr : x0.frozen? ⟨H, 65, none⟩ = false := frozen_of_row _ _ _ _ _ hd1
      have K11 := Lib.hid (keptPut K10.out 65 (.int .i64 (a1 : Int)) HHG.out (by intro bx hbx; rcases List.mem_singleton.1 hbx with rfl; exact HNE.out))
      rw [hd_set1 _ _ _ _ _ _ _ OKJ1.out] at K11
      have O11 := Lib.hid (own_setCell O10.out ⟨H, 65, none⟩ (.int .i64 (a1 : Int)) HNW.out)
      clear g3 hd1
      go_upto_region 16 with fail
      clear cc hz1 hfr
      obtain ⟨x1, hx⟩ : ∃ x, x0.setCell ⟨H, 65, none⟩ (.int .i64 (a1 : Int)) = x := ⟨_, rfl⟩
      rw [hx] at K11 O11 ⊢
      clear hx
      have g3 := own_at O11.out (by omega)
      have cc : x1.cell? ⟨g, off + 2, none⟩ = some (.int .i64 (a2 : Int)) := g3 2 _ rfl
      have hd2 : x1.heap[H]? = some (.cells (hdV ⟨p, r, (a0 : Int),(a1 : Int),0,0⟩) 25 (0, 0)) := K11.out.get 0 _ rfl
      have OKJ2 : Hid (HdOk ⟨p, r, (a0 : Int),(a1 : Int),0,0⟩) := Lib.hid (hd_ok p r 0 0 0 0 _ _ _ _ OKZ.out)
      have hz2 : x1.cell? ⟨H, 66, none⟩ = some (.int .i64 0) := K11.out.cell 0 66 _ _ rfl (hdV_tail _ OKJ2.out).2.2.1
      have hfr : x1.frozen? ⟨H, 66, none⟩ = false := frozen_of_row _ _ _ _ _ hd2
      have K12 := Lib.hid (keptPut K11.out 66 (.int .i64 (a2 : Int)) HHG.out (by intro bx hbx; rcases List.mem_singleton.1 hbx with rfl; exact HNE.out))
      rw [hd_set2 _ _ _ _ _ _ _ OKJ2.out] at K12
      have O12 := Lib.hid (own_setCell O11.out ⟨H, 66, none⟩ (.int .i64 (a2 : Int)) HNW.out)
      clear g3 hd2
      go_upto_region 17 with fail
      clear cc hz2 hfr
      obtain ⟨x2, hx⟩ : ∃ x, x1.setCell ⟨H, 66, none⟩ (.int .i64 (a2 : Int)) = x := ⟨_, rfl⟩
      rw [hx] at K12 O12 ⊢
      clear hx
      have g3 := own_at O12.out (by omega)
      have cc : x2.cell? ⟨g, off + 3, none⟩ = some (.int .i64 (a3 : Int)) := g3 3 _ rfl
      have hd3 : x2.heap[H]? = some (.cells (hdV ⟨p, r, (a0 : Int),(a1 : Int),(a2 : Int),0⟩) 25 (0, 0)) := K12.out.get 0 _ rfl
      have OKJ3 : Hid (HdOk ⟨p, r, (a0 : Int),(a1 : Int),(a2 : Int),0⟩) := Lib.hid (hd_ok p r 0 0 0 0 _ _ _ _ OKZ.out)
      have hz3 : x2.cell? ⟨H, 67, none⟩ = some (.int .i64 0) := K12.out.cell 0 67 _ _ rfl (hdV_tail _ OKJ3.out).2.2.2
      have hfr : x2.frozen? ⟨H, 67, none⟩ = false := frozen_of_row _ _ _ _ _ hd3
      have K13 := Lib.hid (keptPut K12.out 67 (.int .i64 (a3 : Int)) HHG.out (by intro bx hbx; rcases List.mem_singleton.1 hbx with rfl; exact HNE.out))
      rw [hd_set3 _ _ _ _ _ _ _ OKJ3.out] at K13
      have O13 := Lib.hid (own_setCell O12.out ⟨H, 67, none⟩ (.int .i64 (a3 : Int)) HNW.out)
      clear g3 hd3
      go_upto_region 18 with fail
      clear cc hz3 hfr
      obtain ⟨x3, hx⟩ : ∃ x, x2.setCell ⟨H, 67, none⟩ (.int .i64 (a3 : Int)) = x := ⟨_, rfl⟩
      rw [hx] at K13 O13 ⊢
      clear hx
      have okh : HdOk ⟨p, r, a0, a1, a2, a3⟩ := hd_ok p r 0 0 0 0 _ _ _ _ OKZ.out
      obtain ⟨hd, hhd⟩ : ∃ hd : HeadD, HeadD.mk p r a0 a1 a2 a3 = hd := ⟨_, rfl⟩
      rw [hhd] at K13 HE okh
      clear hhd
      have hrw : rowAt x3 H 0 68 = some (hdV hd) := K13.out.row 0 _ 68 rfl (hdV_size _ okh)
      have OKH := Lib.hid okh
      clear okh
      go_wp2_with fail
      refine Calls.mono (rangeOf_any hd OKH.out x3) ?_
      rintro e w7 ⟨rfl, hb⟩
      have K7 := Lib.hid (K13.out.on hb)
      clear hb hrw
      by_cases hf : rangeF hd = 0
      rotate_left
      · have HEN : Hid (headM b = none) := Lib.hid (by rw [HE.out, if_neg (fun hh => hf hh.1)])
        have q1 : (rangeF hd == 0) = false := by simp; exact hf
        have q2 : (rangeF hd != 0) = true := bne_iff_ne.2 hf
        have s1 : (rowAt w7 R 0 68).isSome = true := by rw [K7.out.row 1 _ 68 rfl rfl]; rfl
        have s2 : wrAt w7 R = true := wrAt_of_heap (K7.out.get 1 _ rfl)
        have s3 : plainCells zHd = true := rfl
        have s4 : zHd.size = 68 := rfl
        go_wp2
        refine bodyPost_ret (v := .tuple #[.agg zHd, .bool false]) (results_cell_tmp_at rfl _ _ R 0 _ _ rfl rfl agg_head ?_) rfl ⟨?_, ?_⟩
        · rw [cells_head]; exact rowAt_put_same (K7.out.get 1 _ rfl) zHd rfl 68 rfl
        · rw [HEN.out, zHd_eq]; rfl
        · exact putAt_below K7.out.below HRG.out _ _
      by_cases hf2 : ix = n
      rotate_left
      · have HEN : Hid (headM b = none) := Lib.hid (by rw [HE.out, if_neg (fun hh => hf2 (hh.2.trans HL.out))])
        rw [hf]
        have q1 : ((ix : Int) == (n : Int)) = false := beq_false_of_ne (by omega)
        have s1 : (rowAt w7 R 0 68).isSome = true := by rw [K7.out.row 1 _ 68 rfl rfl]; rfl
        have s2 : wrAt w7 R = true := wrAt_of_heap (K7.out.get 1 _ rfl)
        have s3 : plainCells zHd = true := rfl
        have s4 : zHd.size = 68 := rfl
        go_wp2
        refine bodyPost_ret (v := .tuple #[.agg zHd, .bool false]) (results_cell_tmp_at rfl _ _ R 0 _ _ rfl rfl agg_head ?_) rfl ⟨?_, ?_⟩
        · rw [cells_head]; exact rowAt_put_same (K7.out.get 1 _ rfl) zHd rfl 68 rfl
        · rw [HEN.out, zHd_eq]; rfl
        · exact putAt_below K7.out.below HRG.out _ _
      have HEN : Hid (headM b = some hd) := Lib.hid (by rw [HE.out, if_pos ⟨hf, hf2.trans HL.out.symm⟩])
      rw [hf]
      have hrw : rowAt w7 H 0 68 = some (hdV hd) := K7.out.row 0 _ 68 rfl (hdV_size _ OKH.out)
      have s1 : (rowAt w7 R 0 68).isSome = true := by rw [K7.out.row 1 _ 68 rfl rfl]; rfl
      have s2 : wrAt w7 R = true := wrAt_of_heap (K7.out.get 1 _ rfl)
      have s3 : plainCells (hdV hd) = true := hdV_plain _
      have s4 : (hdV hd).size = 68 := hdV_size _ OKH.out
      subst hf2
      go_wp2
      refine bodyPost_ret (v := .tuple #[.agg (hdV hd), .bool true]) (results_cell_tmp_at rfl _ _ R 0 _ _ rfl rfl agg_head ?_) rfl ⟨?_, ?_⟩
      · rw [cells_head]; exact rowAt_put_same (K7.out.get 1 _ rfl) (hdV hd) (by rw [s4]; rfl) 68 s4.symm
      · rw [HEN.out]; rfl
      · exact putAt_below K7.out.below HRG.out _ _
end Go.Proofs.YtljcdkfafknnpaaGreatDoor
