/- Merged: Brd. Conditions: none beyond each theorem's own. -/
import Derived.Test.YtljcdkfafknnpaaGreatDoorHdo
import Derived.Test.YtljcdkfafknnpaaGreatDoorMe
import Derived.Laws.CopyOwn
namespace Go.Proofs.YtljcdkfafknnpaaGreatDoor
set_option linter.unusedVariables false
set_option linter.unusedSimpArgs false
open Go.RowKit
theorem run_copy_box {w w0 : World} {H off dc sl sc : Nat} {ad : Addr} {cur cur' : Array Value} {T : TypeId} {bs : List BoxD} {c : List UInt8} (ty : TypeId) (hk : Kept w0 ((H, cur, T) :: bs) w) (hc : c.length = 32) (hsl : 32 ≤ sl)
    (hsrc : ∀ j u, (c.map vB)[j]? = some u → w.cell? (ad.add j) = some u) (hfit : off + 32 ≤ cur.size) (hcur : (cur.toList.take off ++ c.map vB ++ cur.toList.drop (off + 32)).toArray = cur') (hH : w0.heap.size ≤ H) (hne : ∀ b ∈ bs, b.1 ≠ H) :
    ∃ w', (Builtin.copy_ #[26, 26] ty #[.slice (some ⟨H, off, none⟩) 32 dc, .slice (some ad) sl sc]).run Tryz.prog w = .ok (goInt 32) w' ∧ Kept w0 ((H, cur', T) :: bs) w' := by
  have hl : (c.map vB).length = 32 := by rw [List.length_map, hc]
  have hrun := run_copy_row (P := Tryz.prog) w 26 26 ty 5 H off 32 dc ad sl sc cur T (c.map vB) Tryz.underlying26 (by obtain ⟨i, hi, -, hs, -⟩ := info_parts info_u8; rw [hi]; simp [hs]) (hk.get 0 _ rfl) (by rw [hl]; show 32 = min sl 32; omega) hsrc (by rw [hl]; exact hfit) (vB_plain _)
  rw [hl, hcur] at hrun
  refine ⟨_, hrun, below_setRow hk.below hH _, fun b hb => ?_⟩
  rcases List.mem_cons.1 hb with rfl | hb
  · exact setRow_heap w H _ _ _ _ (hk.get 0 _ rfl)
  · exact (setRow_other w H b.1 _ (hne b hb)).trans (hk.at_ b (List.mem_cons_of_mem _ hb))
theorem wpList_copy_box {ops : Array Oper} {rest : List Oper} {o : Oper} {a : Act} {w : World} {Q : Exit → Act → World → Prop} (hgd : o.guard = none) (d s : Operand) (ho : o.op = .call { callee := .builtin .copy, args := #[d, s], argTypes := #[26, 26] })
    {w0 : World} {H off dc sl sc : Nat} {ad : Addr} {cur cur' : Array Value} {T : TypeId} {bs : List BoxD} {c : List UInt8} (hd : a.eval d = .slice (some ⟨H, off, none⟩) 32 dc) (hs : a.eval s = .slice (some ad) sl sc)
    (hk : Kept w0 ((H, cur, T) :: bs) w) (hc : c.length = 32) (hsl : 32 ≤ sl)
    (hsrc : ∀ j u, (c.map vB)[j]? = some u → w.cell? (ad.add j) = some u) (hfit : off + 32 ≤ cur.size) (hcur : (cur.toList.take off ++ c.map vB ++ cur.toList.drop (off + 32)).toArray = cur') (hH : w0.heap.size ≤ H) (hne : ∀ b ∈ bs, b.1 ≠ H)
    (h : ∀ w', Hid (Kept w0 ((H, cur', T) :: bs) w') → wpList Tryz.prog ops Q rest (a.put o.dst (goInt 32)) w') : wpList Tryz.prog ops Q (o :: rest) a w := by
  refine wpList_plain hgd fun K hK => ?_
  obtain ⟨w', hrun, r1⟩ := run_copy_box (dc := dc) (sc := sc) o.type hk hc hsl hsrc hfit hcur hH hne
  unfold Oper.wp
  simp [execOp, ho, resolve, invoke, builtin, hd, hs, hrun, Result.andThen]
  exact hK _ _ (h w' r1)
theorem step_copy_box {ops : Array Oper} {o : Oper} {a : Act} {w : World} {K : Act → World → Prop} {Q : Exit → Act → World → Prop} {E : Prop} (hgd : o.guard = none) (d s : Operand) (ho : o.op = .call { callee := .builtin .copy, args := #[d, s], argTypes := #[26, 26] })
    {w0 : World} {H off dc sl sc : Nat} {ad : Addr} {cur cur' : Array Value} {T : TypeId} {bs : List BoxD} {c : List UInt8} (hd : a.eval d = .slice (some ⟨H, off, none⟩) 32 dc) (hs : a.eval s = .slice (some ad) sl sc)
    (hk : Kept w0 ((H, cur, T) :: bs) w) (hc : c.length = 32) (hsl : 32 ≤ sl)
    (hsrc : ∀ j u, (c.map vB)[j]? = some u → w.cell? (ad.add j) = some u) (hfit : off + 32 ≤ cur.size) (hcur : (cur.toList.take off ++ c.map vB ++ cur.toList.drop (off + 32)).toArray = cur') (hH : w0.heap.size ≤ H) (hne : ∀ b ∈ bs, b.1 ≠ H)
    (h : ∀ w', Hid (Kept w0 ((H, cur', T) :: bs) w') → K (a.put o.dst (goInt 32)) w') :
    if Region.wanted o (yielded ops a.tmps) = true then Oper.wp Tryz.prog o a w K Q else E := by
  have hw : Region.wanted o (yielded ops a.tmps) = true := by simp [Region.wanted, hgd]
  rw [if_pos hw]
  obtain ⟨w', hrun, r1⟩ := run_copy_box (dc := dc) (sc := sc) o.type hk hc hsl hsrc hfit hcur hH hne
  unfold Oper.wp
  simp [execOp, ho, resolve, invoke, builtin, hd, hs, hrun, Result.andThen]
  exact h w' r1
theorem hdV_list (h : HeadD) : (hdV h).toList = h.prev.map vB ++ (h.root.map vB ++ [.int .i64 h.height, .int .i64 h.time, .int .i64 h.bits, .int .i64 h.nonce]) := by
  unfold hdV dgV; simp
theorem hd_put0 (h : HeadD) (k : HdOk h) (c : List UInt8) : ((hdV h).toList.take 0 ++ c.map vB ++ (hdV h).toList.drop (0 + 32)).toArray = hdV ⟨c, h.root, h.height, h.time, h.bits, h.nonce⟩ := by
  apply Array.ext'
  rw [hdV_list, hdV_list, List.drop_left' (by rw [List.length_map, k.p])]
  simp
theorem hd_put1 (h : HeadD) (k : HdOk h) (c : List UInt8) : ((hdV h).toList.take 32 ++ c.map vB ++ (hdV h).toList.drop (32 + 32)).toArray = hdV ⟨h.prev, c, h.height, h.time, h.bits, h.nonce⟩ := by
  apply Array.ext'
  rw [hdV_list, hdV_list, List.take_left' (by rw [List.length_map, k.p]), ← List.drop_drop, List.drop_left' (by rw [List.length_map, k.p]), List.drop_left' (by rw [List.length_map, k.r])]
  simp
theorem hd_setN (b : List UInt8) : ∀ (k : Nat) (ns : List Nat) (n : Nat), ns.length = k → k < 4 → HdOk (mkHd b ns) → (hdV (mkHd b ns)).setIfInBounds (64 + k) (.int .i64 (n : Int)) = hdV (mkHd b (ns ++ [n]))
  | 0, [], n, _, _, h => hd_set0 _ _ _ _ _ _ _ h
  | 1, [_], n, _, _, h => hd_set1 _ _ _ _ _ _ _ h
  | 2, [_, _], n, _, _, h => hd_set2 _ _ _ _ _ _ _ h
  | 3, [_, _, _], n, _, _, h => hd_set3 _ _ _ _ _ _ _ h
theorem info_pint : (Tryz.prog.info? 84).map (fun i => (i.zero, i.size, i.bytes)) = some (some (.pointer none), 1, 8) := by kernel_rfl
theorem part_pint4 (x0 x1 x2 x3 : Value) (i : Nat) (hi : i < 4) (w : World) : (part 84 #[x0, x1, x2, x3] i).run Tryz.prog w = .ok (#[x0, x1, x2, x3][i]?.getD undef) w := by
  have hi4 : i = 0 ∨ i = 1 ∨ i = 2 ∨ i = 3 := by omega
  rcases hi4 with rfl | rfl | rfl | rfl <;> simp [part, isAgg, run_underlying Tryz.underlying84]
theorem run_ixp (x0 x1 x2 x3 : Value) (i : Nat) (hi : i < 4) (w : World) : (Instr.index 85 (.agg #[x0, x1, x2, x3]) (.int .i64 (i : Int))).run Tryz.prog w = .ok (#[x0, x1, x2, x3][i]?.getD undef) w := by
  obtain ⟨ti, hti, -, hs, -⟩ := info_parts' info_pint
  have h1 : (0 : Int) ≤ (i : Int) ∧ (i : Int) < ((4 : Nat) : Int) := by omega
  have hp := part_pint4 x0 x1 x2 x3 i hi w
  simp [Instr.index, run_underlying Tryz.underlying85, asIntOf, h1, sizeOf, typeInfo, hti, hs, hp]
  intro h4; omega
theorem run_ixp_0 (x0 x1 x2 x3 : Value) (w : World) : (Instr.index 85 (.agg #[x0, x1, x2, x3]) (.int .i64 0)).run Tryz.prog w = .ok x0 w := run_ixp x0 x1 x2 x3 0 (by decide) w
theorem run_ixp_1 (x0 x1 x2 x3 : Value) (w : World) : (Instr.index 85 (.agg #[x0, x1, x2, x3]) (.int .i64 1)).run Tryz.prog w = .ok x1 w := run_ixp x0 x1 x2 x3 1 (by decide) w
theorem run_ixp_2 (x0 x1 x2 x3 : Value) (w : World) : (Instr.index 85 (.agg #[x0, x1, x2, x3]) (.int .i64 2)).run Tryz.prog w = .ok x2 w := run_ixp x0 x1 x2 x3 2 (by decide) w
theorem run_ixp_3 (x0 x1 x2 x3 : Value) (w : World) : (Instr.index 85 (.agg #[x0, x1, x2, x3]) (.int .i64 3)).run Tryz.prog w = .ok x3 w := run_ixp x0 x1 x2 x3 3 (by decide) w
attribute [local go_sem ↓] run_load_agg run_store_agg run_load_any exec_build_hd0 run_ixp_0 run_ixp_1 run_ixp_2 run_ixp_3
theorem src_cut {w : World} {g off o k : Nat} {b : List UInt8} (h : ∀ j u, (b.map vB)[j]? = some u → w.cell? ⟨g, off + j, none⟩ = some u) (ho : o = off + k) : ∀ j u, (((b.drop k).take 32).map vB)[j]? = some u → w.cell? ((⟨g, o, none⟩ : Addr).add j) = some u := by
  intro j u hj
  rw [Addr.add_lit, ho, Nat.add_assoc]
  apply h
  rw [List.getElem?_map, List.getElem?_take] at hj
  split at hj
  · rw [List.getElem?_map, ← List.getElem?_drop]; exact hj
  · cases hj
def readV (b : List UInt8) : Value := .tuple #[.agg (hdV ((headM b).getD hZero)), errV (if (headM b).isSome then 0 else 1)]
theorem readV_no {b : List UInt8} (h : headM b = none) : readV b = .tuple #[.agg zHd, .iface 30 (.int .i64 1)] := by unfold readV; rw [h, zHd_eq]; rfl
theorem readV_yes {b : List UInt8} {hd : HeadD} (h : headM b = some hd) : readV b = .tuple #[.agg (hdV hd), .nilIface] := by unfold readV; rw [h]; rfl
set_option maxHeartbeats 16000000 in
set_option maxRecDepth 100000 in
theorem blockRead_any (b : List UInt8) (n : Nat) (ao : Option Addr) (cap : Nat) (w : World) (h : rd w (.slice ao n cap) n (b.map vB)) (hl : b.length = n) (hn : n ≤ 140737488351232) :
    Calls Tryz.prog 16 #[.slice ao n cap] w fun e w' => e = .returned (readV b) ∧ Below w.heap.size w w' := by
  have h' := h
  obtain ⟨ao', cap', e0, k1, -, k3⟩ := h'
  cases e0
  have HH := Lib.hid h
  have HL := Lib.hid hl
  have k0 := (Kept.refl w).alloc zHd 25
  have K0 := Lib.hid k0
  clear h k0
  go_enter Tryz.func16, Tryz.ntmps16
  go_upto_region 1 with fail
  change Code.wp _ _ _ _ (w.alloc (.cells zHd 25))
  obtain ⟨R, hR⟩ : ∃ R, w.heap.size = R := ⟨_, rfl⟩
  have HRG : Hid (w.heap.size ≤ R) := Lib.hid (by omega)
  rw [hR] at K0 ⊢
  clear hR
  obtain ⟨w0, hw0⟩ : ∃ w0, w.alloc (.cells zHd 25) = w0 := ⟨_, rfl⟩
  rw [hw0] at K0 ⊢
  clear hw0
  by_cases h64 : n < 64
  · have HE : Hid (headM b = none) := Lib.hid (by unfold headM; rw [if_pos (by omega)])
    clear hl k3
    have s1 : (rowAt w0 R 0 68).isSome = true := by rw [K0.out.row 0 _ 68 rfl rfl]; rfl
    have s2 : wrAt w0 R = true := wrAt_of_heap (K0.out.get 0 _ rfl)
    have s3 : plainCells zHd = true := rfl
    have s4 : zHd.size = 68 := rfl
    go_wp2
    refine bodyPost_ret (v := .tuple #[.agg zHd, .iface 30 (.int .i64 1)]) (results_cell_tmp_at rfl _ _ R 0 _ _ rfl rfl agg_head ?_) rfl ⟨?_, ?_⟩
    · rw [cells_head]; exact rowAt_put_same (K0.out.get 0 _ rfl) zHd rfl 68 rfl
    · rw [readV_no HE.out]
    · exact putAt_below K0.out.below HRG.out _ _
  rcases k3 with k3 | ⟨g, off, rfl, k3⟩
  · have := congrArg List.length k3; rw [List.length_map, List.length_nil] at this; omega
  have HM : Hid (headM b = headAt b 0 64 []) := Lib.hid (by unfold headM; rw [if_neg (by omega)])
  have HR0 : Hid (ReadOk b 64 []) := Lib.hid (readOk_0 (by omega))
  have HOK : Hid (∀ ns, HdOk (mkHd b ns)) := Lib.hid (mkHd_ok (by omega))
  have HSRC := Lib.hid k3
  obtain ⟨p, hp⟩ : ∃ p, (b.drop 0).take 32 = p := ⟨_, rfl⟩
  obtain ⟨r, hr⟩ : ∃ r, (b.drop 32).take 32 = r := ⟨_, rfl⟩
  have HP32 : Hid (p.length = 32) := Lib.hid (by rw [← hp, List.length_take, List.length_drop]; omega)
  have HR32 : Hid (r.length = 32) := Lib.hid (by rw [← hr, List.length_take, List.length_drop]; omega)
  have HMK : Hid (hdV ⟨p, r, 0, 0, 0, 0⟩ = hdV (mkHd b [])) := Lib.hid (by unfold mkHd; rw [← hp, ← hr, List.drop_zero]; rfl)
  have HPE := Lib.hid hp; have HRE := Lib.hid hr
  have HNE : Hid (R ≠ w0.heap.size) := Lib.hid (by have := (Array.getElem?_eq_some_iff.1 (K0.out.get 0 _ rfl)).1; simp at this; omega)
  have HHG : Hid (w.heap.size ≤ w0.heap.size) := Lib.hid K0.out.below.size
  have K3 := Lib.hid (K0.out.alloc zHd 25)
  clear hp hr k3 K0
  go_upto_region 4 with fail
  change Code.wp _ _ _ _ (w0.alloc (.cells zHd 25))
  obtain ⟨H, hH⟩ : ∃ H, w0.heap.size = H := ⟨_, rfl⟩
  rw [hH] at K3 HNE HHG ⊢
  clear hH
  obtain ⟨w1, hw1⟩ : ∃ w1, w0.alloc (.cells zHd 25) = w1 := ⟨_, rfl⟩
  rw [hw1] at K3 ⊢
  clear hw1
  have HS0 : Hid (∀ j u, (p.map vB)[j]? = some u → w1.cell? ((⟨g, off, none⟩ : Addr).add j) = some u) := Lib.hid (by
    rw [← HPE.out]; exact src_cut (fun j u hj => (K3.out.below.cell (World.block_lt_of_cell? w _ (HSRC.out j u hj))).trans (HSRC.out j u hj)) rfl)
  have hsl : 32 ≤ n := by omega
  have HFIT : Hid (0 + 32 ≤ zHd.size) := Lib.hid (by decide)
  have HCUR : Hid ((zHd.toList.take 0 ++ p.map vB ++ zHd.toList.drop (0 + 32)).toArray = hdV ⟨p, hZero.root, 0, 0, 0, 0⟩) := Lib.hid (by rw [zHd_eq]; exact hd_put0 hZero hZero_ok p)
  have HNB : Hid (∀ b ∈ [((R, zHd, 25) : BoxD)], b.1 ≠ H) := Lib.hid (by intro bx hbx; rcases List.mem_singleton.1 hbx with rfl; exact HNE.out)
  go_wp2_with (with_reducible refine wpList_copy_box (dc := 32) (sc := cap) rfl (.tmp 19) (.tmp 20) rfl ?d1 ?d2 K3.out HP32.out hsl HS0.out HFIT.out HCUR.out HHG.out HNB.out ?_)
  case d1 => simp [Act.eval]
  case d2 => simp [Act.eval]
  intro w2 K4
  clear HCUR HFIT HS0
  go_upto_region 5 with fail
  have K4d : Hid (Kept w [(H, hdV ⟨p, hZero.root, 0, 0, 0, 0⟩, 25), (R, zHd, 25)] w2.drew) := Lib.hid K4.out.drew
  have HS1 : Hid (∀ j u, (r.map vB)[j]? = some u → w2.drew.cell? ((⟨g, off + 32, none⟩ : Addr).add j) = some u) := Lib.hid (by
    rw [← HRE.out]; exact src_cut (fun j u hj => (K4d.out.below.cell (World.block_lt_of_cell? w _ (HSRC.out j u hj))).trans (HSRC.out j u hj)) rfl)
  have HZ1 : Hid (HdOk ⟨p, hZero.root, 0, 0, 0, 0⟩) := Lib.hid ⟨HP32.out, hZero_ok.r⟩
  have HFIT : Hid (32 + 32 ≤ (hdV ⟨p, hZero.root, 0, 0, 0, 0⟩).size) := Lib.hid (by rw [hdV_size _ HZ1.out]; decide)
  have HCUR : Hid (((hdV ⟨p, hZero.root, 0, 0, 0, 0⟩).toList.take 32 ++ r.map vB ++ (hdV ⟨p, hZero.root, 0, 0, 0, 0⟩).toList.drop (32 + 32)).toArray = hdV (mkHd b [])) := Lib.hid (by rw [← HMK.out]; exact hd_put1 _ HZ1.out r)
  have hsl2 : 32 ≤ n - 32 := by omega
  have hcap : ¬ cap = 32 := by omega
  have hcap2 : 64 ≤ cap := by omega
  have b1 : (32 : Int) ≤ (n : Int) := by omega
  go_region_law (refine step_copy_box (dc := 32) (sc := cap - 32) (sl := n - 32) rfl (.tmp 23) (.tmp 25) rfl ?_ ?_ K4d.out HR32.out hsl2 HS1.out HFIT.out HCUR.out HHG.out HNB.out ?_
                 · simp [Act.eval, Act.put]
                 · simp [Act.eval, Act.put]
                 intro w3 K5)
  clear K4 K4d HS1 HFIT HCUR K3 hcap hsl2
  go_upto_region 8 with fail
  go_loopw [5, 32] (fun s c wr => ∃ (z : Int) (k ix : Nat) (ns : List Nat), z = k ∧ k ≤ 4 ∧ c = .int .i64 z ∧ s = .int .i64 ix ∧ Hid (ns.length = k) ∧ Hid (headM b = headAt b k ix ns) ∧ Hid (ReadOk b ix ns) ∧ Hid (Kept w [(H, hdV (mkHd b ns), 25), (R, zHd, 25)] wr)) (fun _ c _ => 4 - (intOf c).toNat)
  case atStart => exact ⟨0, 0, 64, [], rfl, by omega, rfl, rfl, Lib.hid rfl, HM, HR0, K5⟩
  case round =>
    obtain ⟨z, k, ix, ns, hz, hk, rfl, rfl, HNL, HMK2, HRO, HK⟩ := hrel
    have hix : ix ≤ n := by have := HRO.out.2.1; omega
    by_cases hlt : k < 4
    · obtain rfl | rfl | rfl | rfl : k = 0 ∨ k = 1 ∨ k = 2 ∨ k = 3 := by omega
      · obtain rfl : z = 0 := by omega
        clear hz
        go_wp2_with fail
        refine Calls.mono (sread_any b n (some ⟨g, off, none⟩) cap ix wr (rd_below HH.out HK.out.below) HL.out hix hn) ?_
        rintro e w4 ⟨rfl, hb⟩
        have K4 := Lib.hid (HK.out.on hb)
        clear hb
        have HNO : Hid ((szAt b ix).e ≠ 0 → headM b = none) := Lib.hid (fun hz => by rw [HMK2.out]; exact headAt_no (by omega) hz)
        have HST : Hid ((szAt b ix).e = 0 → headM b = headAt b (0 + 1) (szAt b ix).next (ns ++ [(szAt b ix).n])) := Lib.hid (fun hz => by rw [HMK2.out]; exact headAt_step (by omega) hz)
        have HRS : Hid ((szAt b ix).e = 0 → ReadOk b (szAt b ix).next (ns ++ [(szAt b ix).n])) := Lib.hid (fun hz => readOk_step HRO.out hz)
        obtain ⟨gd, hgd⟩ : ∃ gd, szAt b ix = gd := ⟨_, rfl⟩
        rw [hgd] at HNO HST HRS ⊢
        clear hgd
        by_cases hz : gd.e = 0
        rotate_left
        · have HE : Hid (headM b = none) := Lib.hid (HNO.out hz)
          rw [errV_ne hz]
          clear hz
          have s1 : (rowAt w4 R 0 68).isSome = true := by rw [K4.out.row 1 _ 68 rfl rfl]; rfl
          have s2 : wrAt w4 R = true := wrAt_of_heap (K4.out.get 1 _ rfl)
          have s3 : plainCells zHd = true := rfl
          have s4 : zHd.size = 68 := rfl
          go_wp2
          refine bodyPost_ret (v := .tuple #[.agg zHd, .iface 30 (.int .i64 1)]) (results_cell_tmp_at rfl _ _ R 0 _ _ rfl rfl agg_head ?_) rfl ⟨?_, ?_⟩
          · rw [cells_head]; exact rowAt_put_same (K4.out.get 1 _ rfl) zHd rfl 68 rfl
          · rw [readV_no HE.out]
          · exact putAt_below K4.out.below HRG.out _ _
        rw [hz, errV_0]
        have HS1 := Lib.hid (HST.out hz)
        have HS2 := Lib.hid (HRS.out hz)
        clear hz HNO HST HRS
        obtain ⟨x, hx⟩ : ∃ x : Int, w4.cell? ⟨H, 64, none⟩ = some (.int .i64 x) := ⟨_, K4.out.cell 0 64 _ _ rfl (hdV_tail _ (HOK.out ns)).1⟩
        have hfr : w4.frozen? ⟨H, 64, none⟩ = false := frozen_of_row _ _ _ _ _ (K4.out.get 0 _ rfl)
        have K6 := Lib.hid (keptPut K4.out 64 (.int .i64 (gd.n : Int)) HHG.out HNB.out)
        rw [hd_setN b 0 ns gd.n HNL.out (by omega) (HOK.out ns)] at K6
        go_wp2
        go_roundw
        case rel => exact ⟨1, 1, gd.next, ns ++ [gd.n], rfl, by omega, rfl, rfl, Lib.hid (by rw [List.length_append, HNL.out]; rfl), HS1, HS2, K6⟩
        case measure => simp [intOf]
      · obtain rfl : z = 1 := by omega
        clear hz
        go_wp2_with fail
        refine Calls.mono (sread_any b n (some ⟨g, off, none⟩) cap ix wr (rd_below HH.out HK.out.below) HL.out hix hn) ?_
        rintro e w4 ⟨rfl, hb⟩
        have K4 := Lib.hid (HK.out.on hb)
        clear hb
        have HNO : Hid ((szAt b ix).e ≠ 0 → headM b = none) := Lib.hid (fun hz => by rw [HMK2.out]; exact headAt_no (by omega) hz)
        have HST : Hid ((szAt b ix).e = 0 → headM b = headAt b (1 + 1) (szAt b ix).next (ns ++ [(szAt b ix).n])) := Lib.hid (fun hz => by rw [HMK2.out]; exact headAt_step (by omega) hz)
        have HRS : Hid ((szAt b ix).e = 0 → ReadOk b (szAt b ix).next (ns ++ [(szAt b ix).n])) := Lib.hid (fun hz => readOk_step HRO.out hz)
        obtain ⟨gd, hgd⟩ : ∃ gd, szAt b ix = gd := ⟨_, rfl⟩
        rw [hgd] at HNO HST HRS ⊢
        clear hgd
        by_cases hz : gd.e = 0
        rotate_left
        · have HE : Hid (headM b = none) := Lib.hid (HNO.out hz)
          rw [errV_ne hz]
          clear hz
          have s1 : (rowAt w4 R 0 68).isSome = true := by rw [K4.out.row 1 _ 68 rfl rfl]; rfl
          have s2 : wrAt w4 R = true := wrAt_of_heap (K4.out.get 1 _ rfl)
          have s3 : plainCells zHd = true := rfl
          have s4 : zHd.size = 68 := rfl
          go_wp2
          refine bodyPost_ret (v := .tuple #[.agg zHd, .iface 30 (.int .i64 1)]) (results_cell_tmp_at rfl _ _ R 0 _ _ rfl rfl agg_head ?_) rfl ⟨?_, ?_⟩
          · rw [cells_head]; exact rowAt_put_same (K4.out.get 1 _ rfl) zHd rfl 68 rfl
          · rw [readV_no HE.out]
          · exact putAt_below K4.out.below HRG.out _ _
        rw [hz, errV_0]
        have HS1 := Lib.hid (HST.out hz)
        have HS2 := Lib.hid (HRS.out hz)
        clear hz HNO HST HRS
        obtain ⟨x, hx⟩ : ∃ x : Int, w4.cell? ⟨H, 65, none⟩ = some (.int .i64 x) := ⟨_, K4.out.cell 0 65 _ _ rfl (hdV_tail _ (HOK.out ns)).2.1⟩
        have hfr : w4.frozen? ⟨H, 65, none⟩ = false := frozen_of_row _ _ _ _ _ (K4.out.get 0 _ rfl)
        have K6 := Lib.hid (keptPut K4.out 65 (.int .i64 (gd.n : Int)) HHG.out HNB.out)
        rw [hd_setN b 1 ns gd.n HNL.out (by omega) (HOK.out ns)] at K6
        go_wp2
        go_roundw
        case rel => exact ⟨2, 2, gd.next, ns ++ [gd.n], rfl, by omega, rfl, rfl, Lib.hid (by rw [List.length_append, HNL.out]; rfl), HS1, HS2, K6⟩
        case measure => simp [intOf]
      · obtain rfl : z = 2 := by omega
        clear hz
        go_wp2_with fail
        refine Calls.mono (sread_any b n (some ⟨g, off, none⟩) cap ix wr (rd_below HH.out HK.out.below) HL.out hix hn) ?_
        rintro e w4 ⟨rfl, hb⟩
        have K4 := Lib.hid (HK.out.on hb)
        clear hb
        have HNO : Hid ((szAt b ix).e ≠ 0 → headM b = none) := Lib.hid (fun hz => by rw [HMK2.out]; exact headAt_no (by omega) hz)
        have HST : Hid ((szAt b ix).e = 0 → headM b = headAt b (2 + 1) (szAt b ix).next (ns ++ [(szAt b ix).n])) := Lib.hid (fun hz => by rw [HMK2.out]; exact headAt_step (by omega) hz)
        have HRS : Hid ((szAt b ix).e = 0 → ReadOk b (szAt b ix).next (ns ++ [(szAt b ix).n])) := Lib.hid (fun hz => readOk_step HRO.out hz)
        obtain ⟨gd, hgd⟩ : ∃ gd, szAt b ix = gd := ⟨_, rfl⟩
        rw [hgd] at HNO HST HRS ⊢
        clear hgd
        by_cases hz : gd.e = 0
        rotate_left
        · have HE : Hid (headM b = none) := Lib.hid (HNO.out hz)
          rw [errV_ne hz]
          clear hz
          have s1 : (rowAt w4 R 0 68).isSome = true := by rw [K4.out.row 1 _ 68 rfl rfl]; rfl
          have s2 : wrAt w4 R = true := wrAt_of_heap (K4.out.get 1 _ rfl)
          have s3 : plainCells zHd = true := rfl
          have s4 : zHd.size = 68 := rfl
          go_wp2
          refine bodyPost_ret (v := .tuple #[.agg zHd, .iface 30 (.int .i64 1)]) (results_cell_tmp_at rfl _ _ R 0 _ _ rfl rfl agg_head ?_) rfl ⟨?_, ?_⟩
          · rw [cells_head]; exact rowAt_put_same (K4.out.get 1 _ rfl) zHd rfl 68 rfl
          · rw [readV_no HE.out]
          · exact putAt_below K4.out.below HRG.out _ _
        rw [hz, errV_0]
        have HS1 := Lib.hid (HST.out hz)
        have HS2 := Lib.hid (HRS.out hz)
        clear hz HNO HST HRS
        obtain ⟨x, hx⟩ : ∃ x : Int, w4.cell? ⟨H, 66, none⟩ = some (.int .i64 x) := ⟨_, K4.out.cell 0 66 _ _ rfl (hdV_tail _ (HOK.out ns)).2.2.1⟩
        have hfr : w4.frozen? ⟨H, 66, none⟩ = false := frozen_of_row _ _ _ _ _ (K4.out.get 0 _ rfl)
        have K6 := Lib.hid (keptPut K4.out 66 (.int .i64 (gd.n : Int)) HHG.out HNB.out)
        rw [hd_setN b 2 ns gd.n HNL.out (by omega) (HOK.out ns)] at K6
        go_wp2
        go_roundw
        case rel => exact ⟨3, 3, gd.next, ns ++ [gd.n], rfl, by omega, rfl, rfl, Lib.hid (by rw [List.length_append, HNL.out]; rfl), HS1, HS2, K6⟩
        case measure => simp [intOf]
      · obtain rfl : z = 3 := by omega
        clear hz
        go_wp2_with fail
        refine Calls.mono (sread_any b n (some ⟨g, off, none⟩) cap ix wr (rd_below HH.out HK.out.below) HL.out hix hn) ?_
        rintro e w4 ⟨rfl, hb⟩
        have K4 := Lib.hid (HK.out.on hb)
        clear hb
        have HNO : Hid ((szAt b ix).e ≠ 0 → headM b = none) := Lib.hid (fun hz => by rw [HMK2.out]; exact headAt_no (by omega) hz)
        have HST : Hid ((szAt b ix).e = 0 → headM b = headAt b (3 + 1) (szAt b ix).next (ns ++ [(szAt b ix).n])) := Lib.hid (fun hz => by rw [HMK2.out]; exact headAt_step (by omega) hz)
        have HRS : Hid ((szAt b ix).e = 0 → ReadOk b (szAt b ix).next (ns ++ [(szAt b ix).n])) := Lib.hid (fun hz => readOk_step HRO.out hz)
        obtain ⟨gd, hgd⟩ : ∃ gd, szAt b ix = gd := ⟨_, rfl⟩
        rw [hgd] at HNO HST HRS ⊢
        clear hgd
        by_cases hz : gd.e = 0
        rotate_left
        · have HE : Hid (headM b = none) := Lib.hid (HNO.out hz)
          rw [errV_ne hz]
          clear hz
          have s1 : (rowAt w4 R 0 68).isSome = true := by rw [K4.out.row 1 _ 68 rfl rfl]; rfl
          have s2 : wrAt w4 R = true := wrAt_of_heap (K4.out.get 1 _ rfl)
          have s3 : plainCells zHd = true := rfl
          have s4 : zHd.size = 68 := rfl
          go_wp2
          refine bodyPost_ret (v := .tuple #[.agg zHd, .iface 30 (.int .i64 1)]) (results_cell_tmp_at rfl _ _ R 0 _ _ rfl rfl agg_head ?_) rfl ⟨?_, ?_⟩
          · rw [cells_head]; exact rowAt_put_same (K4.out.get 1 _ rfl) zHd rfl 68 rfl
          · rw [readV_no HE.out]
          · exact putAt_below K4.out.below HRG.out _ _
        rw [hz, errV_0]
        have HS1 := Lib.hid (HST.out hz)
        have HS2 := Lib.hid (HRS.out hz)
        clear hz HNO HST HRS
        obtain ⟨x, hx⟩ : ∃ x : Int, w4.cell? ⟨H, 67, none⟩ = some (.int .i64 x) := ⟨_, K4.out.cell 0 67 _ _ rfl (hdV_tail _ (HOK.out ns)).2.2.2⟩
        have hfr : w4.frozen? ⟨H, 67, none⟩ = false := frozen_of_row _ _ _ _ _ (K4.out.get 0 _ rfl)
        have K6 := Lib.hid (keptPut K4.out 67 (.int .i64 (gd.n : Int)) HHG.out HNB.out)
        rw [hd_setN b 3 ns gd.n HNL.out (by omega) (HOK.out ns)] at K6
        go_wp2
        go_roundw
        case rel => exact ⟨4, 4, gd.next, ns ++ [gd.n], rfl, by omega, rfl, rfl, Lib.hid (by rw [List.length_append, HNL.out]; rfl), HS1, HS2, K6⟩
        case measure => simp [intOf]
    · obtain rfl : k = 4 := by omega
      obtain rfl : z = 4 := by omega
      clear hz
      have HE := Lib.hid (HMK2.out.trans (headAt_end b ix ns))
      have HEQ := Lib.hid (readOk_eq HRO.out HNL.out)
      obtain ⟨hd, hhd⟩ : ∃ hd : HeadD, mkHd b ns = hd := ⟨_, rfl⟩
      have OKH : Hid (HdOk hd) := Lib.hid (by rw [← hhd]; exact HOK.out ns)
      rw [hhd] at HK HE HEQ
      clear hhd
      have hrw : rowAt wr H 0 68 = some (hdV hd) := HK.out.row 0 _ 68 rfl (hdV_size _ OKH.out)
      go_wp2_with fail
      refine Calls.mono (blockBytes_any hd OKH.out wr) ?_
      rintro e w5 ⟨hb, hcase⟩
      have K7 := Lib.hid (HK.out.on hb)
      clear hrw hb
      rcases hcase with ⟨hf, rfl⟩ | ⟨hf, v, rfl, ho⟩
      · have HEN : Hid (headM b = none) := Lib.hid (by rw [HE.out, if_neg (fun hh => hf hh.1)])
        rw [errV_ne hf]
        clear hf
        have s1 : (rowAt w5 R 0 68).isSome = true := by rw [K7.out.row 1 _ 68 rfl rfl]; rfl
        have s2 : wrAt w5 R = true := wrAt_of_heap (K7.out.get 1 _ rfl)
        have s3 : plainCells zHd = true := rfl
        have s4 : zHd.size = 68 := rfl
        go_wp2
        refine bodyPost_ret (v := .tuple #[.agg zHd, .iface 30 (.int .i64 1)]) (results_cell_tmp_at rfl _ _ R 0 _ _ rfl rfl agg_head ?_) rfl ⟨?_, ?_⟩
        · rw [cells_head]; exact rowAt_put_same (K7.out.get 1 _ rfl) zHd rfl 68 rfl
        · rw [readV_no HEN.out]
        · exact putAt_below K7.out.below HRG.out _ _
      have HRV := Lib.hid (own_rd ho)
      clear ho
      have HBE := Lib.hid (bytesEqual_any v (.slice (some ⟨g, off, none⟩) n cap) _ n (headB hd) b w5 HRV.out rfl (rd_below HH.out K7.out.below) HL.out)
      by_cases hq : headB hd = b
      rotate_left
      · have HEN : Hid (headM b = none) := Lib.hid (by rw [HE.out, if_neg (fun hh => hq (HEQ.out.2 hh.2))])
        rw [decide_eq_false hq] at HBE
        clear hq hf
        go_wp2_with fail
        refine Calls.mono HBE.out ?_
        rintro e w6 ⟨rfl, hw6⟩
        rw [hw6]
        clear hw6 w6
        have s1 : (rowAt w5 R 0 68).isSome = true := by rw [K7.out.row 1 _ 68 rfl rfl]; rfl
        have s2 : wrAt w5 R = true := wrAt_of_heap (K7.out.get 1 _ rfl)
        have s3 : plainCells zHd = true := rfl
        have s4 : zHd.size = 68 := rfl
        go_wp2
        refine bodyPost_ret (v := .tuple #[.agg zHd, .iface 30 (.int .i64 1)]) (results_cell_tmp_at rfl _ _ R 0 _ _ rfl rfl agg_head ?_) rfl ⟨?_, ?_⟩
        · rw [cells_head]; exact rowAt_put_same (K7.out.get 1 _ rfl) zHd rfl 68 rfl
        · rw [readV_no HEN.out]
        · exact putAt_below K7.out.below HRG.out _ _
      have HEN : Hid (headM b = some hd) := Lib.hid (by rw [HE.out, if_pos ⟨hf, HEQ.out.1 hq⟩])
      rw [decide_eq_true hq] at HBE
      clear hq hf
      have hrw : rowAt w5 H 0 68 = some (hdV hd) := K7.out.row 0 _ 68 rfl (hdV_size _ OKH.out)
      have s1 : (rowAt w5 R 0 68).isSome = true := by rw [K7.out.row 1 _ 68 rfl rfl]; rfl
      have s2 : wrAt w5 R = true := wrAt_of_heap (K7.out.get 1 _ rfl)
      have s3 : plainCells (hdV hd) = true := hdV_plain _
      have s4 : (hdV hd).size = 68 := hdV_size _ OKH.out
      go_wp2_with fail
      refine Calls.mono HBE.out ?_
      rintro e w6 ⟨rfl, hw6⟩
      rw [hw6]
      clear hw6 w6
      go_wp2
      refine bodyPost_ret (v := .tuple #[.agg (hdV hd), .nilIface]) (results_cell_tmp_at rfl _ _ R 0 _ _ rfl rfl agg_head ?_) rfl ⟨?_, ?_⟩
      · rw [cells_head]; exact rowAt_put_same (K7.out.get 1 _ rfl) (hdV hd) (by rw [s4]; rfl) 68 s4.symm
      · rw [readV_yes HEN.out]
      · exact putAt_below K7.out.below HRG.out _ _
end Go.Proofs.YtljcdkfafknnpaaGreatDoor
