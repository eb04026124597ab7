/- Merged: Bhd. Conditions: none beyond each theorem's own. -/
import Derived.Test.YtljcdkfafknnpaaGreatDoorCnc
import Derived.Test.YtljcdkfafknnpaaGreatDoorMb
namespace Go.Proofs.YtljcdkfafknnpaaGreatDoor
set_option linter.unusedVariables false
set_option linter.unusedSimpArgs false
open Go.RowKit
theorem exec_build_dg0 (ev : Operand → Value) (w : World) (dst : Option Tmp) (type : TypeId) (pos : String) (after : Array Edge) (guard : Option (Nat × Bool)) :
    (execOp ev ⟨dst, .build 23 #[], type, pos, after, guard⟩).run Tryz.prog w = .ok (.value (.agg zD)) w := by
  have := run_build (P := Tryz.prog) w 23 #[] zD (by kernel_rfl)
  simp only [execOp, List.map_toArray, List.map_nil, Sem.run_bind, this]
  rfl
theorem part_int4 (x0 x1 x2 x3 : Int) (i : Nat) (hi : i < 4) (w : World) : (part 3 #[.int .i64 x0, .int .i64 x1, .int .i64 x2, .int .i64 x3] i).run Tryz.prog w = .ok (#[.int .i64 x0, .int .i64 x1, .int .i64 x2, .int .i64 x3][i]?.getD undef) w := by
  have hi4 : i = 0 ∨ i = 1 ∨ i = 2 ∨ i = 3 := by omega
  rcases hi4 with rfl | rfl | rfl | rfl <;> simp [part, isAgg, run_underlying Tryz.underlying3]
theorem run_ix4 (x0 x1 x2 x3 : Int) (i : Nat) (hi : i < 4) (w : World) : (Instr.index 126 (.agg #[.int .i64 x0, .int .i64 x1, .int .i64 x2, .int .i64 x3]) (.int .i64 (i : Int))).run Tryz.prog w = .ok (#[.int .i64 x0, .int .i64 x1, .int .i64 x2, .int .i64 x3][i]?.getD undef) w := by
  obtain ⟨ti, hti, -, hs, -⟩ := info_parts' info_int
  have h1 : (0 : Int) ≤ (i : Int) ∧ (i : Int) < ((4 : Nat) : Int) := by omega
  have hp := part_int4 x0 x1 x2 x3 i hi w
  simp [Instr.index, run_underlying Tryz.underlying126, asIntOf, h1, sizeOf, typeInfo, hti, hs, hp]
  intro h4; omega
theorem run_ix4_0 (x0 x1 x2 x3 : Int) (w : World) : (Instr.index 126 (.agg #[.int .i64 x0, .int .i64 x1, .int .i64 x2, .int .i64 x3]) (.int .i64 0)).run Tryz.prog w = .ok (.int .i64 x0) w := run_ix4 x0 x1 x2 x3 0 (by decide) w
theorem run_ix4_1 (x0 x1 x2 x3 : Int) (w : World) : (Instr.index 126 (.agg #[.int .i64 x0, .int .i64 x1, .int .i64 x2, .int .i64 x3]) (.int .i64 1)).run Tryz.prog w = .ok (.int .i64 x1) w := run_ix4 x0 x1 x2 x3 1 (by decide) w
theorem run_ix4_2 (x0 x1 x2 x3 : Int) (w : World) : (Instr.index 126 (.agg #[.int .i64 x0, .int .i64 x1, .int .i64 x2, .int .i64 x3]) (.int .i64 2)).run Tryz.prog w = .ok (.int .i64 x2) w := run_ix4 x0 x1 x2 x3 2 (by decide) w
theorem run_ix4_3 (x0 x1 x2 x3 : Int) (w : World) : (Instr.index 126 (.agg #[.int .i64 x0, .int .i64 x1, .int .i64 x2, .int .i64 x3]) (.int .i64 3)).run Tryz.prog w = .ok (.int .i64 x3) w := run_ix4 x0 x1 x2 x3 3 (by decide) w
attribute [local go_sem ↓] run_load_agg run_store_agg run_load_any exec_build_dg0 run_ix4_0 run_ix4_1 run_ix4_2 run_ix4_3
def aheadK (h : HeadD) : Nat → List UInt8
  | 0 => h.prev ++ h.root
  | 1 => h.prev ++ h.root ++ szM h.height.toNat
  | 2 => h.prev ++ h.root ++ szM h.height.toNat ++ szM h.time.toNat
  | _ => aheadM h
def okK (h : HeadD) (k : Nat) : Prop := (1 ≤ k → 0 ≤ h.height ∧ h.height ≤ 1073741824) ∧ (2 ≤ k → 0 ≤ h.time ∧ h.time ≤ 1073741824) ∧ (3 ≤ k → 0 ≤ h.bits ∧ h.bits ≤ 40) ∧ (4 ≤ k → 0 ≤ h.nonce ∧ h.nonce ≤ 1073741824)
theorem aheadK_le {h : HeadD} (k : HdOk h) (j : Nat) : (aheadK h j).length ≤ 1000 := by
  have h1 := szM_le h.height.toNat; have h2 := szM_le h.time.toNat; have h3 := szM_le h.bits.toNat
  unfold aheadK aheadM
  split <;> simp only [List.length_append, k.p, k.r] <;> omega
/-- Bytes, or what is wrong. -/
def BytesE (f : Int) (b : List UInt8) (w : World) (e : Ending) (w' : World) : Prop :=
  Below w.heap.size w w' ∧ ((f ≠ 0 ∧ e = .returned (.tuple #[.slice none 0 0, errV f])) ∨ (f = 0 ∧ ∃ v, e = .returned (.tuple #[v, .nilIface]) ∧ own w' w.heap.size 5 1 v b.length (b.map vB)))
theorem bytesE_no {f : Int} {b : List UInt8} {w w' : World} {e : Ending} (hb : Below w.heap.size w w') (hf : f ≠ 0) (he : e = .returned (.tuple #[.slice none 0 0, errV f])) : BytesE f b w e w' := ⟨hb, .inl ⟨hf, he⟩⟩
theorem bytesE_yes {f : Int} {b : List UInt8} {w w' : World} {e : Ending} (v : Value) (hb : Below w.heap.size w w') (hf : f = 0) (he : e = .returned (.tuple #[v, .nilIface])) (h1 : own w' w.heap.size 5 1 v b.length (b.map vB)) : BytesE f b w e w' := ⟨hb, .inr ⟨hf, v, he, h1⟩⟩
set_option maxHeartbeats 8000000 in
set_option maxRecDepth 100000 in
theorem ahead_any (h : HeadD) (k : HdOk h) (w : World) :
    Calls Tryz.prog 32 #[.agg (hdV h)] w (BytesE (rangeF h) (aheadM h) w) := by
  obtain ⟨n1, n2, n3, n4⟩ := new_hd w h k
  have k0 := (Kept.refl w).alloc (hdV h) 25
  unfold zHd at n1 n2
  have K0 := Lib.hid k0
  have HT := Lib.hid (hdV_tail h k)
  have HK := Lib.hid k
  clear k0 k
  go_enter Tryz.func32, Tryz.ntmps32
  go_upto_region 1 with fail
  clear n1 n2 n3 n4
  change Code.wp _ _ _ _ (w.alloc (.cells (hdV h) 25))
  obtain ⟨G, hG⟩ : ∃ G, w.heap.size = G := ⟨_, rfl⟩
  have K0' : Hid (∃ w0, w.alloc (.cells (hdV h) 25) = w0 ∧ Kept w [(G, hdV h, 25)] w0) := Lib.hid ⟨_, rfl, by rw [← hG]; exact K0.out⟩
  rw [hG] at ⊢
  clear hG K0
  obtain ⟨w0, hw0, k0⟩ := K0'.out
  rw [hw0]
  have K0 := Lib.hid k0
  clear hw0 k0 K0'
  have K1 := Lib.hid (K0.out.alloc #[.slice (some ⟨G, 0, none⟩) 32 32, .slice (some ⟨G, 32, none⟩) 32 32] 26).drew
  have hro := K1.out.row 1 _ 68 rfl (hdV_size h HK.out)
  have ha1 := rd_dig (hd_prev hro HK.out) HK.out.p
  have ha2 := rd_dig (hd_root hro HK.out) HK.out.r
  rw [HK.out.p] at ha1
  rw [HK.out.r, Nat.zero_add] at ha2
  have HCC := Lib.hid (concat2_any h.prev h.root HK.out.p HK.out.r w0.heap.size (some ⟨G, 0, none⟩) (some ⟨G, 32, none⟩) 32 32 ((w0.alloc (.cells #[.slice (some ⟨G, 0, none⟩) 32 32, .slice (some ⟨G, 32, none⟩) 32 32] 26)).drew) (heap_alloc_new w0 (.cells #[.slice (some ⟨G, 0, none⟩) 32 32, .slice (some ⟨G, 32, none⟩) 32 32] 26)) ha1 ha2)
  have HPK : Hid (∀ v w', own w' (w0.alloc (.cells #[.slice (some ⟨G, 0, none⟩) 32 32, .slice (some ⟨G, 32, none⟩) 32 32] 26)).drew.heap.size 5 1 v (h.prev ++ h.root).length ((h.prev ++ h.root).map vB) → Below (w0.alloc (.cells #[.slice (some ⟨G, 0, none⟩) 32 32, .slice (some ⟨G, 32, none⟩) 32 32] 26)).drew.heap.size (w0.alloc (.cells #[.slice (some ⟨G, 0, none⟩) 32 32, .slice (some ⟨G, 32, none⟩) 32 32] 26)).drew w' → Grow w [(G, hdV h, 25)] v (aheadK h 0) w') := Lib.hid fun v w' ho hb => ⟨⟨(K1.out.on hb).below, fun q hq => (K1.out.on hb).at_ q (List.mem_cons_of_mem _ hq)⟩, own_base ho K1.out.below.size⟩
  clear hro ha1 ha2
  go_wp2_with fail
  go_region_law (first
    | (go_simp
       go_at_call 70
       refine Calls.mono HCC.out ?_
       rintro e w1 ⟨v, rfl, ho, hb⟩
       have HG1 := Lib.hid (HPK.out v w1 ho hb)
       clear ho hb))
  all_goals
    clear HCC HPK K1
    have c64 : w1.cell? ⟨G, 64, none⟩ = some (.int .i64 h.height) := HG1.out.kept.cell 0 64 _ _ rfl HT.out.1
    have c65 : w1.cell? ⟨G, 65, none⟩ = some (.int .i64 h.time) := HG1.out.kept.cell 0 65 _ _ rfl HT.out.2.1
    have c66 : w1.cell? ⟨G, 66, none⟩ = some (.int .i64 h.bits) := HG1.out.kept.cell 0 66 _ _ rfl HT.out.2.2.1
    have c67 : w1.cell? ⟨G, 67, none⟩ = some (.int .i64 h.nonce) := HG1.out.kept.cell 0 67 _ _ rfl HT.out.2.2.2
    go_wp2_with fail
    clear c64 c65 c66 c67
    go_loopw [4, 23] (fun s c wr => ∃ (k : Nat) (z : Int) (v : Value), k ≤ 4 ∧ v = s ∧ z = (k : Int) ∧ c = .int .i64 z ∧ okK h k ∧ Hid (Grow w [(G, hdV h, 25)] v (aheadK h k) wr)) (fun _ c _ => 4 - (intOf c).toNat)
    case atStart => exact ⟨0, 0, _, by omega, rfl, rfl, rfl, ⟨fun h => by omega, fun h => by omega, fun h => by omega, fun h => by omega⟩, HG1⟩
    case round =>
      obtain ⟨k, z, b, hk, rfl, hz, rfl, hok, HG⟩ := hrel
      have HOK := Lib.hid hok
      clear hok
      have hk5 : k = 0 ∨ k = 1 ∨ k = 2 ∨ k = 3 ∨ k = 4 := by omega
      rcases hk5 with rfl | rfl | rfl | rfl | rfl
      · obtain rfl : z = 0 := by omega
        clear hz
        by_cases q : 0 ≤ h.height ∧ h.height ≤ 1073741824
        rotate_left
        · have HR : Hid (rangeF h = 2) := Lib.hid (by unfold rangeF; rw [if_neg]; intro hh; exact q hh.1)
          have KF := Lib.hid HG.out.kept.below
          by_cases q1 : h.height < 0
          · go_wp2
            go_ret2
            exact bytesE_no KF.out (by rw [HR.out]; decide) (by rw [HR.out]; rfl)
          · have q2 : 1073741824 < h.height := by omega
            go_wp2
            go_ret2
            exact bytesE_no KF.out (by rw [HR.out]; decide) (by rw [HR.out]; rfl)
        have HOK2 : Hid (okK h 1) := Lib.hid ⟨fun _ => q, fun h => by omega, fun h => by omega, fun h => by omega⟩
        obtain ⟨q1, q2⟩ := q
        obtain ⟨n, hn⟩ : ∃ n : Nat, h.height = (n : Int) := ⟨h.height.toNat, by omega⟩
        have HAK : Hid (aheadK h 1 = aheadK h 0 ++ szM n) := Lib.hid (by unfold aheadK; rw [hn]; rfl)
        have hln := aheadK_le HK.out 0
        have hls := szM_le n
        obtain ⟨P, hP⟩ : ∃ P, aheadK h 0 = P := ⟨_, rfl⟩
        rw [hP] at HG HAK hln
        have hnb : n ≤ 1073741824 := by omega
        have e0 : h.height = (n : Int) := hn
        rw [e0] at *
        clear hn hP e0
        go_wp2_with fail
        refine (sizeS_any n (by omega) wr).mono ?_
        rintro e w3 ⟨s, rfl, ho, hb⟩
        have HG3 := Lib.hid (HG.out.on hb)
        have HR := Lib.hid (own_rd ho)
        clear ho hb
        go_wp2_with (at_builtin; refine wpList_grow rfl (.tmp 39) (.tmp 41) rfl (szM n) HG3.out rfl rfl HR.out (by omega) ?_)
        intro v4 w4 HG4
        go_wp2_with fail
        go_roundw
        case rel => exact ⟨1, 1, v4, by omega, rfl, rfl, by go_num, HOK2.out, Lib.hid (by rw [HAK.out]; exact HG4.out)⟩
        case measure => simp [intOf]
      · obtain rfl : z = 1 := by omega
        clear hz
        by_cases q : 0 ≤ h.time ∧ h.time ≤ 1073741824
        rotate_left
        · have HR : Hid (rangeF h = 2) := Lib.hid (by unfold rangeF; rw [if_neg]; intro hh; exact q hh.2.1)
          have KF := Lib.hid HG.out.kept.below
          by_cases q1 : h.time < 0
          · go_wp2
            go_ret2
            exact bytesE_no KF.out (by rw [HR.out]; decide) (by rw [HR.out]; rfl)
          · have q2 : 1073741824 < h.time := by omega
            go_wp2
            go_ret2
            exact bytesE_no KF.out (by rw [HR.out]; decide) (by rw [HR.out]; rfl)
        have HOK2 : Hid (okK h 2) := Lib.hid ⟨fun _ => HOK.out.1 (by omega), fun _ => q, fun h => by omega, fun h => by omega⟩
        obtain ⟨q1, q2⟩ := q
        obtain ⟨n, hn⟩ : ∃ n : Nat, h.time = (n : Int) := ⟨h.time.toNat, by omega⟩
        have HAK : Hid (aheadK h 2 = aheadK h 1 ++ szM n) := Lib.hid (by unfold aheadK; rw [hn]; rfl)
        have hln := aheadK_le HK.out 1
        have hls := szM_le n
        obtain ⟨P, hP⟩ : ∃ P, aheadK h 1 = P := ⟨_, rfl⟩
        rw [hP] at HG HAK hln
        have hnb : n ≤ 1073741824 := by omega
        have e0 : h.time = (n : Int) := hn
        rw [e0] at *
        clear hn hP e0
        go_wp2_with fail
        refine (sizeS_any n (by omega) wr).mono ?_
        rintro e w3 ⟨s, rfl, ho, hb⟩
        have HG3 := Lib.hid (HG.out.on hb)
        have HR := Lib.hid (own_rd ho)
        clear ho hb
        go_wp2_with (at_builtin; refine wpList_grow rfl (.tmp 39) (.tmp 41) rfl (szM n) HG3.out rfl rfl HR.out (by omega) ?_)
        intro v4 w4 HG4
        go_wp2_with fail
        go_roundw
        case rel => exact ⟨2, 2, v4, by omega, rfl, rfl, by go_num, HOK2.out, Lib.hid (by rw [HAK.out]; exact HG4.out)⟩
        case measure => simp [intOf]
      · obtain rfl : z = 2 := by omega
        clear hz
        by_cases q : 0 ≤ h.bits ∧ h.bits ≤ 40
        rotate_left
        · have HR : Hid (rangeF h = 2) := Lib.hid (by unfold rangeF; rw [if_neg]; intro hh; exact q hh.2.2.2)
          have KF := Lib.hid HG.out.kept.below
          by_cases q1 : h.bits < 0
          · go_wp2
            go_ret2
            exact bytesE_no KF.out (by rw [HR.out]; decide) (by rw [HR.out]; rfl)
          · have q2 : 40 < h.bits := by omega
            go_wp2
            go_ret2
            exact bytesE_no KF.out (by rw [HR.out]; decide) (by rw [HR.out]; rfl)
        have HOK2 : Hid (okK h 3) := Lib.hid ⟨fun _ => HOK.out.1 (by omega), fun _ => HOK.out.2.1 (by omega), fun _ => q, fun h => by omega⟩
        obtain ⟨q1, q2⟩ := q
        obtain ⟨n, hn⟩ : ∃ n : Nat, h.bits = (n : Int) := ⟨h.bits.toNat, by omega⟩
        have HAK : Hid (aheadK h 3 = aheadK h 2 ++ szM n) := Lib.hid (by unfold aheadK aheadM; rw [hn]; rfl)
        have hln := aheadK_le HK.out 2
        have hls := szM_le n
        obtain ⟨P, hP⟩ : ∃ P, aheadK h 2 = P := ⟨_, rfl⟩
        rw [hP] at HG HAK hln
        have hnb : n ≤ 40 := by omega
        have e0 : h.bits = (n : Int) := hn
        rw [e0] at *
        clear hn hP e0
        go_wp2_with fail
        refine (sizeS_any n (by omega) wr).mono ?_
        rintro e w3 ⟨s, rfl, ho, hb⟩
        have HG3 := Lib.hid (HG.out.on hb)
        have HR := Lib.hid (own_rd ho)
        clear ho hb
        go_wp2_with (at_builtin; refine wpList_grow rfl (.tmp 39) (.tmp 41) rfl (szM n) HG3.out rfl rfl HR.out (by omega) ?_)
        intro v4 w4 HG4
        go_wp2_with fail
        go_roundw
        case rel => exact ⟨3, 3, v4, by omega, rfl, rfl, by go_num, HOK2.out, Lib.hid (by rw [HAK.out]; exact HG4.out)⟩
        case measure => simp [intOf]
      · obtain rfl : z = 3 := by omega
        clear hz
        by_cases q : 0 ≤ h.nonce ∧ h.nonce ≤ 1073741824
        rotate_left
        · have HR : Hid (rangeF h = 2) := Lib.hid (by unfold rangeF; rw [if_neg]; intro hh; exact q hh.2.2.1)
          have KF := Lib.hid HG.out.kept.below
          by_cases q1 : h.nonce < 0
          · go_wp2
            go_ret2
            exact bytesE_no KF.out (by rw [HR.out]; decide) (by rw [HR.out]; rfl)
          · have q2 : 1073741824 < h.nonce := by omega
            go_wp2
            go_ret2
            exact bytesE_no KF.out (by rw [HR.out]; decide) (by rw [HR.out]; rfl)
        have HOK2 : Hid (okK h 4) := Lib.hid ⟨fun _ => HOK.out.1 (by omega), fun _ => HOK.out.2.1 (by omega), fun _ => HOK.out.2.2.1 (by omega), fun _ => q⟩
        obtain ⟨q1, q2⟩ := q
        have HG4 : Hid (Grow w [(G, hdV h, 25)] b (aheadK h 4) wr) := HG
        go_wp2_with fail
        go_roundw
        case rel => exact ⟨4, 4, _, by omega, rfl, rfl, by go_num, HOK2.out, HG4⟩
        case measure => simp [intOf]
      · obtain rfl : z = 4 := by omega
        clear hz
        have HR : Hid (rangeF h = 0) := Lib.hid (by unfold rangeF; rw [if_pos ⟨HOK.out.1 (by omega), HOK.out.2.1 (by omega), HOK.out.2.2.2 (by omega), HOK.out.2.2.1 (by omega)⟩])
        go_wp2
        go_ret2
        exact bytesE_yes _ HG.out.kept.below HR.out rfl HG.out.own_
theorem aheadM_le {h : HeadD} (k : HdOk h) : (aheadM h).length ≤ 1000 := aheadK_le k 3
theorem rangeF_two (h : HeadD) : rangeF h = 0 ∨ rangeF h = 2 := by
  unfold rangeF
  split
  · exact .inl rfl
  · exact .inr rfl
set_option maxHeartbeats 4000000 in
set_option maxRecDepth 100000 in
theorem blockBytes_any (h : HeadD) (k : HdOk h) (w : World) :
    Calls Tryz.prog 9 #[.agg (hdV h)] w (BytesE (rangeF h) (headB h) w) := by
  obtain ⟨n1, n2, n3, n4⟩ := new_hd w h k
  have k0 := (Kept.refl w).alloc (hdV h) 25
  unfold zHd at n1 n2
  have K0 := Lib.hid k0
  have HT := Lib.hid (hdV_tail h k)
  have HK := Lib.hid k
  clear k0 k
  go_enter Tryz.func9, Tryz.ntmps9
  go_upto_region 1 with fail
  clear n1 n2 n3 n4
  change Code.wp _ _ _ _ (w.alloc (.cells (hdV h) 25))
  obtain ⟨G, hG⟩ : ∃ G, w.heap.size = G := ⟨_, rfl⟩
  have K0' : Hid (∃ w0, w.alloc (.cells (hdV h) 25) = w0 ∧ Kept w [(G, hdV h, 25)] w0) := Lib.hid ⟨_, rfl, by rw [← hG]; exact K0.out⟩
  rw [hG] at ⊢
  clear hG K0
  obtain ⟨w0, hw0, k0⟩ := K0'.out
  rw [hw0]
  have K0 := Lib.hid k0
  clear hw0 k0 K0'
  have r1 : rowAt w0 G 0 68 = some (hdV h) := K0.out.row 0 _ 68 rfl (hdV_size h HK.out)
  go_wp2_with fail
  refine (ahead_any h HK.out w0).mono ?_
  rintro e w1 ⟨hb, hor⟩
  have K1 := Lib.hid (K0.out.on hb)
  rcases hor with ⟨hz, rfl⟩ | ⟨hz, v, rfl, ho⟩
  · have hz2 : rangeF h = 2 := by rcases rangeF_two h with h1 | h1; exact absurd h1 hz; exact h1
    have HZ := Lib.hid hz2
    rw [hz2, errV_ne (by decide)]
    clear hb r1 hz hz2
    go_wp2
    go_ret2
    exact bytesE_no K1.out.below (by rw [HZ.out]; decide) (by rw [HZ.out]; rfl)
  · have HZ := Lib.hid hz
    obtain ⟨-, -, ⟨d0, d1⟩, -⟩ := rangeF_zero hz
    obtain ⟨n, hn⟩ : ∃ n : Nat, h.nonce = (n : Int) := ⟨h.nonce.toNat, by omega⟩
    have HBQ : Hid (headB h = aheadM h ++ szM n) := Lib.hid (by unfold headB; rw [hn]; rfl)
    have hln := aheadM_le HK.out
    have hls := szM_le n
    have hnb : n ≤ 1073741824 := by omega
    have HG1 : Hid (Grow w [(G, hdV h, 25)] v (aheadM h) w1) := Lib.hid ⟨K1.out, own_base ho K0.out.below.size⟩
    have hoc := ho
    obtain ⟨-, va, vcap, rfl, v1, v2, -⟩ := hoc
    unfold maxLen at v2
    have c67 : w1.cell? ⟨G, 67, none⟩ = some (.int .i64 (n : Int)) := HG1.out.kept.cell 0 67 _ _ rfl (by rw [← hn]; exact HT.out.2.2.2)
    obtain ⟨P, hP⟩ : ∃ P, aheadM h = P := ⟨_, rfl⟩
    rw [hP] at HG1 HBQ hln v1 ⊢
    clear hb r1 hz ho d0 d1 hn hP
    go_wp2_with fail
    refine (sizeS_any n (by omega) w1).mono ?_
    rintro e w3 ⟨s, rfl, ho, hb⟩
    have HG3 := Lib.hid (HG1.out.on hb)
    have HR := Lib.hid (own_rd ho)
    clear ho hb c67
    go_wp2_with (at_builtin; refine wpList_grow rfl (.tmp 14) (.tmp 17) rfl (szM n) HG3.out rfl rfl HR.out (by omega) ?_)
    intro v4 w4 HG4
    clear HG3 HR
    go_wp2
    go_ret2
    exact bytesE_yes _ HG4.out.kept.below HZ.out rfl (by rw [HBQ.out]; exact HG4.out.own_)
/-- A digest, or what is wrong. -/
def hashE (h : HeadD) : List UInt8 := if rangeF h = 0 then hashD h else List.replicate 32 0
theorem hashE_length (h : HeadD) : (hashE h).length = 32 := by
  unfold hashE
  split
  · exact hashD_length h
  · simp
set_option maxHeartbeats 4000000 in
set_option maxRecDepth 100000 in
theorem blockHash_any (h : HeadD) (k : HdOk h) (w : World) (hT : tabAt w) :
    Calls Tryz.prog 12 #[.agg (hdV h)] w fun e w' => e = .returned (.tuple #[.agg (dgV (hashE h)), errV (rangeF h)]) ∧ Below w.heap.size w w' := by
  obtain ⟨n1, n2, n3, n4⟩ := new_hd w h k
  have hgT := rowAt_lt hT
  have HTB := Lib.hid hT
  have k0 := ((Kept.refl w).alloc (hdV h) 25).alloc zD 23
  rw [show (w.alloc (.cells (hdV h) 25)).heap.size = w.heap.size + 1 from by simp] at k0
  unfold zHd at n1 n2
  have K0 := Lib.hid k0
  have HK := Lib.hid k
  clear k0 k hT
  go_enter Tryz.func12, Tryz.ntmps12
  go_upto_region 1 with fail
  clear n1 n2 n3 n4
  change Code.wp _ _ _ _ ((w.alloc (.cells (hdV h) 25)).alloc (.cells zD 23))
  obtain ⟨D, hD⟩ : ∃ D, w.heap.size + 1 = D := ⟨_, rfl⟩
  have HDG : Hid (w.heap.size ≤ D) := Lib.hid (by omega)
  rw [hD] at K0 ⊢
  clear hD
  obtain ⟨G, hG⟩ : ∃ G, w.heap.size = G := ⟨_, rfl⟩
  have K0' : Hid (∃ w0, (w.alloc (.cells (hdV h) 25)).alloc (.cells zD 23) = w0 ∧ Kept w [(D, zD, 23), (G, hdV h, 25)] w0) := Lib.hid ⟨_, rfl, by rw [← hG]; exact K0.out⟩
  rw [hG] at ⊢
  clear hG K0
  obtain ⟨w0, hw0, k0⟩ := K0'.out
  rw [hw0]
  have K0 := Lib.hid k0
  clear hw0 k0 K0'
  have r1 : rowAt w0 G 0 68 = some (hdV h) := K0.out.row 1 _ 68 rfl (hdV_size h HK.out)
  go_wp2_with fail
  refine (blockBytes_any h HK.out w0).mono ?_
  rintro e w1 ⟨hb, hor⟩
  have K1 := Lib.hid (K0.out.on hb)
  rcases hor with ⟨hz, rfl⟩ | ⟨hz, v, rfl, ho⟩
  · have hz2 : rangeF h = 2 := by rcases rangeF_two h with h1 | h1; exact absurd h1 hz; exact h1
    have HZ := Lib.hid hz2
    have HHE : Hid (hashE h = List.replicate 32 0) := Lib.hid (by unfold hashE; rw [if_neg (by rw [hz2]; decide)])
    rw [hz2, errV_ne (by decide)]
    have s1 : (rowAt w1 D 0 32).isSome = true := by rw [K1.out.row 0 _ 32 rfl rfl]; rfl
    have s2 : wrAt w1 D = true := wrAt_of_heap (K1.out.get 0 _ rfl)
    have s3 : plainCells zD = true := rfl
    have s4 : zD.size = 32 := zD_size
    clear hb r1 hz hz2
    go_wp2
    refine bodyPost_ret (v := .tuple #[.agg zD, .iface 30 (.int .i64 2)]) (results_cell_tmp_at rfl _ _ D 0 _ _ rfl rfl agg_digest ?_) rfl ⟨?_, ?_⟩
    · rw [cells_digest]; exact rowAt_put_same (K1.out.get 0 _ rfl) zD rfl 32 rfl
    · rw [HHE.out, HZ.out, errV_ne (by decide), zD_eq]
    · exact putAt_below K1.out.below HDG.out _ _
  · have HZ := Lib.hid hz
    have HHE : Hid (hashE h = shaM (headB h)) := Lib.hid (by unfold hashE; rw [if_pos hz]; rfl)
    have hoc := ho
    obtain ⟨-, va, vcap, rfl, v1, v2, -⟩ := hoc
    unfold maxLen at v2
    have HR := Lib.hid (own_rd ho)
    clear hb r1 hz ho
    go_wp2_with fail
    refine (shaSum_any (headB h) _ _ w1 HR.out rfl (by have := headB_le HK.out; omega) ((rowAt_below K1.out.below hgT 0 64).trans HTB.out)).mono ?_
    rintro e w2 ⟨rfl, hb⟩
    have K2 := Lib.hid (K1.out.on hb)
    clear hb HR
    have hz32 : (shaM (headB h)).length = 32 := shaM_length _
    have s1 : (rowAt w2 D 0 32).isSome = true := by rw [K2.out.row 0 _ 32 rfl rfl]; rfl
    have s2 : wrAt w2 D = true := wrAt_of_heap (K2.out.get 0 _ rfl)
    have s3 : plainCells (dgV (shaM (headB h))) = true := dgV_plain _
    have s4 : (dgV (shaM (headB h))).size = 32 := by rw [dgV_size, hz32]
    go_wp2
    refine bodyPost_ret (v := .tuple #[.agg (dgV (shaM (headB h))), .nilIface]) (results_cell_tmp_at rfl _ _ D 0 _ _ rfl rfl agg_digest ?_) rfl ⟨?_, ?_⟩
    · rw [cells_digest]; exact rowAt_put_same (K2.out.get 0 _ rfl) (dgV (shaM (headB h))) (by rw [s4]; rfl) 32 s4.symm
    · rw [HHE.out, HZ.out]; rfl
    · exact putAt_below K2.out.below HDG.out _ _
theorem headF_range {h : HeadD} (hz : rangeF h = 2) : headF h = 2 := by unfold headF; rw [hz]; rfl
set_option maxHeartbeats 4000000 in
set_option maxRecDepth 100000 in
theorem checkHead_any (h : HeadD) (k : HdOk h) (w : World) (hT : tabAt w) :
    Calls Tryz.prog 13 #[.agg (hdV h)] w fun e w' => e = .returned (errV (headF h)) ∧ Below w.heap.size w w' := by
  obtain ⟨n1, n2, n3, n4⟩ := new_hd w h k
  have hgT := rowAt_lt hT
  have HTB := Lib.hid hT
  have k0 := (Kept.refl w).alloc (hdV h) 25
  unfold zHd at n1 n2
  have K0 := Lib.hid k0
  have HT := Lib.hid (hdV_tail h k)
  have HK := Lib.hid k
  clear k0 k hT
  go_enter Tryz.func13, Tryz.ntmps13
  go_upto_region 1 with fail
  clear n1 n2 n3 n4
  change Code.wp _ _ _ _ (w.alloc (.cells (hdV h) 25))
  obtain ⟨G, hG⟩ : ∃ G, w.heap.size = G := ⟨_, rfl⟩
  have K0' : Hid (∃ w0, w.alloc (.cells (hdV h) 25) = w0 ∧ Kept w [(G, hdV h, 25)] w0) := Lib.hid ⟨_, rfl, by rw [← hG]; exact K0.out⟩
  rw [hG] at ⊢
  clear hG K0
  obtain ⟨w0, hw0, k0⟩ := K0'.out
  rw [hw0]
  have K0 := Lib.hid k0
  clear hw0 k0 K0'
  have r1 : rowAt w0 G 0 68 = some (hdV h) := K0.out.row 0 _ 68 rfl (hdV_size h HK.out)
  have HHL := Lib.hid (hashE_length h)
  go_wp2_with fail
  refine (blockHash_any h HK.out w0 ((rowAt_below K0.out.below hgT 0 64).trans HTB.out)).mono ?_
  rintro e w1 ⟨rfl, hb⟩
  have K1 := Lib.hid (K0.out.on hb)
  clear hb r1
  obtain ⟨E, hE⟩ : ∃ E, hashE h = E := ⟨_, rfl⟩
  have HEE := Lib.hid hE
  rw [hE] at HHL ⊢
  clear hE
  obtain ⟨p1, p2, p3, p4⟩ := new_dg w1 E HHL.out
  unfold zD at p1 p2
  have K2' : Hid (∃ D w2, w1.heap.size = D ∧ w1.alloc (.cells (dgV E) 23) = w2 ∧ Kept w [(D, dgV E, 23), (G, hdV h, 25)] w2) := Lib.hid ⟨_, _, rfl, rfl, K1.out.alloc _ _⟩
  rcases rangeF_two h with hz | hz
  rotate_left
  · have HF := Lib.hid (headF_range hz)
    rw [hz, errV_ne (by decide)]
    clear hz
    go_upto_region 2 with fail
    clear p1 p2 p3 p4
    change Code.wp _ _ _ _ (w1.alloc (.cells (dgV E) 23))
    obtain ⟨D, w2, hd, hw, k2⟩ := K2'.out
    rw [hd, hw]
    have K2 := Lib.hid k2
    clear hd hw k2 K2'
    go_wp2
    go_ret
    exact ⟨by rw [HF.out]; rfl, K2.out.below⟩
  · have HF : Hid (headF h = if ((zerosM E : Nat) : Int) < h.bits then 10 else 0) := Lib.hid (by
      unfold headF; rw [hz, if_neg (by simp), ← HEE.out]; unfold hashE; rw [if_pos hz])
    rw [hz, errV_0]
    clear hz
    go_upto_region 2 with fail
    clear p1 p2 p3 p4
    change Code.wp _ _ _ _ (w1.alloc (.cells (dgV E) 23))
    obtain ⟨D, w2, hd, hw, k2⟩ := K2'.out
    rw [hd, hw]
    have K2 := Lib.hid k2
    have r2 : rowAt w2 D 0 32 = some (dgV E) := k2.row 0 _ 32 rfl (by rw [dgV_size]; exact HHL.out)
    have c66 : w2.cell? ⟨G, 66, none⟩ = some (.int .i64 h.bits) := k2.cell 1 66 _ _ rfl HT.out.2.2.1
    clear hd hw k2 K2'
    go_wp2_with fail
    refine (good_any E HHL.out h.bits w2).mono ?_
    rintro e w3 ⟨rfl, hb⟩
    have K3 := Lib.hid (K2.out.on hb)
    clear hb r2 c66
    obtain ⟨z, hzz⟩ : ∃ z, zerosM E = z := ⟨_, rfl⟩
    rw [hzz] at HF ⊢
    clear hzz
    by_cases hlt : ((z : Nat) : Int) < h.bits
    · have HE2 : Hid (headF h = 10) := Lib.hid (by rw [HF.out, if_pos hlt])
      rw [decide_eq_false (show ¬ h.bits ≤ (z : Int) by omega)]
      clear hlt
      go_wp2
      go_ret
      exact ⟨by rw [HE2.out]; rfl, K3.out.below⟩
    · have HE2 : Hid (headF h = 0) := Lib.hid (by rw [HF.out, if_neg hlt])
      rw [decide_eq_true (show h.bits ≤ (z : Int) by omega)]
      clear hlt
      go_wp2
      go_ret
      exact ⟨by rw [HE2.out]; rfl, K3.out.below⟩
end Go.Proofs.YtljcdkfafknnpaaGreatDoor
