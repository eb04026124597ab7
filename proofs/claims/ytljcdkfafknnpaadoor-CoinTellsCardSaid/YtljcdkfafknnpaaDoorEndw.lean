/- The walks of the reference's Ended and Behind. Conditions: none beyond each theorem's own. -/
import Derived.Test.YtljcdkfafknnpaaDoorCdt
import Derived.Test.YtljcdkfafknnpaaDoorEndp
namespace Go.Proofs.YtljcdkfafknnpaaDoor
set_option linter.unusedVariables false
set_option linter.unusedSimpArgs false
open Go.RowKit

/-- Where the ops lie. -/
theorem ops_at {w : World} {ao : Option Addr} {n cap : Nat} {os : List OpD} (h : rdSl opR 3 w (.slice ao n cap) os) (hn : 0 < os.length) :
    ∃ g off, ao = some ⟨g, off, none⟩ ∧ n = os.length ∧ ∀ j (hj : j < os.length), w.cell? ⟨g, off + j * 3, none⟩ = some (.int .i64 os[j].op) := by
  obtain ⟨g, off, cap', ao', dcap, e, -, -, -, hr⟩ := op_row h 0 hn
  cases e
  refine ⟨g, off, rfl, rfl, fun j hj => ?_⟩
  obtain ⟨g', off', cap'', ao'', dcap', e', -, -, -, hr'⟩ := op_row h j hj
  cases e'
  exact (cell_of_row3 hr').1
theorem kinds_drop {os : List OpD} {j : Nat} {k : Int} {r : List Int} (h : (os.map OpD.op).drop j = k :: r) : ∃ hj : j < os.length, os[j].op = k ∧ (os.map OpD.op).drop (j + 1) = r := by
  have hj : j < os.length := by
    by_cases hj : j < os.length
    · exact hj
    · rw [List.drop_eq_nil_of_le (by simp; omega)] at h; cases h
  rw [List.drop_eq_getElem_cons (by simpa using hj), List.getElem_map] at h
  injection h with h1 h2
  exact ⟨hj, h1, h2⟩
theorem kinds_cons (os : List OpD) (j : Nat) (hj : j < os.length) : (os.map OpD.op).drop j = os[j].op :: (os.map OpD.op).drop (j + 1) := by
  rw [List.drop_eq_getElem_cons (by simpa using hj), List.getElem_map]
def behFin (n : Nat) (x : Option (List Int)) : Int := match x with | some (13 :: r) => ((n - r.length : Nat) : Int) | _ => -1
theorem behI_eq (n : Nat) (s : List Int) : behI n s = behFin n (match endK s with | some (12 :: r) => endK r | x => x) := by
  unfold behI behK behFin
  cases endK s with
  | none => rfl
  | some r =>
    match r with
    | [] => rfl
    | k :: r =>
      by_cases h12 : k = 12
      · subst h12
        simp only
        cases endK r with
        | none => rfl
        | some r2 =>
          match r2 with
          | [] => rfl
          | k2 :: r2 =>
            by_cases d13 : k2 = 13
            · subst d13; rfl
            · split <;> simp_all
      · by_cases h13 : k = 13
        · subst h13; rfl
        · split <;> simp_all
set_option maxHeartbeats 4000000 in
set_option maxRecDepth 100000 in
theorem behind_of (os : List OpD) (ao : Option Addr) (cap : Nat) (w : World) (h : rdSl opR 3 w (.slice ao os.length cap) os) (a : Nat) (ha : a < os.length)
    (E : ∀ b : Nat, a < b → b ≤ os.length → Calls Tryd.prog 72 #[.slice ao os.length cap, .int .i64 b] w fun e w' => e = .returned (.int .i64 (endI os.length ((os.map OpD.op).drop b))) ∧ w' = w) :
    Calls Tryd.prog 93 #[.slice ao os.length cap, .int .i64 a] w fun e w' => e = .returned (.int .i64 (behI os.length ((os.map OpD.op).drop (a + 1)))) ∧ w' = w := by
  obtain ⟨g, off, rfl, -, hcell⟩ := ops_at h (by omega)
  obtain ⟨_, _, e, hcap, hmax⟩ := sl_bounds h
  cases e
  unfold maxLen at hmax
  rw [behI_eq]
  have hE1 := E (a + 1) (by omega) (by omega)
  have HE := Lib.hid E
  clear h E
  have hs1 : ((os.map OpD.op).drop (a + 1)).length = os.length - (a + 1) := by simp
  have hsuf : ∀ r, endK ((os.map OpD.op).drop (a + 1)) = some r → r.length ≤ os.length - (a + 1) ∧ (os.map OpD.op).drop (os.length - r.length) = r := fun r hr => by
    have h1 := endK_suffix hr
    have h2 := h1.length_le
    have h3 := suffix_drop (h1.trans (List.drop_suffix (a + 1) (os.map OpD.op)))
    rw [List.length_map] at h3
    exact ⟨by omega, h3⟩
  unfold endI at hE1
  cases hx : endK ((os.map OpD.op).drop (a + 1)) with
  | none =>
    rw [hx] at hE1
    simp only at hE1
    have HE1 := Lib.hid hE1
    clear hE1 hx hsuf hcell hs1
    go_enter Tryd.func93, Tryd.ntmps93
    go_wp2_with fail
    refine Calls.mono HE1.out ?_
    rintro e w' ⟨rfl, hw'⟩
    rw [hw']
    clear hw' w'
    go_wp2
    go_ret
    exact ⟨rfl, rfl⟩
  | some r =>
    obtain ⟨hr1, hr2⟩ := hsuf r hx
    have hat := (endK_at hx).1
    rw [hx] at hE1
    simp only at hE1
    obtain ⟨kk, hkk⟩ : ∃ kk, os.length - r.length = kk := ⟨_, rfl⟩
    rw [hkk] at hE1 hr2
    have HE1 := Lib.hid hE1
    clear hE1 hx hsuf hs1
    match r, hat with
    | [], _ =>
      have hk0 : kk = os.length := by simpa using hkk.symm
      subst hk0
      clear hkk hr1 hr2 hcell
      go_enter Tryd.func93, Tryd.ntmps93
      go_wp2_with fail
      refine Calls.mono HE1.out ?_
      rintro e w' ⟨rfl, hw'⟩
      rw [hw']
      clear hw' w'
      go_wp2
      go_ret
      exact ⟨rfl, rfl⟩
    | k :: r, hk =>
      obtain ⟨hj, hop, hdr⟩ := kinds_drop hr2
      have c1 := hcell kk hj
      rw [hop] at c1
      simp only [List.length_cons] at hr1 hkk
      by_cases h13 : k = 13
      · subst h13
        have hfin : behFin os.length (some (13 :: r)) = ((kk + 1 : Nat) : Int) := by unfold behFin; simp only; congr 1; omega
        have HF := Lib.hid hfin
        clear hfin hop hdr hr2 hcell hk
        simp only
        rw [HF.out]
        go_enter Tryd.func93, Tryd.ntmps93
        go_wp2_with fail
        refine Calls.mono HE1.out ?_
        rintro e w' ⟨rfl, hw'⟩
        rw [hw']
        clear hw' w'
        go_wp2
        go_ret
        exact ⟨rfl, rfl⟩
      · have h12 : k = 12 := by rcases hk with h | h; exact h; exact absurd h h13
        subst h12
        have hE2 := HE.out (kk + 1) (by omega) (by omega)
        rw [hdr] at hE2
        simp only
        unfold endI at hE2
        have hsuf2 : ∀ r2, endK r = some r2 → r2.length ≤ r.length ∧ (os.map OpD.op).drop (os.length - r2.length) = r2 := fun r2 hr => by
          have h1 := endK_suffix hr
          have h2 := h1.length_le
          rw [← hdr] at h1
          have h3 := suffix_drop (h1.trans (List.drop_suffix (kk + 1) (os.map OpD.op)))
          rw [List.length_map] at h3
          exact ⟨h2, h3⟩
        cases hx2 : endK r with
        | none =>
          rw [hx2] at hE2
          simp only at hE2
          have HE2 := Lib.hid hE2
          clear hE2 hsuf2 hop hdr hr2 hcell hk hx2 h13
          go_enter Tryd.func93, Tryd.ntmps93
          go_wp2_with fail
          refine Calls.mono HE1.out ?_
          rintro e w' ⟨rfl, hw'⟩
          rw [hw']
          clear hw' w'
          go_wp2_with fail
          refine Calls.mono HE2.out ?_
          rintro e w' ⟨rfl, hw'⟩
          rw [hw']
          clear hw' w'
          go_wp2
          go_ret
          exact ⟨rfl, rfl⟩
        | some r2 =>
          obtain ⟨hl2, hd2⟩ := hsuf2 r2 hx2
          have hat2 := (endK_at hx2).1
          rw [hx2] at hE2
          simp only at hE2
          obtain ⟨k2, hk2⟩ : ∃ k2, os.length - r2.length = k2 := ⟨_, rfl⟩
          rw [hk2] at hE2 hd2
          have HE2 := Lib.hid hE2
          clear hE2 hsuf2 hx2
          match r2, hat2 with
          | [], _ =>
            have hk0 : k2 = os.length := by simpa using hk2.symm
            subst hk0
            clear hop hdr hr2 hcell hk h13 hd2 hk2 hl2
            go_enter Tryd.func93, Tryd.ntmps93
            go_wp2_with fail
            refine Calls.mono HE1.out ?_
            rintro e w' ⟨rfl, hw'⟩
            rw [hw']
            clear hw' w'
            go_wp2_with fail
            refine Calls.mono HE2.out ?_
            rintro e w' ⟨rfl, hw'⟩
            rw [hw']
            clear hw' w'
            go_wp2
            go_ret
            exact ⟨rfl, rfl⟩
          | q :: r2, hq =>
            obtain ⟨hj2, hop2, -⟩ := kinds_drop hd2
            have c2 := hcell k2 hj2
            rw [hop2] at c2
            simp only [List.length_cons] at hl2 hk2
            by_cases q13 : q = 13
            · subst q13
              have hfin : behFin os.length (some (13 :: r2)) = ((k2 + 1 : Nat) : Int) := by unfold behFin; simp only; congr 1; omega
              have HF := Lib.hid hfin
              clear hfin hop hdr hr2 hcell hk h13 hd2 hop2 hq
              rw [HF.out]
              go_enter Tryd.func93, Tryd.ntmps93
              go_wp2_with fail
              refine Calls.mono HE1.out ?_
              rintro e w' ⟨rfl, hw'⟩
              rw [hw']
              clear hw' w'
              go_wp2_with fail
              refine Calls.mono HE2.out ?_
              rintro e w' ⟨rfl, hw'⟩
              rw [hw']
              clear hw' w'
              go_wp2
              go_ret
              exact ⟨rfl, rfl⟩
            · have q12 : q = 12 := by rcases hq with h | h; exact h; exact absurd h q13
              subst q12
              have hfin : behFin os.length (some (12 :: r2)) = -1 := rfl
              clear hop hdr hr2 hcell hk h13 hd2 hop2 hq q13
              rw [hfin]
              clear hfin
              go_enter Tryd.func93, Tryd.ntmps93
              go_wp2_with fail
              refine Calls.mono HE1.out ?_
              rintro e w' ⟨rfl, hw'⟩
              rw [hw']
              clear hw' w'
              go_wp2_with fail
              refine Calls.mono HE2.out ?_
              rintro e w' ⟨rfl, hw'⟩
              rw [hw']
              clear hw' w'
              go_wp2
              go_ret
              exact ⟨rfl, rfl⟩
theorem endI_stop (os : List OpD) (b : Nat) (hb : b < os.length) (h : os[b].op = 12 ∨ os[b].op = 13) : endI os.length ((os.map OpD.op).drop b) = (b : Int) := by
  unfold endI
  rw [kinds_cons os b hb, endK_stop _ _ h]
  simp only [List.length_cons, List.length_drop, List.length_map]
  omega
theorem endI_end (os : List OpD) (b : Nat) (hb : b = os.length) : endI os.length ((os.map OpD.op).drop b) = (b : Int) := by
  subst hb
  rw [List.drop_eq_nil_of_le (by simp)]
  unfold endI
  rw [endK_nil]
  simp
theorem endI_step (os : List OpD) (b : Nat) (hb : b < os.length) (h : ¬ (os[b].op = 12 ∨ os[b].op = 13)) (h2 : ¬ os[b].op = 11) : endI os.length ((os.map OpD.op).drop b) = endI os.length ((os.map OpD.op).drop (b + 1)) := by
  unfold endI
  rw [kinds_cons os b hb, endK_other _ _ h h2]
theorem endI_if (os : List OpD) (b : Nat) (hb : b < os.length) (h : os[b].op = 11) :
    (behI os.length ((os.map OpD.op).drop (b + 1)) = -1 ∧ endI os.length ((os.map OpD.op).drop b) = -1) ∨
    ∃ c : Nat, b < c ∧ c ≤ os.length ∧ behI os.length ((os.map OpD.op).drop (b + 1)) = (c : Int) ∧ endI os.length ((os.map OpD.op).drop b) = endI os.length ((os.map OpD.op).drop c) := by
  unfold endI behI
  rw [kinds_cons os b hb, endK_if _ _ h]
  cases hx : behK ((os.map OpD.op).drop (b + 1)) with
  | none => exact .inl ⟨rfl, rfl⟩
  | some r =>
    right
    obtain ⟨h1, h2⟩ := behK_suffix hx
    have h3 := suffix_drop (h1.trans (List.drop_suffix (b + 1) (os.map OpD.op)))
    simp only [List.length_map, List.length_drop] at h2 h3
    exact ⟨os.length - r.length, by omega, by omega, rfl, by simp only; rw [h3]⟩
set_option maxHeartbeats 4000000 in
set_option maxRecDepth 100000 in
theorem ended_any (os : List OpD) (ao : Option Addr) (cap : Nat) (w : World) (h : rdSl opR 3 w (.slice ao os.length cap) os) : ∀ (m a : Nat), os.length - a < m → a ≤ os.length →
    Calls Tryd.prog 72 #[.slice ao os.length cap, .int .i64 a] w fun e w' => e = .returned (.int .i64 (endI os.length ((os.map OpD.op).drop a))) ∧ w' = w := by
  intro m
  induction m with
  | zero => intro a hm; omega
  | succ m ih =>
    intro a hm ha
    obtain ⟨_, _, e, hcap, hmax⟩ := sl_bounds h
    cases e
    unfold maxLen at hmax
    have hcell : 0 < os.length → ∃ g off, ao = some ⟨g, off, none⟩ ∧ os.length = os.length ∧ ∀ j (hj : j < os.length), w.cell? ⟨g, off + j * 3, none⟩ = some (.int .i64 os[j].op) := fun hn => ops_at h hn
    have HC := Lib.hid hcell
    have HB := Lib.hid (fun b (hb : b < os.length) (E) => behind_of os ao cap w h b hb E)
    have HI := Lib.hid ih
    clear h hcell ih
    go_enter Tryd.func72, Tryd.ntmps72
    go_wp2_with fail
    go_loop [1] (fun s => ∃ b : Nat, a ≤ b ∧ b ≤ os.length ∧ s = .int .i64 b ∧ Hid (endI os.length ((os.map OpD.op).drop a) = endI os.length ((os.map OpD.op).drop b))) (fun s => os.length - (intOf s).toNat)
    case atStart => exact ⟨a, Nat.le_refl _, ha, rfl, Lib.hid rfl⟩
    case round =>
      obtain ⟨b, hab, hb, rfl, HR⟩ := hrel
      by_cases hlt : b < os.length
      · obtain ⟨g, off, rfl, -, hcs⟩ := HC.out (by omega)
        have c1 := hcs b hlt
        clear hcs
        have H1 := Lib.hid (endI_stop os b hlt); have H2 := Lib.hid (endI_step os b hlt); have H3 := Lib.hid (endI_if os b hlt)
        obtain ⟨k, hk⟩ : ∃ k, os[b].op = k := ⟨_, rfl⟩
        rw [hk] at c1 H1 H2 H3
        clear hk
        by_cases h12 : k = 12
        · have hf := HR.out.trans (H1.out (.inl h12))
          have HF := Lib.hid hf
          subst h12
          clear hf
          go_wp2
          go_ret
          exact ⟨by rw [HF.out]; rfl, rfl⟩
        by_cases h13 : k = 13
        · have hf := HR.out.trans (H1.out (.inr h13))
          have HF := Lib.hid hf
          subst h13
          clear hf h12
          go_wp2
          go_ret
          exact ⟨by rw [HF.out]; rfl, rfl⟩
        have q1 : (k != 12) = true := by rw [bne_iff_ne]; exact h12
        have q2 : (k != 13) = true := by rw [bne_iff_ne]; exact h13
        by_cases h11 : k = 11
        · have h3 := H3.out h11
          subst h11
          clear h12 h13 q1 q2
          have hbe := HB.out b hlt (fun c hc1 hc2 => HI.out c (by omega) hc2)
          rcases h3 with ⟨h4, h5⟩ | ⟨c, hc1, hc2, h4, h5⟩
          · rw [h4] at hbe
            have HBE := Lib.hid hbe
            have HF := Lib.hid (HR.out.trans h5)
            clear h4 h5 hbe
            go_wp2_with fail
            refine Calls.mono HBE.out ?_
            rintro e w' ⟨rfl, hw'⟩
            rw [hw']
            clear hw' w'
            go_wp2
            go_ret
            exact ⟨by rw [HF.out]; rfl, rfl⟩
          · rw [h4] at hbe
            have HBE := Lib.hid hbe
            have HF := Lib.hid (HR.out.trans h5)
            clear h4 h5 hbe
            go_wp2_with fail
            refine Calls.mono HBE.out ?_
            rintro e w' ⟨rfl, hw'⟩
            rw [hw']
            clear hw' w'
            go_wp2
            go_round
            case rel => exact ⟨c, by omega, hc2, rfl, HF⟩
            case measure => simp [intOf]; omega
        · have hf := HR.out.trans (H2.out (by omega) h11)
          have q3 : (k != 11) = true := by rw [bne_iff_ne]; exact h11
          have HF := Lib.hid hf
          clear hf
          go_wp2
          go_round
          case rel => exact ⟨b + 1, by omega, by omega, by go_num, HF⟩
          case measure => simp [intOf]; omega
      · have hf := HR.out.trans (endI_end os b (by omega))
        have HF := Lib.hid hf
        clear hf
        go_wp2
        go_ret
        exact ⟨by rw [HF.out]; rfl, rfl⟩
end Go.Proofs.YtljcdkfafknnpaaDoor
