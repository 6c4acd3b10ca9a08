/- Words and walked functions of the proof (part 4). -/
import Derived.Test.YtjlnfnfdibfniaaDoorCDura3
import Derived.WalkMore
import Derived.Below
import Derived.Shelf.Small.Bits
import Derived.Shelf.Strconv.Itoa0
import Derived.Shelf.Strings.Repeat
import Derived.Test.YtjlnfnfdibfniaaDoorProg
namespace Go.Proofs.YtjlnfnfdibfniaaDoor.F
open Go.RowKit Go.Proofs.YW.PWords Go.Proofs.YW.PLast Go.Proofs.YW.PMore
attribute [local go_sem] max2_int min2_int max_two min_two max_three min_three max_four min_four
set_option linter.unusedVariables false
set_option linter.unusedSimpArgs false
set_option maxRecDepth 100000
mutual
def num_Duration.l0 : Nat → ByteArray → Int → Bool → List (S98) → Bool → Option (Int × Int)
 | 0, _, _, _, _, _ => none
 | k + 1, x0, x4, x5, x6, x7 => if x7 = true then (num_Duration.j1 k x0 x4 x5 x6 true) else (num_Duration.j1 k x0 x4 x5 x6 (x0.toList != ([] : List UInt8)))
def num_Duration.j1 : Nat → ByteArray → Int → Bool → List (S98) → Bool → Option (Int × Int)
 | 0, _, _, _, _, _ => none
 | k + 1, x0, x4, x5, x6, x21 => if x21 = true then ((num_run.f k x0).bind fun t796 => (if t796 < 1 then (num_Duration.j2 k x0 x4 x5 x6 t796 true) else (num_Duration.j2 k x0 x4 x5 x6 t796 (decide (t796 > 15))))) else (if x5 = true then (some (0, 9)) else (some (x4, 0)))
def num_Duration.j2 : Nat → ByteArray → Int → Bool → List (S98) → Int → Bool → Option (Int × Int)
 | 0, _, _, _, _, _, _ => none
 | k + 1, x0, x4, x5, x6, x8, x29 => if x29 = true then (some (0, 8)) else (num_Duration.l1 k x0 x4 x5 x6 x8 0 x8 0)
def num_Duration.l1 : Nat → ByteArray → Int → Bool → List (S98) → Int → Int → Int → Int → Option (Int × Int)
 | 0, _, _, _, _, _, _, _, _ => none
 | k + 1, x0, x4, x5, x6, x8, x9, x30, x31 => if x31 < x30 then (if 0 ≤ x31 then (if x31 < (x0.size : Int) then (num_Duration.l1 k x0 x4 x5 x6 x8 (wrap64 ((wrap64 (10 * x9)) + (((bt x0 x31) - 48) % 256))) x30 (wrap64 (x31 + 1))) else (none)) else (none)) else (if 0 ≤ x8 then (if x8 ≤ (x0.size : Int) then ((some (x0.extract (x8 : Int).toNat x0.size : ByteArray)).bind fun y797 => (if y797.size + 1 ≤ 9223372036854775807 then ((Hd.strings_IndexFunc.f (y797 ++ (⟨#[48]⟩ : ByteArray)) 79).bind fun t799 => (if 0 ≤ t799 then (if t799 ≤ (y797.size : Int) then ((some (y797.extract 0 (t799 : Int).toNat : ByteArray)).bind fun y800 => (if 0 ≤ (y800.size : Int) then (if (y800.size : Int) ≤ (y797.size : Int) then (num_Duration.l2 k (y797.extract ((y800.size : Int) : Int).toNat y797.size) x4 x5 x6 x9 y800 x6 (x6.length : Int) 0) else (none)) else (none))) else (none)) else (none))) else (none))) else (none)) else (none))
def num_Duration.l2 : Nat → ByteArray → Int → Bool → List (S98) → Int → ByteArray → List (S98) → Int → Int → Option (Int × Int)
 | 0, _, _, _, _, _, _, _, _, _ => none
 | k + 1, x0, x4, x5, x6, x9, x11, x55, x56, x57 => if x57 < x56 then (if 0 ≤ x57 then (if x57 < (x55.length : Int) then (if ((rd_T98 x55 x57).f0).toList = x11.toList then (if 0 ≤ (wrap64 (x57 + 1)) then (if (wrap64 (x57 + 1)) ≤ (x6.length : Int) then ((some (x6.drop ((wrap64 (x57 + 1)) : Int).toNat : List (S98))).bind fun y804 => (if x5 = true then (num_Duration.l0 k x0 x4 true y804 false) else (if ((rd_T98 x55 x57).f1) = 0 then (none) else (if (x9 > (wrap64 ((9007199254740992 : Int) / ((rd_T98 x55 x57).f1)))) then (num_Duration.l0 k x0 x4 (decide (x9 > (wrap64 ((9007199254740992 : Int) / ((rd_T98 x55 x57).f1))))) y804 false) else (num_Duration.l0 k x0 (wrap64 (x4 + (wrap64 (x9 * ((rd_T98 x55 x57).f1))))) (decide ((wrap64 (x4 + (wrap64 (x9 * ((rd_T98 x55 x57).f1))))) > 9007199254740992)) y804 false))))) else (none)) else (none)) else (num_Duration.l2 k x0 x4 x5 x6 x9 x11 x55 x56 (wrap64 (x57 + 1)))) else (none)) else (none)) else (some (0, 8))
end
def num_Duration.f (k : Nat) (a0 : ByteArray) : Option (Int × Int) := if a0.toList = ([48] : List UInt8) then (some (0, 0)) else ((num_units.f).bind fun t793 => (num_Duration.l0 k a0 0 false t793 true))
theorem num_Duration.mono_l : ∀ k, (∀ y0 y1 y2 y3 y4, LeO (num_Duration.l0 k y0 y1 y2 y3 y4) (num_Duration.l0 (k + 1) y0 y1 y2 y3 y4)) ∧ (∀ y0 y1 y2 y3 y4, LeO (num_Duration.j1 k y0 y1 y2 y3 y4) (num_Duration.j1 (k + 1) y0 y1 y2 y3 y4)) ∧ (∀ y0 y1 y2 y3 y4 y5, LeO (num_Duration.j2 k y0 y1 y2 y3 y4 y5) (num_Duration.j2 (k + 1) y0 y1 y2 y3 y4 y5)) ∧ (∀ y0 y1 y2 y3 y4 y5 y6 y7, LeO (num_Duration.l1 k y0 y1 y2 y3 y4 y5 y6 y7) (num_Duration.l1 (k + 1) y0 y1 y2 y3 y4 y5 y6 y7)) ∧ (∀ y0 y1 y2 y3 y4 y5 y6 y7 y8, LeO (num_Duration.l2 k y0 y1 y2 y3 y4 y5 y6 y7 y8) (num_Duration.l2 (k + 1) y0 y1 y2 y3 y4 y5 y6 y7 y8))
 | 0 => ⟨fun _ _ _ _ _ r h => by simp [num_Duration.l0] at h, fun _ _ _ _ _ r h => by simp [num_Duration.j1] at h, fun _ _ _ _ _ _ r h => by simp [num_Duration.j2] at h, fun _ _ _ _ _ _ _ _ r h => by simp [num_Duration.l1] at h, fun _ _ _ _ _ _ _ _ _ r h => by simp [num_Duration.l2] at h⟩
 | k + 1 => by
  obtain ⟨ih0, ih1, ih2, ih3, ih4⟩ := num_Duration.mono_l k
  refine ⟨?_, ?_, ?_, ?_, ?_⟩ <;> intros <;> (first | unfold num_Duration.l0 | unfold num_Duration.j1 | unfold num_Duration.j2 | unfold num_Duration.l1 | unfold num_Duration.l2) <;> repeat' (with_reducible first | apply ih0 | apply ih1 | apply ih2 | apply ih3 | apply ih4 | apply num_run.mono | apply LeO.refl | apply LeO.none | apply LeO.ite | refine LeO.bind ?_ (fun _ => ?_))
theorem num_Duration.mono : ∀ a0 k, LeO (num_Duration.f k a0) (num_Duration.f (k + 1) a0) := by
 intro a0 k
 obtain ⟨ih0, ih1, ih2, ih3, ih4⟩ := num_Duration.mono_l k
 unfold num_Duration.f
 repeat' (with_reducible first | apply ih0 | apply ih1 | apply ih2 | apply ih3 | apply ih4 | apply num_run.mono | apply LeO.refl | apply LeO.none | apply LeO.ite | refine LeO.bind ?_ (fun _ => ?_))
set_option maxHeartbeats 8000000 in
theorem num_Duration.calls (k : Nat) (a0 : ByteArray) (r1 : Int) (r2 : Int) (w : World) (h : num_Duration.f k a0 = some (r1, r2)) :
  Calls Tryd.prog 36 #[.string a0] w fun e w' => e = .returned (.tuple #[.int .i64 r1, .int .i64 r2]) ∧ Below w.heap.size w w' := by
 have hu98 := Tryd.underlying98
 have HB := am (Below.refl w.heap.size w)
 have H : (if a0.toList = ([48] : List UInt8) then (some (0, 0)) else ((num_units.f).bind fun t793 => (num_Duration.l0 k a0 0 false t793 true))) = some (r1, r2) := h
 clear h
 by_cases c2 : a0.toList = ([48] : List UInt8)
 ·
  rw [if_pos c2] at H
  have c2b0 : (a0.toList == ([48] : List UInt8)) = true := beq_iff_eq.mpr c2
  have c2b1 : (a0.toList != ([48] : List UInt8)) = false := bne_eq_false_iff_eq.mpr c2
  clear c2
  simp only [Option.some.injEq, Prod.mk.injEq] at H
  obtain ⟨rfl, rfl⟩ := H
  go_enter Tryd.func36, Tryd.ntmps36
  go_wp2
  go_step3
  go_wp2
  (try rw [Exit.noGoto_ret])
  go_ret2
  exact ex (lk HB)
 rw [if_neg c2] at H
 have c2b0 : (a0.toList == ([48] : List UInt8)) = false := beq_eq_false_iff_ne.mpr c2
 have c2b1 : (a0.toList != ([48] : List UInt8)) = true := bne_iff_ne.mpr c2
 replace H := bm H
 obtain ⟨t793, A30, H⟩ := H
 replace H : (num_Duration.l0 k a0 0 false t793 true) = some (r1, r2) := H
 have A3 := am A30
 clear A30
 have H' := am H
 clear H
 go_enter Tryd.func36, Tryd.ntmps36
 go_wp2
 go_step3
 go_wp2_with (first | (refine gL (some 16) Tryd.func77 #[] ?_; (with_reducible refine (num_units.calls  t793 _ A3.out).mono ?_); rintro e w4 ⟨v794, rfl, ho0, hb⟩; refine ⟨_, rfl, ?_⟩; have HO795 := am (Kd.R_lower ho0 (below_size (lk HB))); replace HB := lb HB hb))
 go_step3
 go_wp2
 go_loopg [0, 4, 5, 6, 7] k (fun kq v0 v4 v5 v6 v7 w' => ∃ (x0_1 : ByteArray) (x4_1 : Int) (x5_1 : Bool) (x6_1 : List (S98)) (x7_1 : Bool), v0 = .string x0_1 ∧ v4 = .int .i64 x4_1 ∧ v5 = .bool x5_1 ∧ v7 = .bool x7_1 ∧ Aside0 (num_Duration.l0 kq x0_1 x4_1 x5_1 x6_1 x7_1 = some (r1, r2)) ∧ Aside0 (kq ≤ k) ∧ Aside0 (Kd.Q k98 98 w' w.heap.size (fun _ => True) v6 x6_1) ∧ Aside0 (Below w.heap.size w w'))
 case atStart => exact ⟨(a0), (0), (false), (t793), (true), (by first | rfl | (simp; done) | (simp [*]; done) | (simp [Hd.ne_nil_bool]; done)), (by first | rfl | (simp; done) | (simp [*]; done) | (simp [Hd.ne_nil_bool]; done)), (by first | rfl | (simp; done) | (simp [*]; done) | (simp [Hd.ne_nil_bool]; done)), (by first | rfl | (simp; done) | (simp [*]; done) | (simp [Hd.ne_nil_bool]; done)), H', ⟨Nat.le_refl _⟩, ⟨Kd.Q_of_R (rk HO795)⟩, ⟨lk HB⟩⟩
 case round =>
  clear H'
  obtain ⟨x0_1, x4_1, x5_1, x6_1, x7_1, rfl, rfl, rfl, rfl, HA, HK1, HO_6, HB⟩ := hrel
  cases gk with
  | zero => exact absurd HA.out (by simp [num_Duration.l0])
  | succ k1 =>
   have H := HA.out
   clear HA
   simp only [num_Duration.l0] at H
   have HC5 := am H
   clear H
   go_upto_region 6 with (fail)
   go_cut [21] (fun v21 wc => ∃ (kq : Nat) (x21_4 : Bool), v21 = .bool x21_4 ∧ Aside0 (num_Duration.j1 kq x0_1 x4_1 x5_1 x6_1 x21_4 = some (r1, r2)) ∧ Aside0 (kq ≤ k1) ∧ Aside0 (Kd.Q k98 98 wc w.heap.size (fun _ => True) u6 x6_1) ∧ Aside0 (Below w.heap.size w wc))
   case first =>
    have H := HC5.out
    clear HC5
    by_cases c6 : x7_1 = true
    ·
     subst c6
     have H1 : (num_Duration.j1 k1 x0_1 x4_1 x5_1 x6_1 true) = some (r1, r2) := by rw [if_pos rfl] at H; exact H
     clear H
     have H := H1
     clear H1
     have H' := am H
     clear H
     go_wp2
     go_meet
     case rel => exact ⟨_, (true), (by first | rfl | (simp; done) | (simp [*]; done) | (simp [Hd.ne_nil_bool]; done)), H', ⟨by have := HK1.out; first | omega | exact Nat.le_refl _⟩, ⟨by (with_reducible repeat (first | apply Kd.Q_alloc | apply Kd.Q_drewN | apply Kd.Q_drew)); exact HO_6.out⟩, ⟨lk HB⟩⟩
    replace c6 := Bool.eq_false_iff.mpr c6
    subst c6
    have H1 : (num_Duration.j1 k1 x0_1 x4_1 x5_1 x6_1 (x0_1.toList != ([] : List UInt8))) = some (r1, r2) := by rw [if_neg (show ¬ (false = true) by decide)] at H; exact H
    clear H
    have H := H1
    clear H1
    have H' := am H
    clear H
    go_wp2
    go_meet
    case rel => exact ⟨_, ((x0_1.toList != ([] : List UInt8))), (by first | rfl | (simp; done) | (simp [*]; done) | (simp [Hd.ne_nil_bool]; done)), H', ⟨by have := HK1.out; first | omega | exact Nat.le_refl _⟩, ⟨by (with_reducible repeat (first | apply Kd.Q_alloc | apply Kd.Q_drewN | apply Kd.Q_drew)); exact HO_6.out⟩, ⟨lk HB⟩⟩
   case rest =>
    clear HC5
    obtain ⟨kq, x21_4, rfl, HA, HJ4, HO_6, HB⟩ := hcut
    cases kq with
    | zero => exact absurd HA.out (by simp [num_Duration.j1])
    | succ kj4 =>
     have H := HA.out
     clear HA
     simp only [num_Duration.j1] at H
     by_cases c7 : x21_4 = true
     ·
      subst c7
      have H1 : ((num_run.f kj4 x0_1).bind fun t796 => (if t796 < 1 then (num_Duration.j2 kj4 x0_1 x4_1 x5_1 x6_1 t796 true) else (num_Duration.j2 kj4 x0_1 x4_1 x5_1 x6_1 t796 (decide (t796 > 15))))) = some (r1, r2) := by rw [if_pos rfl] at H; exact H
      clear H
      have H := H1
      clear H1
      replace H := bm H
      obtain ⟨t796, A80, H⟩ := H
      replace H : (if t796 < 1 then (num_Duration.j2 kj4 x0_1 x4_1 x5_1 x6_1 t796 true) else (num_Duration.j2 kj4 x0_1 x4_1 x5_1 x6_1 t796 (decide (t796 > 15)))) = some (r1, r2) := H
      have A8 := am A80
      clear A80
      have HC9 := am H
      clear H
      go_upto_region 9 with (first | (refine gL (some 23) Tryd.func76 #[.string x0_1] ?_; (with_reducible refine (num_run.calls kj4 x0_1 t796 _ A8.out).mono ?_); rintro e w' ⟨rfl, ⟨nd, rfl⟩⟩; refine ⟨_, rfl, ?_⟩))
      (try simp only [Act.put, List.setIfInBounds_toArray, List.set_cons_zero, List.set_cons_succ])
      go_cut [29] (fun v29 wc => ∃ (kq : Nat) (x29_8 : Bool), v29 = .bool x29_8 ∧ Aside0 (num_Duration.j2 kq x0_1 x4_1 x5_1 x6_1 t796 x29_8 = some (r1, r2)) ∧ Aside0 (kq ≤ kj4) ∧ Aside0 (Kd.Q k98 98 wc w.heap.size (fun _ => True) u6 x6_1) ∧ Aside0 (Below w.heap.size w wc))
      case first =>
       have H := HC9.out
       clear HC9
       by_cases c10 : t796 < 1
       ·
        rw [if_pos c10] at H
        have c10b0 := dt c10
        clear c10
        (first | rw [c10b0] | (simp only [i64_w, i32_w]; rw [c10b0]) | skip)
        have H' := am H
        clear H
        go_wp2
        go_meet
        case rel => exact ⟨_, (true), (by first | rfl | (simp; done) | (simp [*]; done) | (simp [Hd.ne_nil_bool]; done)), H', ⟨by have := HK1.out; have := HJ4.out; first | omega | exact Nat.le_refl _⟩, ⟨by (with_reducible repeat (first | apply Kd.Q_alloc | apply Kd.Q_drewN | apply Kd.Q_drew)); exact HO_6.out⟩, ⟨lk HB⟩⟩
       rw [if_neg c10] at H
       have c10b0 := decide_eq_false c10
       clear c10
       (first | rw [c10b0] | (simp only [i64_w, i32_w]; rw [c10b0]) | skip)
       have H' := am H
       clear H
       go_wp2
       go_meet
       case rel => exact ⟨_, (decide (t796 > 15)), (by first | rfl | (simp; done) | (simp [*]; done) | (simp [Hd.ne_nil_bool]; done)), H', ⟨by have := HK1.out; have := HJ4.out; first | omega | exact Nat.le_refl _⟩, ⟨by (with_reducible repeat (first | apply Kd.Q_alloc | apply Kd.Q_drewN | apply Kd.Q_drew)); exact HO_6.out⟩, ⟨lk HB⟩⟩
      case rest =>
       clear HC9
       obtain ⟨kq, x29_8, rfl, HA, HJ8, HO_6, HB⟩ := hcut
       cases kq with
       | zero => exact absurd HA.out (by simp [num_Duration.j2])
       | succ kj8 =>
        have H := HA.out
        clear HA
        simp only [num_Duration.j2] at H
        by_cases c11 : x29_8 = true
        ·
         subst c11
         have H1 : (some (0, 8)) = some (r1, r2) := by rw [if_pos rfl] at H; exact H
         clear H
         have H := H1
         clear H1
         simp only [Option.some.injEq, Prod.mk.injEq] at H
         obtain ⟨rfl, rfl⟩ := H
         go_wp2
         (try rw [Exit.noGoto_ret])
         go_ret2
         exact ex (lk HB)
        replace c11 := Bool.eq_false_iff.mpr c11
        subst c11
        have H1 : (num_Duration.l1 kj8 x0_1 x4_1 x5_1 x6_1 t796 0 t796 0) = some (r1, r2) := by rw [if_neg (show ¬ (false = true) by decide)] at H; exact H
        clear H
        have H := H1
        clear H1
        have H' := am H
        clear H
        go_wp2
        go_loopg [9, 31] kj8 (fun kq v9 v31 w' => ∃ (x9_4 : Int) (x31_4 : Int), v9 = .int .i64 x9_4 ∧ v31 = .int .i64 x31_4 ∧ Aside0 (num_Duration.l1 kq x0_1 x4_1 x5_1 x6_1 t796 x9_4 t796 x31_4 = some (r1, r2)) ∧ Aside0 (kq ≤ kj8) ∧ Aside0 (Kd.Q k98 98 w' w.heap.size (fun _ => True) u6 x6_1) ∧ Aside0 (Below w.heap.size w w'))
        case atStart => exact ⟨(0), (0), (by first | rfl | (simp; done) | (simp [*]; done) | (simp [Hd.ne_nil_bool]; done)), (by first | rfl | (simp; done) | (simp [*]; done) | (simp [Hd.ne_nil_bool]; done)), H', ⟨Nat.le_refl _⟩, ⟨by (with_reducible repeat (first | apply Kd.Q_alloc | apply Kd.Q_drewN | apply Kd.Q_drew)); exact HO_6.out⟩, ⟨lk HB⟩⟩
        case round =>
         clear H'
         obtain ⟨x9_4, x31_4, rfl, rfl, HA, HK4, HO_6, HB⟩ := hrel
         cases gk with
         | zero => exact absurd HA.out (by simp [num_Duration.l1])
         | succ k4 =>
          have H := HA.out
          clear HA
          simp only [num_Duration.l1] at H
          by_cases c12 : x31_4 < t796
          ·
           rw [if_pos c12] at H
           have c12b0 := dt c12
           clear c12
           by_cases c13 : 0 ≤ x31_4
           ·
            rw [if_pos c13] at H
            have c13b0 := dt c13
            clear c13
            by_cases c14 : x31_4 < (x0_1.size : Int)
            ·
             rw [if_pos c14] at H
             have c14b0 := dt c14
             clear c14
             have H' := am H
             clear H
             have p15 : 0 ≤ (x31_4 : Int) := od
             have q15 : x31_4 < (x0_1.size : Int) := od
             have hx15 := bt_at x0_1 x31_4
             replace p15 := eq_true p15
             replace q15 := eq_true q15
             go_wp2
             go_roundg k4
             case measure => have := HK1.out; have := HJ4.out; have := HJ8.out; have := HK4.out; omega
             case rel => exact ⟨(wrap64 ((wrap64 (10 * x9_4)) + (((bt x0_1 x31_4) - 48) % 256))), (wrap64 (x31_4 + 1)), (by first | rfl | (simp; done) | (simp [*]; done) | (simp [Hd.ne_nil_bool]; done)), (by first | rfl | (simp; done) | (simp [*]; done) | (simp [Hd.ne_nil_bool]; done)), H', ⟨by have := HK1.out; have := HJ4.out; have := HJ8.out; have := HK4.out; omega⟩, ⟨by (with_reducible repeat (first | apply Kd.Q_alloc | apply Kd.Q_drewN | apply Kd.Q_drew)); exact HO_6.out⟩, ⟨lk HB⟩⟩
            rw [if_neg c14] at H
            exact absurd H (by simp)
           rw [if_neg c13] at H
           exact absurd H (by simp)
          rw [if_neg c12] at H
          have c12b0 := decide_eq_false c12
          clear c12
          by_cases c16 : 0 ≤ t796
          ·
           rw [if_pos c16] at H
           have c16b0 := eq_true c16
           have c16b1 := dt c16
           clear c16
           by_cases c17 : t796 ≤ (x0_1.size : Int)
           ·
            rw [if_pos c17] at H
            have c17b0 := eq_true c17
            have c17b1 := dt c17
            clear c17
            obtain ⟨y797, Ny797, H⟩ := yb H
            by_cases c18 : y797.size + 1 ≤ 9223372036854775807
            ·
             rw [if_pos c18] at H
             have c18b0 := eq_true c18
             have c18b1 := dt c18
             obtain ⟨y798, hy798⟩ : ∃ y_ : ByteArray, y_ = (y797 ++ (⟨#[48]⟩ : ByteArray)) := ⟨_, rfl⟩
             replace H : ((Hd.strings_IndexFunc.f y798 79).bind fun t799 => (if 0 ≤ t799 then (if t799 ≤ (y797.size : Int) then ((some (y797.extract 0 (t799 : Int).toNat : ByteArray)).bind fun y800 => (if 0 ≤ (y800.size : Int) then (if (y800.size : Int) ≤ (y797.size : Int) then (num_Duration.l2 k4 (y797.extract ((y800.size : Int) : Int).toNat y797.size) x4_1 x5_1 x6_1 x9_4 y800 x6_1 (x6_1.length : Int) 0) else (none)) else (none))) else (none)) else (none))) = some (r1, r2) := by first | (rw [hy798]; exact H) | exact H
             have Ny798 := am hy798
             clear hy798
             replace H := bm H
             obtain ⟨t799, A190, H⟩ := H
             replace H : (if 0 ≤ t799 then (if t799 ≤ (y797.size : Int) then ((some (y797.extract 0 (t799 : Int).toNat : ByteArray)).bind fun y800 => (if 0 ≤ (y800.size : Int) then (if (y800.size : Int) ≤ (y797.size : Int) then (num_Duration.l2 k4 (y797.extract ((y800.size : Int) : Int).toNat y797.size) x4_1 x5_1 x6_1 x9_4 y800 x6_1 (x6_1.length : Int) 0) else (none)) else (none))) else (none)) else (none)) = some (r1, r2) := H
             have A19 := am A190
             clear A190
             by_cases c20 : 0 ≤ t799
             ·
              rw [if_pos c20] at H
              have c20b0 := eq_true c20
              have c20b1 := dt c20
              clear c20
              by_cases c21 : t799 ≤ (y797.size : Int)
              ·
               rw [if_pos c21] at H
               have c21b0 := eq_true c21
               have c21b1 := dt c21
               clear c21
               obtain ⟨y800, Ny800, H⟩ := yb H
               by_cases c22 : 0 ≤ (y800.size : Int)
               ·
                rw [if_pos c22] at H
                have c22b0 := eq_true c22
                have c22b1 := dt c22
                clear c22
                by_cases c23 : (y800.size : Int) ≤ (y797.size : Int)
                ·
                 rw [if_pos c23] at H
                 have c23b0 := eq_true c23
                 have c23b1 := dt c23
                 clear c23
                 obtain ⟨y801, hy801⟩ : ∃ y_ : ByteArray, y_ = (y797.extract ((y800.size : Int) : Int).toNat y797.size) := ⟨_, rfl⟩
                 replace H : (num_Duration.l2 k4 y801 x4_1 x5_1 x6_1 x9_4 y800 x6_1 (x6_1.length : Int) 0) = some (r1, r2) := by first | (rw [hy801]; exact H) | exact H
                 have Ny801 := am hy801
                 clear hy801
                 have H' := am H
                 clear H
                 have hcs24 := Hd.str_from (P := Tryd.prog) (k := .i64) Tryd.underlying9 (i := t796) (s := x0_1) (y := y797) oo oo Ny797.out
                 obtain ⟨hcs25, hcs25'⟩ := sc Ny798
                 go_wp2_with (first | (refine gL (some 49) Tryd.func78 #[.string y798, .func (.func 79) #[] #[]] ?_; (with_reducible refine (Hd.strings_IndexFunc.calls y798 79 t799 _ A19.out).mono ?_); rintro e w26 ⟨rfl, hb⟩; refine ⟨_, rfl, ?_⟩; replace HO_6 := am (Kd.Q_below (by (with_reducible repeat (first | apply Kd.Q_alloc | apply Kd.Q_drewN | apply Kd.Q_drew)); exact HO_6.out) hb); replace HB := lb HB hb; have hcs27 := Hd.str_to (P := Tryd.prog) (k := .i64) Tryd.underlying9 (j := t799) (s := y797) (y := y800) oo oo Ny800.out; have hcs28 := Hd.str_from (P := Tryd.prog) (k := .i64) Tryd.underlying9 (i := (y800.size : Int)) (s := y797) (y := y801) oo oo Ny801.out; obtain ⟨Ao29, co29, eo29, _⟩ := Kd.Q_slice HO_6.out; subst eo29))
                 go_loopg [4, 5, 6, 57] k4 (fun kq v4 v5 v6 v57 w' => ∃ (x57_5 : Int), v57 = .int .i64 x57_5 ∧ Aside0 (num_Duration.l2 kq y801 x4_1 x5_1 x6_1 x9_4 y800 x6_1 (x6_1.length : Int) x57_5 = some (r1, r2)) ∧ Aside0 (kq ≤ k4) ∧ Aside0 (Kd.Q k98 98 w' w.heap.size (fun _ => True) (.slice Ao29 x6_1.length co29) x6_1) ∧ Aside0 (Kd.Q k98 98 w' w.heap.size (fun _ => True) (.slice Ao29 x6_1.length co29) x6_1) ∧ Aside0 (Below w.heap.size w w') ∧ v4 = .int .i64 x4_1 ∧ v5 = .bool x5_1 ∧ v6 = (.slice Ao29 x6_1.length co29))
                 case atStart => exact ⟨(0), (by first | rfl | (simp; done) | (simp [*]; done) | (simp [Hd.ne_nil_bool]; done)), H', ⟨Nat.le_refl _⟩, ⟨by (with_reducible repeat (first | apply Kd.Q_alloc | apply Kd.Q_drewN | apply Kd.Q_drew)); exact HO_6.out⟩, ⟨by (with_reducible repeat (first | apply Kd.Q_alloc | apply Kd.Q_drewN | apply Kd.Q_drew)); exact HO_6.out⟩, ⟨lk HB⟩, rfl, rfl, rfl⟩
                 case round =>
                  clear H'
                  obtain ⟨x57_5, rfl, HA, HK5, HO_6, HO_55, HB, rfl, rfl, rfl⟩ := hrel
                  have htd : ∀ y : Int, Int.tdiv 9007199254740992 y = 9007199254740992 / y := fun y => Int.tdiv_eq_ediv_of_nonneg (by decide)
                  cases gk with
                  | zero => exact absurd HA.out (by simp [num_Duration.l2])
                  | succ k5 =>
                   have H := HA.out
                   clear HA
                   simp only [num_Duration.l2] at H
                   by_cases c30 : x57_5 < (x6_1.length : Int)
                   ·
                    rw [if_pos c30] at H
                    have c30b0 := dt c30
                    clear c30
                    by_cases c31 : 0 ≤ x57_5
                    ·
                     rw [if_pos c31] at H
                     have c31b0 := dt c31
                     clear c31
                     by_cases c32 : x57_5 < (x6_1.length : Int)
                     ·
                      rw [if_pos c32] at H
                      have c32b0 := dt c32
                      clear c32
                      by_cases c33 : ((rd_T98 x6_1 x57_5).f0).toList = y800.toList
                      ·
                       rw [if_pos c33] at H
                       have c33b0 : (((rd_T98 x6_1 x57_5).f0).toList == y800.toList) = true := beq_iff_eq.mpr c33
                       have c33b1 : (((rd_T98 x6_1 x57_5).f0).toList != y800.toList) = false := bne_eq_false_iff_eq.mpr c33
                       clear c33
                       obtain ⟨ji34, hji34⟩ : ∃ j_ : Int, (wrap64 (x57_5 + 1)) = j_ := ⟨_, rfl⟩
                       replace H : (if 0 ≤ (ji34) then (if (ji34) ≤ (x6_1.length : Int) then ((some (x6_1.drop ((ji34) : Int).toNat : List (S98))).bind fun y804 => (if x5_1 = true then (num_Duration.l0 k5 y801 x4_1 true y804 false) else (if ((rd_T98 x6_1 x57_5).f1) = 0 then (none) else (if (x9_4 > (wrap64 ((9007199254740992 : Int) / ((rd_T98 x6_1 x57_5).f1)))) then (num_Duration.l0 k5 y801 x4_1 (decide (x9_4 > (wrap64 ((9007199254740992 : Int) / ((rd_T98 x6_1 x57_5).f1))))) y804 false) else (num_Duration.l0 k5 y801 (wrap64 (x4_1 + (wrap64 (x9_4 * ((rd_T98 x6_1 x57_5).f1))))) (decide ((wrap64 (x4_1 + (wrap64 (x9_4 * ((rd_T98 x6_1 x57_5).f1))))) > 9007199254740992)) y804 false))))) else (none)) else (none)) = some (r1, r2) := by first | (rw [hji34] at H; exact H) | (simp only [hji34] at H ⊢; exact H)
                       have hji34w : (IntKind.i64.wrap (x57_5 + 1)) = ji34 := (i64_w _).trans hji34
                       by_cases c35 : 0 ≤ (ji34)
                       ·
                        rw [if_pos c35] at H
                        have c35b0 := eq_true c35
                        have c35b1 := dt c35
                        clear c35
                        by_cases c36 : (ji34) ≤ (x6_1.length : Int)
                        ·
                         rw [if_pos c36] at H
                         have c36b0 := eq_true c36
                         have c36b1 := dt c36
                         clear c36
                         obtain ⟨y804, Ny804, H⟩ := yb H
                         by_cases c37 : x5_1 = true
                         ·
                          subst c37
                          have H1 : (num_Duration.l0 k5 y801 x4_1 true y804 false) = some (r1, r2) := by rw [if_pos rfl] at H; exact H
                          clear H
                          have H := H1
                          clear H1
                          have H' := am H
                          clear H
                          have p802 : 0 ≤ (x57_5 : Int) := od
                          have q802 : x57_5 < (x6_1.length : Int) := od
                          obtain ⟨ad802, e802, hx802_0, hx802_1⟩ := at_T98 (Kd.Q_reads' HO_55.out).2.2 x57_5 p802 q802
                          cases e802
                          replace p802 := eq_true p802
                          replace q802 := eq_true q802
                          go_wp2_with (first | ((with_reducible refine gate_dst (N := 13) rfl ?_); refine box_event ?hg (N := 13) ?hd (cs := #[.string (⟨#[]⟩ : ByteArray), .int .i64 0]) (t := 98) ?hr ?_; (case hd => rfl); (case hg => rfl); (case hr => first | (go_simp; done) | (go_simp; rfl)); intro gb803 hg w38 hbox hb; replace HO_6 := am (Kd.Q_below (Kd.Q_elderB (by (with_reducible repeat (first | apply Kd.Q_alloc | apply Kd.Q_drewN | apply Kd.Q_drew)); exact HO_6.out) gb803 (Nat.le_of_eq hg.symm)) hb); replace HO_55 := am (Kd.Q_below (Kd.Q_elderB (by (with_reducible repeat (first | apply Kd.Q_alloc | apply Kd.Q_drewN | apply Kd.Q_drew)); exact HO_55.out) gb803 (Nat.le_of_eq hg.symm)) hb); have BK803 := am (hbox); have GW803 := am ((by rw [hg]; exact (below_size (lk HB)) : w.heap.size ≤ gb803)); have GE803 := GW803; replace HB := lb HB hb; clear hb hbox hg; have hcz39_0 : w38.cell? ⟨gb803, 0, none⟩ = some (.string (⟨#[]⟩ : ByteArray)) := (blk_cell BK803.out 0).trans rfl; have hcz39_1 : w38.cell? ⟨gb803, 1, none⟩ = some (.int .i64 0) := (blk_cell BK803.out 1).trans rfl; have hfz39_0 := blk_frozen BK803.out 0; have hfz39_1 := blk_frozen BK803.out 1) | ((with_reducible refine gate_store (t := 98) (p := 13) rfl ?_); refine store_event (t := 98) (p := 13) (v := ?vo_w40) (w1 := ((w38.setCell ⟨gb803, 0, none⟩ (.string ((rd_T98 x6_1 x57_5).f0))).setCell ⟨gb803, 1, none⟩ (.int .i64 ((rd_T98 x6_1 x57_5).f1)))) ?hg ?ho ?hn ?hr ?_; (case ho => rfl); (case hg => rfl); (case hn => rfl); (case hr => first | (go_simp; done) | (go_simp; rfl)); intro w40 hw; have n0_ : Aside0 (Kd.Q k98 98 w40 w.heap.size (fun k_ => k_ ≠ gb803) (.slice (some ad802) x6_1.length co29) x6_1) := ⟨(by rw [hw]; exact (by (with_reducible repeat (first | apply Kd.Q_alloc | apply Kd.Q_drewN | apply Kd.Q_drew)); exact Kd.Q_mono (Kd.Q_far (p := ⟨gb803, 1, none⟩) (Kd.Q_far (p := ⟨gb803, 0, none⟩) (Kd.Q_mono HO_6.out (fun k_ hk => (⟨hk, hk.2⟩ : _ ∧ k_ ≠ gb803))) (fun _ hk => hk.2) (.string ((rd_T98 x6_1 x57_5).f0))) (fun _ hk => hk.2) (.int .i64 ((rd_T98 x6_1 x57_5).f1))) (fun _ hk => hk.1.2)))⟩; have n1_ : Aside0 (Kd.Q k98 98 w40 w.heap.size (fun k_ => k_ ≠ gb803) (.slice (some ad802) x6_1.length co29) x6_1) := ⟨(by rw [hw]; exact (by (with_reducible repeat (first | apply Kd.Q_alloc | apply Kd.Q_drewN | apply Kd.Q_drew)); exact Kd.Q_mono (Kd.Q_far (p := ⟨gb803, 1, none⟩) (Kd.Q_far (p := ⟨gb803, 0, none⟩) (Kd.Q_mono HO_55.out (fun k_ hk => (⟨hk, hk.2⟩ : _ ∧ k_ ≠ gb803))) (fun _ hk => hk.2) (.string ((rd_T98 x6_1 x57_5).f0))) (fun _ hk => hk.2) (.int .i64 ((rd_T98 x6_1 x57_5).f1))) (fun _ hk => hk.1.2)))⟩; have n2_ : Aside0 (w40.heap[gb803]? = some (.cells #[.string ((rd_T98 x6_1 x57_5).f0), .int .i64 ((rd_T98 x6_1 x57_5).f1)] 98 (0, 0))) := ⟨(by rw [hw]; exact (by (with_reducible repeat (first | refine blk_drewN ?_ _ | refine blk_drew ?_ | refine blk_alloc ?_ _)); refine blk_put (cs := #[.string ((rd_T98 x6_1 x57_5).f0), .int .i64 0]) ?_ 1 _ rfl; (with_reducible repeat (first | refine blk_drewN ?_ _ | refine blk_drew ?_ | refine blk_alloc ?_ _)); refine blk_put (cs := #[.string (⟨#[]⟩ : ByteArray), .int .i64 0]) ?_ 0 _ rfl; exact bk BK803))⟩; have n3_ : Aside0 (Below w.heap.size w w40) := ⟨(by rw [hw]; exact (lk HB))⟩; clear hw HO_6 HO_55 BK803 HB; have HO_6 := n0_; have HO_55 := n1_; have BK803 := n2_; have HB := n3_; clear n0_ n1_ n2_ n3_; have hcz41_0 : w40.cell? ⟨gb803, 0, none⟩ = some (.string ((rd_T98 x6_1 x57_5).f0)) := (blk_cell BK803.out 0).trans rfl; have hcz41_1 : w40.cell? ⟨gb803, 1, none⟩ = some (.int .i64 ((rd_T98 x6_1 x57_5).f1)) := (blk_cell BK803.out 1).trans rfl; have hfz41_0 := blk_frozen BK803.out 0; have hfz41_1 := blk_frozen BK803.out 1; have q42 : ((ji34) : Int) ≤ ((x6_1.length : Int) : Int) := od; obtain ⟨i042, hi042, _, hsz42, _⟩ := info_parts info98; have hcut42 := cut_from (P := Tryd.prog) 93 98 .i64 Tryd.underlying93 hi042 2 hsz42 (some ad802) x6_1.length co29 (ji34) (od) q42; have hr42 := Kd.Q_drop (k := ((ji34) : Int).toNat) HO_6.out (by omega); obtain ⟨A42, hA42⟩ : ∃ A1, A1 = (if co29 = ((ji34) : Int).toNat then (some ad802) else ((some ad802) : Option Addr).map (·.add (((ji34) : Int).toNat * 2))) := ⟨_, rfl⟩; obtain ⟨c42, hc42⟩ : ∃ c1, c1 = co29 - ((ji34) : Int).toNat := ⟨_, rfl⟩; have hy42 : y804.length = x6_1.length - ((ji34) : Int).toNat := (by rw [Ny804.out, List.length_drop]); rw [← Ny804.out] at hr42; rw [← hy42, ← hA42, ← hc42] at hcut42; replace hr42 : Kd.Q k98 98 w40 w.heap.size (fun k_ => k_ ≠ gb803) (.slice A42 y804.length c42) y804 := (by rw [hA42, hc42, hy42]; exact hr42); have HE42 : Aside0 ((Value.slice A42 y804.length c42).ownBlock = (.slice (some ad802) x6_1.length co29 : Value).ownBlock) := ⟨by rw [hA42]; split <;> (cases ((some ad802) : Option Addr) <;> first | rfl | (simp only [Option.map_some, Value.ownBlock, Addr.add]; split <;> rfl))⟩; clear hy42 hi042 hsz42 HO_6 hA42 hc42; have HO806 := am hr42; clear hr42; replace q42 := eq_true q42))
                          go_roundg k5
                          case measure => have := HK1.out; have := HJ4.out; have := HJ8.out; have := HK4.out; have := HK5.out; omega
                          case rel => exact ⟨(y801), (x4_1), (true), (y804), (false), (by first | rfl | (simp; done) | (simp [*]; done) | (simp [Hd.ne_nil_bool]; done)), (by first | rfl | (simp; done) | (simp [*]; done) | (simp [Hd.ne_nil_bool]; done)), (by first | rfl | (simp; done) | (simp [*]; done) | (simp [Hd.ne_nil_bool]; done)), (by first | rfl | (simp; done) | (simp [*]; done) | (simp [Hd.ne_nil_bool]; done)), H', ⟨by have := HK1.out; have := HJ4.out; have := HJ8.out; have := HK4.out; have := HK5.out; omega⟩, ⟨by (with_reducible repeat (first | apply Kd.Q_alloc | apply Kd.Q_drewN | apply Kd.Q_drew)); exact Kd.Q_mono HO806.out (fun _ hk => trivial)⟩, ⟨lk HB⟩⟩
                         replace c37 := Bool.eq_false_iff.mpr c37
                         subst c37
                         have H1 : (if ((rd_T98 x6_1 x57_5).f1) = 0 then (none) else (if (x9_4 > (wrap64 ((9007199254740992 : Int) / ((rd_T98 x6_1 x57_5).f1)))) then (num_Duration.l0 k5 y801 x4_1 (decide (x9_4 > (wrap64 ((9007199254740992 : Int) / ((rd_T98 x6_1 x57_5).f1))))) y804 false) else (num_Duration.l0 k5 y801 (wrap64 (x4_1 + (wrap64 (x9_4 * ((rd_T98 x6_1 x57_5).f1))))) (decide ((wrap64 (x4_1 + (wrap64 (x9_4 * ((rd_T98 x6_1 x57_5).f1))))) > 9007199254740992)) y804 false))) = some (r1, r2) := by rw [if_neg (show ¬ (false = true) by decide)] at H; exact H
                         clear H
                         have H := H1
                         clear H1
                         by_cases c43 : ((rd_T98 x6_1 x57_5).f1) = 0
                         ·
                          rw [if_pos c43] at H
                          exact absurd H (by simp)
                         rw [if_neg c43] at H
                         have c43b0 : (((rd_T98 x6_1 x57_5).f1) == 0) = false := beq_eq_false_iff_ne.mpr c43
                         have c43b1 : (((rd_T98 x6_1 x57_5).f1) != 0) = true := bne_iff_ne.mpr c43
                         by_cases c44 : (x9_4 > (wrap64 ((9007199254740992 : Int) / ((rd_T98 x6_1 x57_5).f1))))
                         ·
                          rw [if_pos c44] at H
                          have c44b0 : decide ((wrap64 ((9007199254740992 : Int) / ((rd_T98 x6_1 x57_5).f1))) < x9_4) = true := dt c44
                          clear c44
                          have H' := am H
                          clear H
                          have p802 : 0 ≤ (x57_5 : Int) := od
                          have q802 : x57_5 < (x6_1.length : Int) := od
                          obtain ⟨ad802, e802, hx802_0, hx802_1⟩ := at_T98 (Kd.Q_reads' HO_55.out).2.2 x57_5 p802 q802
                          cases e802
                          replace p802 := eq_true p802
                          replace q802 := eq_true q802
                          go_wp2_with (first | ((with_reducible refine gate_dst (N := 13) rfl ?_); refine box_event ?hg (N := 13) ?hd (cs := #[.string (⟨#[]⟩ : ByteArray), .int .i64 0]) (t := 98) ?hr ?_; (case hd => rfl); (case hg => rfl); (case hr => first | (go_simp; done) | (go_simp; rfl)); intro gb803 hg w45 hbox hb; replace HO_6 := am (Kd.Q_below (Kd.Q_elderB (by (with_reducible repeat (first | apply Kd.Q_alloc | apply Kd.Q_drewN | apply Kd.Q_drew)); exact HO_6.out) gb803 (Nat.le_of_eq hg.symm)) hb); replace HO_55 := am (Kd.Q_below (Kd.Q_elderB (by (with_reducible repeat (first | apply Kd.Q_alloc | apply Kd.Q_drewN | apply Kd.Q_drew)); exact HO_55.out) gb803 (Nat.le_of_eq hg.symm)) hb); have BK803 := am (hbox); have GW803 := am ((by rw [hg]; exact (below_size (lk HB)) : w.heap.size ≤ gb803)); have GE803 := GW803; replace HB := lb HB hb; clear hb hbox hg; have hcz46_0 : w45.cell? ⟨gb803, 0, none⟩ = some (.string (⟨#[]⟩ : ByteArray)) := (blk_cell BK803.out 0).trans rfl; have hcz46_1 : w45.cell? ⟨gb803, 1, none⟩ = some (.int .i64 0) := (blk_cell BK803.out 1).trans rfl; have hfz46_0 := blk_frozen BK803.out 0; have hfz46_1 := blk_frozen BK803.out 1) | ((with_reducible refine gate_store (t := 98) (p := 13) rfl ?_); refine store_event (t := 98) (p := 13) (v := ?vo_w47) (w1 := ((w45.setCell ⟨gb803, 0, none⟩ (.string ((rd_T98 x6_1 x57_5).f0))).setCell ⟨gb803, 1, none⟩ (.int .i64 ((rd_T98 x6_1 x57_5).f1)))) ?hg ?ho ?hn ?hr ?_; (case ho => rfl); (case hg => rfl); (case hn => rfl); (case hr => first | (go_simp; done) | (go_simp; rfl)); intro w47 hw; have n0_ : Aside0 (Kd.Q k98 98 w47 w.heap.size (fun k_ => k_ ≠ gb803) (.slice (some ad802) x6_1.length co29) x6_1) := ⟨(by rw [hw]; exact (by (with_reducible repeat (first | apply Kd.Q_alloc | apply Kd.Q_drewN | apply Kd.Q_drew)); exact Kd.Q_mono (Kd.Q_far (p := ⟨gb803, 1, none⟩) (Kd.Q_far (p := ⟨gb803, 0, none⟩) (Kd.Q_mono HO_6.out (fun k_ hk => (⟨hk, hk.2⟩ : _ ∧ k_ ≠ gb803))) (fun _ hk => hk.2) (.string ((rd_T98 x6_1 x57_5).f0))) (fun _ hk => hk.2) (.int .i64 ((rd_T98 x6_1 x57_5).f1))) (fun _ hk => hk.1.2)))⟩; have n1_ : Aside0 (Kd.Q k98 98 w47 w.heap.size (fun k_ => k_ ≠ gb803) (.slice (some ad802) x6_1.length co29) x6_1) := ⟨(by rw [hw]; exact (by (with_reducible repeat (first | apply Kd.Q_alloc | apply Kd.Q_drewN | apply Kd.Q_drew)); exact Kd.Q_mono (Kd.Q_far (p := ⟨gb803, 1, none⟩) (Kd.Q_far (p := ⟨gb803, 0, none⟩) (Kd.Q_mono HO_55.out (fun k_ hk => (⟨hk, hk.2⟩ : _ ∧ k_ ≠ gb803))) (fun _ hk => hk.2) (.string ((rd_T98 x6_1 x57_5).f0))) (fun _ hk => hk.2) (.int .i64 ((rd_T98 x6_1 x57_5).f1))) (fun _ hk => hk.1.2)))⟩; have n2_ : Aside0 (w47.heap[gb803]? = some (.cells #[.string ((rd_T98 x6_1 x57_5).f0), .int .i64 ((rd_T98 x6_1 x57_5).f1)] 98 (0, 0))) := ⟨(by rw [hw]; exact (by (with_reducible repeat (first | refine blk_drewN ?_ _ | refine blk_drew ?_ | refine blk_alloc ?_ _)); refine blk_put (cs := #[.string ((rd_T98 x6_1 x57_5).f0), .int .i64 0]) ?_ 1 _ rfl; (with_reducible repeat (first | refine blk_drewN ?_ _ | refine blk_drew ?_ | refine blk_alloc ?_ _)); refine blk_put (cs := #[.string (⟨#[]⟩ : ByteArray), .int .i64 0]) ?_ 0 _ rfl; exact bk BK803))⟩; have n3_ : Aside0 (Below w.heap.size w w47) := ⟨(by rw [hw]; exact (lk HB))⟩; clear hw HO_6 HO_55 BK803 HB; have HO_6 := n0_; have HO_55 := n1_; have BK803 := n2_; have HB := n3_; clear n0_ n1_ n2_ n3_; have hcz48_0 : w47.cell? ⟨gb803, 0, none⟩ = some (.string ((rd_T98 x6_1 x57_5).f0)) := (blk_cell BK803.out 0).trans rfl; have hcz48_1 : w47.cell? ⟨gb803, 1, none⟩ = some (.int .i64 ((rd_T98 x6_1 x57_5).f1)) := (blk_cell BK803.out 1).trans rfl; have hfz48_0 := blk_frozen BK803.out 0; have hfz48_1 := blk_frozen BK803.out 1; have q49 : ((ji34) : Int) ≤ ((x6_1.length : Int) : Int) := od; obtain ⟨i049, hi049, _, hsz49, _⟩ := info_parts info98; have hcut49 := cut_from (P := Tryd.prog) 93 98 .i64 Tryd.underlying93 hi049 2 hsz49 (some ad802) x6_1.length co29 (ji34) (od) q49; have hr49 := Kd.Q_drop (k := ((ji34) : Int).toNat) HO_6.out (by omega); obtain ⟨A49, hA49⟩ : ∃ A1, A1 = (if co29 = ((ji34) : Int).toNat then (some ad802) else ((some ad802) : Option Addr).map (·.add (((ji34) : Int).toNat * 2))) := ⟨_, rfl⟩; obtain ⟨c49, hc49⟩ : ∃ c1, c1 = co29 - ((ji34) : Int).toNat := ⟨_, rfl⟩; have hy49 : y804.length = x6_1.length - ((ji34) : Int).toNat := (by rw [Ny804.out, List.length_drop]); rw [← Ny804.out] at hr49; rw [← hy49, ← hA49, ← hc49] at hcut49; replace hr49 : Kd.Q k98 98 w47 w.heap.size (fun k_ => k_ ≠ gb803) (.slice A49 y804.length c49) y804 := (by rw [hA49, hc49, hy49]; exact hr49); have HE49 : Aside0 ((Value.slice A49 y804.length c49).ownBlock = (.slice (some ad802) x6_1.length co29 : Value).ownBlock) := ⟨by rw [hA49]; split <;> (cases ((some ad802) : Option Addr) <;> first | rfl | (simp only [Option.map_some, Value.ownBlock, Addr.add]; split <;> rfl))⟩; clear hy49 hi049 hsz49 HO_6 hA49 hc49; have HO806 := am hr49; clear hr49; replace q49 := eq_true q49))
                          go_roundg k5
                          case measure => have := HK1.out; have := HJ4.out; have := HJ8.out; have := HK4.out; have := HK5.out; omega
                          case rel => exact ⟨(y801), (x4_1), (decide (x9_4 > (wrap64 ((9007199254740992 : Int) / ((rd_T98 x6_1 x57_5).f1))))), (y804), (false), (by first | rfl | (simp; done) | (simp [*]; done) | (simp [Hd.ne_nil_bool]; done)), (by first | rfl | (simp; done) | (simp [*]; done) | (simp [Hd.ne_nil_bool]; done)), (by first | rfl | (simp; done) | (simp [*]; done) | (simp [Hd.ne_nil_bool]; done)), (by first | rfl | (simp; done) | (simp [*]; done) | (simp [Hd.ne_nil_bool]; done)), H', ⟨by have := HK1.out; have := HJ4.out; have := HJ8.out; have := HK4.out; have := HK5.out; omega⟩, ⟨by (with_reducible repeat (first | apply Kd.Q_alloc | apply Kd.Q_drewN | apply Kd.Q_drew)); exact Kd.Q_mono HO806.out (fun _ hk => trivial)⟩, ⟨lk HB⟩⟩
                         rw [if_neg c44] at H
                         have c44b0 : decide ((wrap64 ((9007199254740992 : Int) / ((rd_T98 x6_1 x57_5).f1))) < x9_4) = false := decide_eq_false c44
                         clear c44
                         have H' := am H
                         clear H
                         have p802 : 0 ≤ (x57_5 : Int) := od
                         have q802 : x57_5 < (x6_1.length : Int) := od
                         obtain ⟨ad802, e802, hx802_0, hx802_1⟩ := at_T98 (Kd.Q_reads' HO_55.out).2.2 x57_5 p802 q802
                         cases e802
                         replace p802 := eq_true p802
                         replace q802 := eq_true q802
                         go_wp2_with (first | ((with_reducible refine gate_dst (N := 13) rfl ?_); refine box_event ?hg (N := 13) ?hd (cs := #[.string (⟨#[]⟩ : ByteArray), .int .i64 0]) (t := 98) ?hr ?_; (case hd => rfl); (case hg => rfl); (case hr => first | (go_simp; done) | (go_simp; rfl)); intro gb803 hg w50 hbox hb; replace HO_6 := am (Kd.Q_below (Kd.Q_elderB (by (with_reducible repeat (first | apply Kd.Q_alloc | apply Kd.Q_drewN | apply Kd.Q_drew)); exact HO_6.out) gb803 (Nat.le_of_eq hg.symm)) hb); replace HO_55 := am (Kd.Q_below (Kd.Q_elderB (by (with_reducible repeat (first | apply Kd.Q_alloc | apply Kd.Q_drewN | apply Kd.Q_drew)); exact HO_55.out) gb803 (Nat.le_of_eq hg.symm)) hb); have BK803 := am (hbox); have GW803 := am ((by rw [hg]; exact (below_size (lk HB)) : w.heap.size ≤ gb803)); have GE803 := GW803; replace HB := lb HB hb; clear hb hbox hg; have hcz51_0 : w50.cell? ⟨gb803, 0, none⟩ = some (.string (⟨#[]⟩ : ByteArray)) := (blk_cell BK803.out 0).trans rfl; have hcz51_1 : w50.cell? ⟨gb803, 1, none⟩ = some (.int .i64 0) := (blk_cell BK803.out 1).trans rfl; have hfz51_0 := blk_frozen BK803.out 0; have hfz51_1 := blk_frozen BK803.out 1) | ((with_reducible refine gate_store (t := 98) (p := 13) rfl ?_); refine store_event (t := 98) (p := 13) (v := ?vo_w52) (w1 := ((w50.setCell ⟨gb803, 0, none⟩ (.string ((rd_T98 x6_1 x57_5).f0))).setCell ⟨gb803, 1, none⟩ (.int .i64 ((rd_T98 x6_1 x57_5).f1)))) ?hg ?ho ?hn ?hr ?_; (case ho => rfl); (case hg => rfl); (case hn => rfl); (case hr => first | (go_simp; done) | (go_simp; rfl)); intro w52 hw; have n0_ : Aside0 (Kd.Q k98 98 w52 w.heap.size (fun k_ => k_ ≠ gb803) (.slice (some ad802) x6_1.length co29) x6_1) := ⟨(by rw [hw]; exact (by (with_reducible repeat (first | apply Kd.Q_alloc | apply Kd.Q_drewN | apply Kd.Q_drew)); exact Kd.Q_mono (Kd.Q_far (p := ⟨gb803, 1, none⟩) (Kd.Q_far (p := ⟨gb803, 0, none⟩) (Kd.Q_mono HO_6.out (fun k_ hk => (⟨hk, hk.2⟩ : _ ∧ k_ ≠ gb803))) (fun _ hk => hk.2) (.string ((rd_T98 x6_1 x57_5).f0))) (fun _ hk => hk.2) (.int .i64 ((rd_T98 x6_1 x57_5).f1))) (fun _ hk => hk.1.2)))⟩; have n1_ : Aside0 (Kd.Q k98 98 w52 w.heap.size (fun k_ => k_ ≠ gb803) (.slice (some ad802) x6_1.length co29) x6_1) := ⟨(by rw [hw]; exact (by (with_reducible repeat (first | apply Kd.Q_alloc | apply Kd.Q_drewN | apply Kd.Q_drew)); exact Kd.Q_mono (Kd.Q_far (p := ⟨gb803, 1, none⟩) (Kd.Q_far (p := ⟨gb803, 0, none⟩) (Kd.Q_mono HO_55.out (fun k_ hk => (⟨hk, hk.2⟩ : _ ∧ k_ ≠ gb803))) (fun _ hk => hk.2) (.string ((rd_T98 x6_1 x57_5).f0))) (fun _ hk => hk.2) (.int .i64 ((rd_T98 x6_1 x57_5).f1))) (fun _ hk => hk.1.2)))⟩; have n2_ : Aside0 (w52.heap[gb803]? = some (.cells #[.string ((rd_T98 x6_1 x57_5).f0), .int .i64 ((rd_T98 x6_1 x57_5).f1)] 98 (0, 0))) := ⟨(by rw [hw]; exact (by (with_reducible repeat (first | refine blk_drewN ?_ _ | refine blk_drew ?_ | refine blk_alloc ?_ _)); refine blk_put (cs := #[.string ((rd_T98 x6_1 x57_5).f0), .int .i64 0]) ?_ 1 _ rfl; (with_reducible repeat (first | refine blk_drewN ?_ _ | refine blk_drew ?_ | refine blk_alloc ?_ _)); refine blk_put (cs := #[.string (⟨#[]⟩ : ByteArray), .int .i64 0]) ?_ 0 _ rfl; exact bk BK803))⟩; have n3_ : Aside0 (Below w.heap.size w w52) := ⟨(by rw [hw]; exact (lk HB))⟩; clear hw HO_6 HO_55 BK803 HB; have HO_6 := n0_; have HO_55 := n1_; have BK803 := n2_; have HB := n3_; clear n0_ n1_ n2_ n3_; have hcz53_0 : w52.cell? ⟨gb803, 0, none⟩ = some (.string ((rd_T98 x6_1 x57_5).f0)) := (blk_cell BK803.out 0).trans rfl; have hcz53_1 : w52.cell? ⟨gb803, 1, none⟩ = some (.int .i64 ((rd_T98 x6_1 x57_5).f1)) := (blk_cell BK803.out 1).trans rfl; have hfz53_0 := blk_frozen BK803.out 0; have hfz53_1 := blk_frozen BK803.out 1; have q54 : ((ji34) : Int) ≤ ((x6_1.length : Int) : Int) := od; obtain ⟨i054, hi054, _, hsz54, _⟩ := info_parts info98; have hcut54 := cut_from (P := Tryd.prog) 93 98 .i64 Tryd.underlying93 hi054 2 hsz54 (some ad802) x6_1.length co29 (ji34) (od) q54; have hr54 := Kd.Q_drop (k := ((ji34) : Int).toNat) HO_6.out (by omega); obtain ⟨A54, hA54⟩ : ∃ A1, A1 = (if co29 = ((ji34) : Int).toNat then (some ad802) else ((some ad802) : Option Addr).map (·.add (((ji34) : Int).toNat * 2))) := ⟨_, rfl⟩; obtain ⟨c54, hc54⟩ : ∃ c1, c1 = co29 - ((ji34) : Int).toNat := ⟨_, rfl⟩; have hy54 : y804.length = x6_1.length - ((ji34) : Int).toNat := (by rw [Ny804.out, List.length_drop]); rw [← Ny804.out] at hr54; rw [← hy54, ← hA54, ← hc54] at hcut54; replace hr54 : Kd.Q k98 98 w52 w.heap.size (fun k_ => k_ ≠ gb803) (.slice A54 y804.length c54) y804 := (by rw [hA54, hc54, hy54]; exact hr54); have HE54 : Aside0 ((Value.slice A54 y804.length c54).ownBlock = (.slice (some ad802) x6_1.length co29 : Value).ownBlock) := ⟨by rw [hA54]; split <;> (cases ((some ad802) : Option Addr) <;> first | rfl | (simp only [Option.map_some, Value.ownBlock, Addr.add]; split <;> rfl))⟩; clear hy54 hi054 hsz54 HO_6 hA54 hc54; have HO806 := am hr54; clear hr54; replace q54 := eq_true q54))
                         go_roundg k5
                         case measure => have := HK1.out; have := HJ4.out; have := HJ8.out; have := HK4.out; have := HK5.out; omega
                         case rel => exact ⟨(y801), (wrap64 (x4_1 + (wrap64 (x9_4 * ((rd_T98 x6_1 x57_5).f1))))), (decide ((wrap64 (x4_1 + (wrap64 (x9_4 * ((rd_T98 x6_1 x57_5).f1))))) > 9007199254740992)), (y804), (false), (by first | rfl | (simp; done) | (simp [*]; done) | (simp [Hd.ne_nil_bool]; done)), (by first | rfl | (simp; done) | (simp [*]; done) | (simp [Hd.ne_nil_bool]; done)), (by first | rfl | (simp; done) | (simp [*]; done) | (simp [Hd.ne_nil_bool]; done)), (by first | rfl | (simp; done) | (simp [*]; done) | (simp [Hd.ne_nil_bool]; done)), H', ⟨by have := HK1.out; have := HJ4.out; have := HJ8.out; have := HK4.out; have := HK5.out; omega⟩, ⟨by (with_reducible repeat (first | apply Kd.Q_alloc | apply Kd.Q_drewN | apply Kd.Q_drew)); exact Kd.Q_mono HO806.out (fun _ hk => trivial)⟩, ⟨lk HB⟩⟩
                        rw [if_neg c36] at H
                        exact absurd H (by simp)
                       rw [if_neg c35] at H
                       exact absurd H (by simp)
                      rw [if_neg c33] at H
                      have c33b0 : (((rd_T98 x6_1 x57_5).f0).toList == y800.toList) = false := beq_eq_false_iff_ne.mpr c33
                      have c33b1 : (((rd_T98 x6_1 x57_5).f0).toList != y800.toList) = true := bne_iff_ne.mpr c33
                      have H' := am H
                      clear H
                      have p802 : 0 ≤ (x57_5 : Int) := od
                      have q802 : x57_5 < (x6_1.length : Int) := od
                      obtain ⟨ad802, e802, hx802_0, hx802_1⟩ := at_T98 (Kd.Q_reads' HO_55.out).2.2 x57_5 p802 q802
                      cases e802
                      replace p802 := eq_true p802
                      replace q802 := eq_true q802
                      go_wp2_with (first | ((with_reducible refine gate_dst (N := 13) rfl ?_); refine box_event ?hg (N := 13) ?hd (cs := #[.string (⟨#[]⟩ : ByteArray), .int .i64 0]) (t := 98) ?hr ?_; (case hd => rfl); (case hg => rfl); (case hr => first | (go_simp; done) | (go_simp; rfl)); intro gb803 hg w55 hbox hb; replace HO_6 := am (Kd.Q_below (Kd.Q_elderB (by (with_reducible repeat (first | apply Kd.Q_alloc | apply Kd.Q_drewN | apply Kd.Q_drew)); exact HO_6.out) gb803 (Nat.le_of_eq hg.symm)) hb); replace HO_55 := am (Kd.Q_below (Kd.Q_elderB (by (with_reducible repeat (first | apply Kd.Q_alloc | apply Kd.Q_drewN | apply Kd.Q_drew)); exact HO_55.out) gb803 (Nat.le_of_eq hg.symm)) hb); have BK803 := am (hbox); have GW803 := am ((by rw [hg]; exact (below_size (lk HB)) : w.heap.size ≤ gb803)); have GE803 := GW803; replace HB := lb HB hb; clear hb hbox hg; have hcz56_0 : w55.cell? ⟨gb803, 0, none⟩ = some (.string (⟨#[]⟩ : ByteArray)) := (blk_cell BK803.out 0).trans rfl; have hcz56_1 : w55.cell? ⟨gb803, 1, none⟩ = some (.int .i64 0) := (blk_cell BK803.out 1).trans rfl; have hfz56_0 := blk_frozen BK803.out 0; have hfz56_1 := blk_frozen BK803.out 1))
                      go_roundg k5
                      case measure => have := HK1.out; have := HJ4.out; have := HJ8.out; have := HK4.out; have := HK5.out; omega
                      case rel => exact ⟨(wrap64 (x57_5 + 1)), (by first | rfl | (simp; done) | (simp [*]; done) | (simp [Hd.ne_nil_bool]; done)), H', ⟨by have := HK1.out; have := HJ4.out; have := HJ8.out; have := HK4.out; have := HK5.out; omega⟩, ⟨by (with_reducible repeat (first | apply Kd.Q_alloc | apply Kd.Q_drewN | apply Kd.Q_drew)); exact Kd.Q_mono (Kd.Q_far (p := ⟨gb803, 1, none⟩) (Kd.Q_far (p := ⟨gb803, 0, none⟩) (Kd.Q_mono HO_6.out (fun k_ hk => (⟨hk, hk.2⟩ : _ ∧ k_ ≠ gb803))) (fun _ hk => hk.2) (.string ((rd_T98 x6_1 x57_5).f0))) (fun _ hk => hk.2) (.int .i64 ((rd_T98 x6_1 x57_5).f1))) (fun _ hk => trivial)⟩, ⟨by (with_reducible repeat (first | apply Kd.Q_alloc | apply Kd.Q_drewN | apply Kd.Q_drew)); exact Kd.Q_mono (Kd.Q_far (p := ⟨gb803, 1, none⟩) (Kd.Q_far (p := ⟨gb803, 0, none⟩) (Kd.Q_mono HO_55.out (fun k_ hk => (⟨hk, hk.2⟩ : _ ∧ k_ ≠ gb803))) (fun _ hk => hk.2) (.string ((rd_T98 x6_1 x57_5).f0))) (fun _ hk => hk.2) (.int .i64 ((rd_T98 x6_1 x57_5).f1))) (fun _ hk => trivial)⟩, ⟨lk HB⟩, rfl, rfl, rfl⟩
                     rw [if_neg c32] at H
                     exact absurd H (by simp)
                    rw [if_neg c31] at H
                    exact absurd H (by simp)
                   rw [if_neg c30] at H
                   have c30b0 := decide_eq_false c30
                   clear c30
                   simp only [Option.some.injEq, Prod.mk.injEq] at H
                   obtain ⟨rfl, rfl⟩ := H
                   go_wp2
                   (try rw [Exit.noGoto_ret])
                   go_ret2
                   exact ex (lk HB)
                rw [if_neg c23] at H
                exact absurd H (by simp)
               rw [if_neg c22] at H
               exact absurd H (by simp)
              rw [if_neg c21] at H
              exact absurd H (by simp)
             rw [if_neg c20] at H
             exact absurd H (by simp)
            rw [if_neg c18] at H
            exact absurd H (by simp)
           rw [if_neg c17] at H
           exact absurd H (by simp)
          rw [if_neg c16] at H
          exact absurd H (by simp)
     replace c7 := Bool.eq_false_iff.mpr c7
     subst c7
     have H1 : (if x5_1 = true then (some (0, 9)) else (some (x4_1, 0))) = some (r1, r2) := by rw [if_neg (show ¬ (false = true) by decide)] at H; exact H
     clear H
     have H := H1
     clear H1
     by_cases c57 : x5_1 = true
     ·
      subst c57
      have H1 : (some (0, 9)) = some (r1, r2) := by rw [if_pos rfl] at H; exact H
      clear H
      have H := H1
      clear H1
      simp only [Option.some.injEq, Prod.mk.injEq] at H
      obtain ⟨rfl, rfl⟩ := H
      go_wp2
      (try rw [Exit.noGoto_ret])
      go_ret2
      exact ex (lk HB)
     replace c57 := Bool.eq_false_iff.mpr c57
     subst c57
     have H1 : (some (x4_1, 0)) = some (r1, r2) := by rw [if_neg (show ¬ (false = true) by decide)] at H; exact H
     clear H
     have H := H1
     clear H1
     simp only [Option.some.injEq, Prod.mk.injEq] at H
     obtain ⟨rfl, rfl⟩ := H
     go_wp2
     (try rw [Exit.noGoto_ret])
     go_ret2
     exact ex (lk HB)
end Go.Proofs.YtjlnfnfdibfniaaDoor.F
namespace Go.Proofs.YtjlnfnfdibfniaaDoor.Pl
def Runs {α : Type} (g : Nat → Option α) (r : α) : Prop := ∃ K, ∀ k, K ≤ k → g k = some r
theorem Runs.suc {α : Type} {g : Nat → Option α} {r : α} (h : Runs (fun k => g (k + 1)) r) : Runs g r := by
 obtain ⟨K, h⟩ := h
 refine ⟨K + 1, fun k hk => ?_⟩
 obtain ⟨k, rfl⟩ : ∃ j, k = j + 1 := ⟨k - 1, by omega⟩
 exact h k (by omega)
theorem Runs.bind {α β : Type} {g : Nat → Option α} {h : Nat → α → Option β} {a : α} {b : β} (hg : Runs g a) (hh : Runs (fun k => h k a) b) : Runs (fun k => (g k).bind (h k)) b := by
 obtain ⟨K, hg⟩ := hg
 obtain ⟨L, hh⟩ := hh
 exact ⟨max K L, fun k hk => by show (g k).bind (h k) = _; rw [hg k (by omega), Option.bind_some]; exact hh k (by omega)⟩
theorem Runs.pure {α : Type} (a : α) : Runs (fun _ => some a) a := ⟨0, fun _ _ => rfl⟩
theorem Runs.yes {α : Type} {c : Prop} [Decidable c] {A B : Nat → Option α} {r : α} (h : c) (hA : Runs A r) : Runs (fun k => if c then A k else B k) r := by
 obtain ⟨K, hA⟩ := hA
 exact ⟨K, fun k hk => by show (if c then A k else B k) = _; rw [if_pos h]; exact hA k hk⟩
theorem Runs.no {α : Type} {c : Prop} [Decidable c] {A B : Nat → Option α} {r : α} (h : ¬ c) (hB : Runs B r) : Runs (fun k => if c then A k else B k) r := by
 obtain ⟨K, hB⟩ := hB
 exact ⟨K, fun k hk => by show (if c then A k else B k) = _; rw [if_neg h]; exact hB k hk⟩
theorem Runs.of {α : Type} {g : Nat → Option α} {a b : α} (h : Runs g a) (e : a = b) : Runs g b := e ▸ h
theorem snoc_cases {α : Type} (l : List α) : l = [] ∨ ∃ m x, l = m ++ [x] := by
 rcases List.eq_nil_or_concat l with h | ⟨m, x, h⟩
 ·
  exact .inl h
 ·
  exact .inr ⟨m, x, by simpa using h⟩
end Go.Proofs.YtjlnfnfdibfniaaDoor.Pl
namespace Go.Proofs
open Go.Shelf
def Tryd.lays128_ren : Go.Shelf.Ren := ⟨fun | 128 => 85 | n => n, fun | 51 => 102 | 3 => 3 | 4 => 4 | 46 => 65 | 5 => 5 | 9 => 9 | n => n, fun | n => n⟩
theorem Tryd.lays128 : Go.Proofs.Lays.n128 Tryd.prog Tryd.lays128_ren := {
 mixed := by kernel_rfl
 f128 := Tryd.func85.trans (congrArg some (by kernel_rfl))
 t3 := Tryd.underlying3
 a3 := Tryd.isAgg3
 z3 := Tryd.sizeOf3
 v3 := Tryd.zeroValue3
 t4 := Tryd.underlying4
 a4 := Tryd.isAgg4
 z4 := Tryd.sizeOf4
 v4 := Tryd.zeroValue4
 t5 := Tryd.underlying5
 a5 := Tryd.isAgg5
 z5 := Tryd.sizeOf5
 v5 := Tryd.zeroValue5
 t9 := Tryd.underlying9
 a9 := Tryd.isAgg9
 z9 := Tryd.sizeOf9
 v9 := Tryd.zeroValue9
 t46 := Tryd.underlying65
 a46 := Tryd.isAgg65
 z46 := Tryd.sizeOf65
 v46 := Tryd.zeroValue65
 t51 := Tryd.underlying102
 a51 := Tryd.isAgg102
 z51 := Tryd.sizeOf102
 v51 := Tryd.zeroValue102 }
theorem Tryd.bits_Len32 (x : Int) (w : World) (h0 : 0 ≤ x) (h1 : x ≤ 4294967295) :
  Calls Tryd.prog 85 #[.int .u32 x] w fun e w' => e = .returned (.int .i64 (Lib.bitLen x.toNat)) ∧ w' = w := Any.bits_Len32 Tryd.lays128 x w h0 h1
def Tryd.lays129_ren : Go.Shelf.Ren := ⟨fun | 129 => 119 | n => n, fun | 53 => 25 | 3 => 3 | 4 => 4 | 46 => 65 | 5 => 5 | 9 => 9 | n => n, fun | n => n⟩
theorem Tryd.lays129 : Go.Proofs.Lays.n129 Tryd.prog Tryd.lays129_ren := {
 mixed := by kernel_rfl
 f129 := Tryd.func119.trans (congrArg some (by kernel_rfl))
 t3 := Tryd.underlying3
 a3 := Tryd.isAgg3
 z3 := Tryd.sizeOf3
 v3 := Tryd.zeroValue3
 t4 := Tryd.underlying4
 a4 := Tryd.isAgg4
 z4 := Tryd.sizeOf4
 v4 := Tryd.zeroValue4
 t5 := Tryd.underlying5
 a5 := Tryd.isAgg5
 z5 := Tryd.sizeOf5
 v5 := Tryd.zeroValue5
 t9 := Tryd.underlying9
 a9 := Tryd.isAgg9
 z9 := Tryd.sizeOf9
 v9 := Tryd.zeroValue9
 t46 := Tryd.underlying65
 a46 := Tryd.isAgg65
 z46 := Tryd.sizeOf65
 v46 := Tryd.zeroValue65
 t53 := Tryd.underlying25
 a53 := Tryd.isAgg25
 z53 := Tryd.sizeOf25
 v53 := Tryd.zeroValue25 }
theorem Tryd.bits_Len64 (x : Int) (w : World) (h0 : 0 ≤ x) (h1 : x ≤ 18446744073709551615) :
  Calls Tryd.prog 119 #[.int .u64 x] w fun e w' => e = .returned (.int .i64 (Lib.bitLen x.toNat)) ∧ w' = w := Any.bits_Len64 Tryd.lays129 x w h0 h1
def Tryd.lays105_ren : Go.Shelf.Ren := ⟨fun | 105 => 62 | 212 => 95 | 99 => 96 | 165 => 97 | 166 => 98 | 170 => 99 | 169 => 100 | 263 => 111 | 264 => 112 | 206 => 113 | 240 => 114 | 241 => 115 | 276 => 125 | 277 => 126 | n => n, fun | 9 => 9 | 3 => 3 | 4 => 4 | 20 => 20 | 0 => 0 | 46 => 65 | 109 => 112 | 5 => 5 | 72 => 117 | 76 => 121 | 51 => 102 | 146 => 135 | 53 => 25 | 148 => 137 | 70 => 115 | 37 => 43 | 75 => 120 | 127 => 139 | 164 => 144 | 80 => 123 | n => n, fun | n => n⟩
theorem Tryd.lays105 : Go.Proofs.Lays.n105 Tryd.prog Tryd.lays105_ren := {
 mixed := by kernel_rfl
 f99 := Tryd.func96.trans (congrArg some (by kernel_rfl))
 f105 := Tryd.func62.trans (congrArg some (by kernel_rfl))
 f165 := Tryd.func97.trans (congrArg some (by kernel_rfl))
 f166 := Tryd.func98.trans (congrArg some (by kernel_rfl))
 f169 := Tryd.func100.trans (congrArg some (by kernel_rfl))
 f170 := Tryd.func99.trans (congrArg some (by kernel_rfl))
 f206 := Tryd.func113.trans (congrArg some (by kernel_rfl))
 f212 := Tryd.func95.trans (congrArg some (by kernel_rfl))
 f240 := Tryd.func114.trans (congrArg some (by kernel_rfl))
 f241 := Tryd.func115.trans (congrArg some (by kernel_rfl))
 f263 := Tryd.func111.trans (congrArg some (by kernel_rfl))
 f264 := Tryd.func112.trans (congrArg some (by kernel_rfl))
 f276 := Tryd.func125.trans (congrArg some (by kernel_rfl))
 f277 := Tryd.func126.trans (congrArg some (by kernel_rfl))
 t0 := Tryd.underlying0
 a0 := Tryd.isAgg0
 z0 := Tryd.sizeOf0
 v0 := Tryd.zeroValue0
 t3 := Tryd.underlying3
 a3 := Tryd.isAgg3
 z3 := Tryd.sizeOf3
 v3 := Tryd.zeroValue3
 t4 := Tryd.underlying4
 a4 := Tryd.isAgg4
 z4 := Tryd.sizeOf4
 v4 := Tryd.zeroValue4
 t5 := Tryd.underlying5
 a5 := Tryd.isAgg5
 z5 := Tryd.sizeOf5
 v5 := Tryd.zeroValue5
 t9 := Tryd.underlying9
 a9 := Tryd.isAgg9
 z9 := Tryd.sizeOf9
 v9 := Tryd.zeroValue9
 t20 := Tryd.underlying20
 a20 := Tryd.isAgg20
 z20 := Tryd.sizeOf20
 v20 := Tryd.zeroValue20
 t37 := Tryd.underlying43
 a37 := Tryd.isAgg43
 z37 := Tryd.sizeOf43
 v37 := Tryd.zeroValue43
 t46 := Tryd.underlying65
 a46 := Tryd.isAgg65
 z46 := Tryd.sizeOf65
 v46 := Tryd.zeroValue65
 t51 := Tryd.underlying102
 a51 := Tryd.isAgg102
 z51 := Tryd.sizeOf102
 v51 := Tryd.zeroValue102
 t53 := Tryd.underlying25
 a53 := Tryd.isAgg25
 z53 := Tryd.sizeOf25
 v53 := Tryd.zeroValue25
 t70 := Tryd.underlying115
 a70 := Tryd.isAgg115
 z70 := Tryd.sizeOf115
 v70 := Tryd.zeroValue115
 t72 := Tryd.underlying117
 a72 := Tryd.isAgg117
 z72 := Tryd.sizeOf117
 v72 := Tryd.zeroValue117
 t75 := Tryd.underlying120
 a75 := Tryd.isAgg120
 z75 := Tryd.sizeOf120
 v75 := Tryd.zeroValue120
 t76 := Tryd.underlying121
 a76 := Tryd.isAgg121
 z76 := Tryd.sizeOf121
 v76 := Tryd.zeroValue121
 t109 := Tryd.underlying112
 a109 := Tryd.isAgg112
 z109 := Tryd.sizeOf112
 v109 := Tryd.zeroValue112
 t127 := Tryd.underlying139
 a127 := Tryd.isAgg139
 z127 := Tryd.sizeOf139
 v127 := Tryd.zeroValue139
 t146 := Tryd.underlying135
 a146 := Tryd.isAgg135
 z146 := Tryd.sizeOf135
 v146 := Tryd.zeroValue135
 t148 := Tryd.underlying137
 a148 := Tryd.isAgg137
 z148 := Tryd.sizeOf137
 v148 := Tryd.zeroValue137
 t164 := Tryd.underlying144
 a164 := Tryd.isAgg144
 z164 := Tryd.sizeOf144
 v164 := Tryd.zeroValue144 }
theorem Tryd.Builder_Extra_105 : Builder.Extra Tryd.prog Tryd.lays105_ren := {
 sizeBuilder := by kernel_rfl
 liesBuilder := by kernel_rfl
 t5 := Tryd.underlying5
 a5 := Tryd.isAgg5
 z5 := Tryd.sizeOf5
 v5 := Tryd.zeroValue5
 infoByte := by kernel_rfl
 cellsByte := by kernel_rfl
 sizeByte := by kernel_rfl
 neB5 := by decide }
open Go.RowKit Go.Lib in
theorem Tryd.strings_Repeat (s : ByteArray) (c : Nat) (w : World) (hc : c ≤ 9223372036854775807) (hlen : s.size * c ≤ 140737488355328) :
  Calls Tryd.prog 62 #[.string s, .int .i64 c] w fun e w' => e = .returned (.string ⟨(Lib.repeatL s.data.toList c).toArray⟩) ∧ Below w.heap.size w w' := Any.strings_Repeat Tryd.lays105 Tryd.Builder_Extra_105 s c w hc hlen
end Go.Proofs
namespace Go.Proofs.YtjlnfnfdibfniaaDoor.Hd
open Go.RowKit Go.Proofs.YW.PWords Go.Proofs.YW.PLast
def bits_Len32.f (a0 : Int) : Option Int := if 0 ≤ a0 ∧ a0 ≤ 4294967295 then some (Lib.bitLen a0.toNat : Int) else none
theorem bits_Len32.calls (a0 : Int) (r : Int) (w : World) (h : bits_Len32.f a0 = some r) :
  Calls Tryd.prog 85 #[.int .u32 a0] w fun e w' => e = .returned (.int .i64 r) ∧ Drawn0 w w' := by
 unfold bits_Len32.f at h
 split at h
 ·
  rename_i hb
  cases h
  refine (Tryd.bits_Len32 a0 w hb.1 hb.2).mono ?_
  rintro e w' ⟨rfl, rfl⟩
  exact ⟨rfl, Drawn0.refl _⟩
 ·
  cases h
def bits_Len64.f (a0 : Int) : Option Int := if 0 ≤ a0 ∧ a0 ≤ 18446744073709551615 then some (Lib.bitLen a0.toNat : Int) else none
theorem bits_Len64.calls (a0 : Int) (r : Int) (w : World) (h : bits_Len64.f a0 = some r) :
  Calls Tryd.prog 119 #[.int .u64 a0] w fun e w' => e = .returned (.int .i64 r) ∧ Drawn0 w w' := by
 unfold bits_Len64.f at h
 split at h
 ·
  rename_i hb
  cases h
  refine (Tryd.bits_Len64 a0 w hb.1 hb.2).mono ?_
  rintro e w' ⟨rfl, rfl⟩
  exact ⟨rfl, Drawn0.refl _⟩
 ·
  cases h
def strings_Repeat.f (a0 : ByteArray) (a1 : Int) : Option ByteArray :=
 if 0 ≤ a1 ∧ a1 ≤ 9223372036854775807 ∧ a0.size * a1.toNat ≤ 140737488355328 then some ⟨(Lib.repeatL a0.data.toList a1.toNat).toArray⟩ else none
theorem strings_Repeat.calls (a0 : ByteArray) (a1 : Int) (r : ByteArray) (w : World) (h : strings_Repeat.f a0 a1 = some r) :
  Calls Tryd.prog 62 #[.string a0, .int .i64 a1] w fun e w' => e = .returned (.string r) ∧ Below w.heap.size w w' := by
 unfold strings_Repeat.f at h
 split at h
 ·
  rename_i hb
  cases h
  obtain ⟨n, rfl⟩ := Int.eq_ofNat_of_zero_le hb.1
  exact Tryd.strings_Repeat a0 n w (by omega) (by simpa using hb.2.2)
 ·
  cases h
def ceilB (b : Nat) : Option Nat :=
 match FloatKind.f64.decode b with
 | .nan .. => none
 | d => some (FloatKind.f64.encode (d.integral .up))
theorem ext83 (b r : Nat) (h : ceilB b = some r) (w : World) : (callFunc 83 #[.float .f64 b]).run Tryd.prog w = .ok (.value (.float .f64 r)) w := by
 rw [run_callFunc_extern (e := Extern.MathFloor.toIntegral "math.archCeil" .up) Tryd.func83 (by kernel_rfl) (by kernel_rfl) (by kernel_rfl) (by kernel_rfl)]
 unfold ceilB at h
 have : (Extern.MathFloor.toIntegral "math.archCeil" .up #[.float .f64 b]).run Tryd.prog w = .ok (.float .f64 r) w := by
  change Sem.run Tryd.prog (match FloatKind.f64.decode b with
   | .nan s t =>
    if FloatKind.f64.format.quiet t = t then pure (Value.float .f64 b) else do
     let kept ← choose (.extern "math.Floor,Ceil,Trunc,RoundToEven.signallingNaN kept" 2)
     pure (Value.float .f64 (if kept == 1 then b else FloatKind.f64.encode (.nan s (FloatKind.f64.format.quiet t))))
   | d => pure (Value.float .f64 (FloatKind.f64.encode (d.integral .up)))) w = _
  cases hd : FloatKind.f64.decode b with
  | nan s t => rw [hd] at h; cases h
  | infinity s => rw [hd] at h; cases h; rfl
  | number s m e => rw [hd] at h; cases h; rfl
 rw [this]
 rfl
def math_Ceil.f (a0 : Nat) : Option Nat := ceilB a0
set_option maxRecDepth 100000 in
theorem math_Ceil.calls (a0 : Nat) (r : Nat) (w : World) (h : math_Ceil.f a0 = some r) :
  Calls Tryd.prog 50 #[.float .f64 a0] w fun e w' => e = .returned (.float .f64 r) ∧ Drawn0 w w' := by
 have h83 := ext83 a0 r h
 clear h
 go_enter Tryd.func50, Tryd.ntmps50
 go_wp2
 go_ret
 exact ⟨rfl, Drawn0.refl _⟩
end Go.Proofs.YtjlnfnfdibfniaaDoor.Hd
namespace Go.Proofs.YtjlnfnfdibfniaaDoor.F
open Go.RowKit Go.Proofs.YW.PWords Go.Proofs.YW.PLast Go.Proofs.YW.PMore
attribute [local go_sem] max2_int min2_int max_two min_two max_three min_three max_four min_four
set_option linter.unusedVariables false
set_option linter.unusedSimpArgs false
set_option maxRecDepth 100000
def num_nat_size.f (l0 : List Int) : Option (Int) := if (l0.length : Int) = 0 then (some 0) else (if 0 ≤ (wrap64 ((l0.length : Int) - 1)) then (if (wrap64 ((l0.length : Int) - 1)) < (l0.length : Int) then ((Hd.bits_Len32.f (rd l0 (wrap64 ((l0.length : Int) - 1)))).bind fun t128 => (some (wrap64 ((wrap64 (32 * (wrap64 ((l0.length : Int) - 1)))) + t128)))) else (none)) else (none))
set_option maxHeartbeats 8000000 in
theorem num_nat_size.calls (A0 : Option Addr) (c0 : Nat) (l0 : List Int) (r : Int) (w : World) (hr0 : Kd.C (Kd.int .u32) w A0 l0.length l0) (hc0 : l0.length ≤ c0) (h : num_nat_size.f l0 = some r) :
  Calls Tryd.prog 51 #[.slice A0 l0.length c0] w fun e w' => e = .returned (.int .i64 r) ∧ Drawn0 w w' := by
 have HR0 := am hr0
 have HC0 := am hc0
 clear hr0 hc0
 have H : (if (l0.length : Int) = 0 then (some 0) else (if 0 ≤ (wrap64 ((l0.length : Int) - 1)) then (if (wrap64 ((l0.length : Int) - 1)) < (l0.length : Int) then ((Hd.bits_Len32.f (rd l0 (wrap64 ((l0.length : Int) - 1)))).bind fun t128 => (some (wrap64 ((wrap64 (32 * (wrap64 ((l0.length : Int) - 1)))) + t128)))) else (none)) else (none))) = some r := h
 clear h
 by_cases c2 : (l0.length : Int) = 0
 ·
  rw [if_pos c2] at H
  have c2b0 : ((l0.length : Int) == 0) = true := beq_iff_eq.mpr c2
  have c2b1 : ((l0.length : Int) != 0) = false := bne_eq_false_iff_eq.mpr c2
  clear c2
  obtain rfl := Option.some.inj H
  go_enter Tryd.func51, Tryd.ntmps51
  go_wp2
  go_ret
  exact ⟨by first | rfl | (simp; done) | (simp [*]; done), by repeat (first | exact Drawn0.refl _ | apply Drawn0.step)⟩
 rw [if_neg c2] at H
 have c2b0 : ((l0.length : Int) == 0) = false := beq_eq_false_iff_ne.mpr c2
 have c2b1 : ((l0.length : Int) != 0) = true := bne_iff_ne.mpr c2
 have c2b2 : ¬ (l0 = []) := fun h_ => c2 (by rw [h_]; rfl)
 obtain ⟨ji3, hji3⟩ : ∃ j_ : Int, (wrap64 ((l0.length : Int) - 1)) = j_ := ⟨_, rfl⟩
 replace H : (if 0 ≤ (ji3) then (if (ji3) < (l0.length : Int) then ((Hd.bits_Len32.f (rd l0 (ji3))).bind fun t128 => (some (wrap64 ((wrap64 (32 * (ji3))) + t128)))) else (none)) else (none)) = some r := by first | (rw [hji3] at H; exact H) | (simp only [hji3] at H ⊢; exact H)
 have hji3w : (IntKind.i64.wrap ((l0.length : Int) - 1)) = ji3 := (i64_w _).trans hji3
 by_cases c4 : 0 ≤ (ji3)
 ·
  rw [if_pos c4] at H
  have c4b0 := dt c4
  clear c4
  by_cases c5 : (ji3) < (l0.length : Int)
  ·
   rw [if_pos c5] at H
   have c5b0 := dt c5
   clear c5
   replace H := bm H
   obtain ⟨t128, A60, H⟩ := H
   have A6 := am A60
   clear A60
   obtain rfl := Option.some.inj H
   have p127 : 0 ≤ ((ji3) : Int) := od
   have q127 : (ji3) < (l0.length : Int) := od
   obtain ⟨ad127, e127, hx127_0⟩ := Kd.at_int HR0.out (ji3) p127 q127
   cases e127
   replace p127 := eq_true p127
   replace q127 := eq_true q127
   go_enter Tryd.func51, Tryd.ntmps51
   go_wp2_with (first | ((with_reducible refine gate_callee (f := 85) rfl ?_); refine goesL_ (some 16) rfl rfl Tryd.func85 (by kernel_rfl) rfl #[.int .u32 (rd l0 (ji3))] rfl (by (try simp only [List.map_toArray, List.map_cons, List.map_nil]); first | done | (simp only [hji3]; rfl) | rfl | (simp only [List.length_drop, List.length_take]; rfl)) ?_; (with_reducible refine (Hd.bits_Len32.calls (rd l0 (ji3)) t128 _ A6.out).mono ?_); rintro e w' ⟨rfl, ⟨nd, rfl⟩⟩; refine ⟨_, rfl, ?_⟩))
   go_ret
   exact ⟨by first | rfl | (simp; done) | (simp only [← hji3] <;> (first | rfl | simp)) | (simp [*]; done), by repeat (first | exact Drawn0.refl _ | apply Drawn0.step)⟩
  rw [if_neg c5] at H
  exact absurd H (by simp)
 rw [if_neg c4] at H
 exact absurd H (by simp)
mutual
def num_nearest.j0 : Nat → Int → Int → Int → Bool → Option (Int)
 | 0, _, _, _, _ => none
 | k + 1, x1, x7, x8, x46 => if x46 = true then (num_nearest.j1 k x1 x7 (IntKind.u64.wrap (x8 + 1))) else (num_nearest.j1 k x1 x7 x8)
def num_nearest.j1 : Nat → Int → Int → Int → Option (Int)
 | 0, _, _, _ => none
 | k + 1, x1, x7, x8 => if x8 = 9007199254740992 then (num_nearest.j2 k (wrap64 ((wrap64 (x1 + x7)) + 1)) 4503599627370496) else (num_nearest.j2 k (wrap64 (x1 + x7)) x8)
def num_nearest.j2 : Nat → Int → Int → Option (Int)
 | 0, _, _ => none
 | k + 1, x1, x8 => if x1 > 971 then (some 9218868437227405312) else (if x8 < 4503599627370496 then (some x8) else (some (Go.bits .or .u64 (IntKind.u64.wrap ((IntKind.u64.wrap (wrap64 ((wrap64 (x1 - (-1074))) + 1))) * 4503599627370496)) (Go.bits .and .u64 x8 4503599627370495))))
end
def num_nearest.f (k : Nat) (a0 : Int) (a1 : Int) (a2 : Bool) : Option (Int) := (Hd.bits_Len64.f a0).bind fun t568 => (if (mx (wrap64 ((wrap64 (t568 - 52)) - 1)) (wrap64 ((-1074) - a1))) > 63 then (some 0) else (if 0 ≤ (mx (wrap64 ((wrap64 (t568 - 52)) - 1)) (wrap64 ((-1074) - a1))) then (if 0 ≤ (wrap64 ((mx (wrap64 ((wrap64 (t568 - 52)) - 1)) (wrap64 ((-1074) - a1))) - 1)) then (if (Go.bits .and .u64 a0 (IntKind.u64.wrap ((shl .u64 1 (mx (wrap64 ((wrap64 (t568 - 52)) - 1)) (wrap64 ((-1074) - a1)))) - 1))) > (shl .u64 1 (wrap64 ((mx (wrap64 ((wrap64 (t568 - 52)) - 1)) (wrap64 ((-1074) - a1))) - 1))) then (num_nearest.j0 k a1 (mx (wrap64 ((wrap64 (t568 - 52)) - 1)) (wrap64 ((-1074) - a1))) (shr .u64 a0 (mx (wrap64 ((wrap64 (t568 - 52)) - 1)) (wrap64 ((-1074) - a1)))) true) else (if (Go.bits .and .u64 a0 (IntKind.u64.wrap ((shl .u64 1 (mx (wrap64 ((wrap64 (t568 - 52)) - 1)) (wrap64 ((-1074) - a1)))) - 1))) = (shl .u64 1 (wrap64 ((mx (wrap64 ((wrap64 (t568 - 52)) - 1)) (wrap64 ((-1074) - a1))) - 1))) then (if a2 = true then (num_nearest.j0 k a1 (mx (wrap64 ((wrap64 (t568 - 52)) - 1)) (wrap64 ((-1074) - a1))) (shr .u64 a0 (mx (wrap64 ((wrap64 (t568 - 52)) - 1)) (wrap64 ((-1074) - a1)))) true) else (num_nearest.j0 k a1 (mx (wrap64 ((wrap64 (t568 - 52)) - 1)) (wrap64 ((-1074) - a1))) (shr .u64 a0 (mx (wrap64 ((wrap64 (t568 - 52)) - 1)) (wrap64 ((-1074) - a1)))) ((Int.tmod (shr .u64 a0 (mx (wrap64 ((wrap64 (t568 - 52)) - 1)) (wrap64 ((-1074) - a1)))) 2) == 1))) else (num_nearest.j0 k a1 (mx (wrap64 ((wrap64 (t568 - 52)) - 1)) (wrap64 ((-1074) - a1))) (shr .u64 a0 (mx (wrap64 ((wrap64 (t568 - 52)) - 1)) (wrap64 ((-1074) - a1)))) false))) else (none)) else (none)))
theorem num_nearest.mono_l : ∀ k, (∀ y0 y1 y2 y3, LeO (num_nearest.j0 k y0 y1 y2 y3) (num_nearest.j0 (k + 1) y0 y1 y2 y3)) ∧ (∀ y0 y1 y2, LeO (num_nearest.j1 k y0 y1 y2) (num_nearest.j1 (k + 1) y0 y1 y2)) ∧ (∀ y0 y1, LeO (num_nearest.j2 k y0 y1) (num_nearest.j2 (k + 1) y0 y1))
 | 0 => ⟨fun _ _ _ _ r h => by simp [num_nearest.j0] at h, fun _ _ _ r h => by simp [num_nearest.j1] at h, fun _ _ r h => by simp [num_nearest.j2] at h⟩
 | k + 1 => by
  obtain ⟨ih0, ih1, ih2⟩ := num_nearest.mono_l k
  refine ⟨?_, ?_, ?_⟩ <;> intros <;> (first | unfold num_nearest.j0 | unfold num_nearest.j1 | unfold num_nearest.j2) <;> repeat' (with_reducible first | apply ih0 | apply ih1 | apply ih2 | apply LeO.refl | apply LeO.none | apply LeO.ite | refine LeO.bind ?_ (fun _ => ?_))
theorem num_nearest.mono : ∀ a0 a1 a2 k, LeO (num_nearest.f k a0 a1 a2) (num_nearest.f (k + 1) a0 a1 a2) := by
 intro a0 a1 a2 k
 obtain ⟨ih0, ih1, ih2⟩ := num_nearest.mono_l k
 unfold num_nearest.f
 repeat' (with_reducible first | apply ih0 | apply ih1 | apply ih2 | apply LeO.refl | apply LeO.none | apply LeO.ite | refine LeO.bind ?_ (fun _ => ?_))
set_option maxHeartbeats 8000000 in
theorem num_nearest.calls (k : Nat) (a0 : Int) (a1 : Int) (a2 : Bool) (r : Int) (w : World) (h : num_nearest.f k a0 a1 a2 = some r) :
  Calls Tryd.prog 102 #[.int .u64 a0, .int .i64 a1, .bool a2] w fun e w' => e = .returned (.int .u64 r) ∧ Below w.heap.size w w' := by
 have HB := am (Below.refl w.heap.size w)
 have H : ((Hd.bits_Len64.f a0).bind fun t568 => (if (mx (wrap64 ((wrap64 (t568 - 52)) - 1)) (wrap64 ((-1074) - a1))) > 63 then (some 0) else (if 0 ≤ (mx (wrap64 ((wrap64 (t568 - 52)) - 1)) (wrap64 ((-1074) - a1))) then (if 0 ≤ (wrap64 ((mx (wrap64 ((wrap64 (t568 - 52)) - 1)) (wrap64 ((-1074) - a1))) - 1)) then (if (Go.bits .and .u64 a0 (IntKind.u64.wrap ((shl .u64 1 (mx (wrap64 ((wrap64 (t568 - 52)) - 1)) (wrap64 ((-1074) - a1)))) - 1))) > (shl .u64 1 (wrap64 ((mx (wrap64 ((wrap64 (t568 - 52)) - 1)) (wrap64 ((-1074) - a1))) - 1))) then (num_nearest.j0 k a1 (mx (wrap64 ((wrap64 (t568 - 52)) - 1)) (wrap64 ((-1074) - a1))) (shr .u64 a0 (mx (wrap64 ((wrap64 (t568 - 52)) - 1)) (wrap64 ((-1074) - a1)))) true) else (if (Go.bits .and .u64 a0 (IntKind.u64.wrap ((shl .u64 1 (mx (wrap64 ((wrap64 (t568 - 52)) - 1)) (wrap64 ((-1074) - a1)))) - 1))) = (shl .u64 1 (wrap64 ((mx (wrap64 ((wrap64 (t568 - 52)) - 1)) (wrap64 ((-1074) - a1))) - 1))) then (if a2 = true then (num_nearest.j0 k a1 (mx (wrap64 ((wrap64 (t568 - 52)) - 1)) (wrap64 ((-1074) - a1))) (shr .u64 a0 (mx (wrap64 ((wrap64 (t568 - 52)) - 1)) (wrap64 ((-1074) - a1)))) true) else (num_nearest.j0 k a1 (mx (wrap64 ((wrap64 (t568 - 52)) - 1)) (wrap64 ((-1074) - a1))) (shr .u64 a0 (mx (wrap64 ((wrap64 (t568 - 52)) - 1)) (wrap64 ((-1074) - a1)))) ((Int.tmod (shr .u64 a0 (mx (wrap64 ((wrap64 (t568 - 52)) - 1)) (wrap64 ((-1074) - a1)))) 2) == 1))) else (num_nearest.j0 k a1 (mx (wrap64 ((wrap64 (t568 - 52)) - 1)) (wrap64 ((-1074) - a1))) (shr .u64 a0 (mx (wrap64 ((wrap64 (t568 - 52)) - 1)) (wrap64 ((-1074) - a1)))) false))) else (none)) else (none)))) = some r := h
 clear h
 replace H := bm H
 obtain ⟨t568, A40, H⟩ := H
 have A4 := am A40
 clear A40
 obtain ⟨ji5, hji5⟩ : ∃ j_ : Int, (mx (wrap64 ((wrap64 (t568 - 52)) - 1)) (wrap64 ((-1074) - a1))) = j_ := ⟨_, rfl⟩
 replace H : (if (ji5) > 63 then (some 0) else (if 0 ≤ (ji5) then (if 0 ≤ (wrap64 ((ji5) - 1)) then (if (Go.bits .and .u64 a0 (IntKind.u64.wrap ((shl .u64 1 (ji5)) - 1))) > (shl .u64 1 (wrap64 ((ji5) - 1))) then (num_nearest.j0 k a1 ji5 (shr .u64 a0 (ji5)) true) else (if (Go.bits .and .u64 a0 (IntKind.u64.wrap ((shl .u64 1 (ji5)) - 1))) = (shl .u64 1 (wrap64 ((ji5) - 1))) then (if a2 = true then (num_nearest.j0 k a1 ji5 (shr .u64 a0 (ji5)) true) else (num_nearest.j0 k a1 ji5 (shr .u64 a0 (ji5)) ((Int.tmod (shr .u64 a0 (ji5)) 2) == 1))) else (num_nearest.j0 k a1 ji5 (shr .u64 a0 (ji5)) false))) else (none)) else (none))) = some r := by first | (rw [hji5] at H; exact H) | (simp only [hji5] at H ⊢; exact H)
 (try rw [hji5] at A4)
 have hji5_ : (if (wrap64 ((wrap64 (t568 - 52)) - 1)) < (wrap64 ((-1074) - a1)) then (wrap64 ((-1074) - a1)) else (wrap64 ((wrap64 (t568 - 52)) - 1))) = ji5 := hji5
 by_cases c6 : (ji5) > 63
 ·
  rw [if_pos c6] at H
  have c6b0 : decide (63 < (ji5)) = true := dt c6
  clear c6
  obtain rfl := Option.some.inj H
  go_enter Tryd.func102, Tryd.ntmps102
  go_wp2_with (first | (go_at_call 119; (with_reducible refine (Hd.bits_Len64.calls a0 t568 _ A4.out).mono ?_); rintro e w' ⟨rfl, ⟨nd, rfl⟩⟩; (try first | exact ⟨rfl, _, World.drewN_drewN _ _ _⟩ | exact ⟨rfl, _, Eq.trans (World.drewN_drewN _ _ _) (congrArg (World.drewN _) (Nat.add_assoc _ _ _))⟩)))
  repeat (go_quiet (first | (go_at_call 119; (with_reducible refine (Hd.bits_Len64.calls a0 t568 _ A4.out).mono ?_); rintro e w' ⟨rfl, ⟨nd, rfl⟩⟩; (try first | exact ⟨rfl, _, World.drewN_drewN _ _ _⟩ | exact ⟨rfl, _, Eq.trans (World.drewN_drewN _ _ _) (congrArg (World.drewN _) (Nat.add_assoc _ _ _))⟩))); try go_wp2_with (first | (go_at_call 119; (with_reducible refine (Hd.bits_Len64.calls a0 t568 _ A4.out).mono ?_); rintro e w' ⟨rfl, ⟨nd, rfl⟩⟩; (try first | exact ⟨rfl, _, World.drewN_drewN _ _ _⟩ | exact ⟨rfl, _, Eq.trans (World.drewN_drewN _ _ _) (congrArg (World.drewN _) (Nat.add_assoc _ _ _))⟩))))
  go_ret
  exact ex (lk HB)
 rw [if_neg c6] at H
 have c6b0 : decide (63 < (ji5)) = false := decide_eq_false c6
 clear c6
 by_cases c7 : 0 ≤ (ji5)
 ·
  rw [if_pos c7] at H
  have c7b0 := eq_true c7
  have c7b1 := dt c7
  clear c7
  obtain ⟨ji8, hji8⟩ : ∃ j_ : Int, (shr .u64 a0 (ji5)) = j_ := ⟨_, rfl⟩
  replace H : (if 0 ≤ (wrap64 ((ji5) - 1)) then (if (Go.bits .and .u64 a0 (IntKind.u64.wrap ((shl .u64 1 (ji5)) - 1))) > (shl .u64 1 (wrap64 ((ji5) - 1))) then (num_nearest.j0 k a1 ji5 ji8 true) else (if (Go.bits .and .u64 a0 (IntKind.u64.wrap ((shl .u64 1 (ji5)) - 1))) = (shl .u64 1 (wrap64 ((ji5) - 1))) then (if a2 = true then (num_nearest.j0 k a1 ji5 ji8 true) else (num_nearest.j0 k a1 ji5 ji8 ((Int.tmod (ji8) 2) == 1))) else (num_nearest.j0 k a1 ji5 ji8 false))) else (none)) = some r := by first | (rw [hji8] at H; exact H) | (simp only [hji8] at H ⊢; exact H)
  (try rw [hji8] at A4)
  have hji8_ : (a0 / 2 ^ min (ji5).toNat 64) = ji8 := hji8
  have hji8z : (ji5) ≤ 64 → (a0 / 2 ^ (ji5).toNat) = ji8 := shr_small hji8
  have c9b0 := eq_true (od : 0 ≤ (ji5))
  obtain ⟨ji10, hji10⟩ : ∃ j_ : Int, (shl .u64 1 (ji5)) = j_ := ⟨_, rfl⟩
  replace H : (if 0 ≤ (wrap64 ((ji5) - 1)) then (if (Go.bits .and .u64 a0 (IntKind.u64.wrap ((ji10) - 1))) > (shl .u64 1 (wrap64 ((ji5) - 1))) then (num_nearest.j0 k a1 ji5 ji8 true) else (if (Go.bits .and .u64 a0 (IntKind.u64.wrap ((ji10) - 1))) = (shl .u64 1 (wrap64 ((ji5) - 1))) then (if a2 = true then (num_nearest.j0 k a1 ji5 ji8 true) else (num_nearest.j0 k a1 ji5 ji8 ((Int.tmod (ji8) 2) == 1))) else (num_nearest.j0 k a1 ji5 ji8 false))) else (none)) = some r := by first | (rw [hji10] at H; exact H) | (simp only [hji10] at H ⊢; exact H)
  (try rw [hji10] at A4)
  have hji10_ : (IntKind.u64.wrap (1 * 2 ^ min (ji5).toNat 64)) = ji10 := hji10
  have hji10z : (ji5) ≤ 64 → (IntKind.u64.wrap (1 * 2 ^ (ji5).toNat)) = ji10 := shl_small hji10
  have hji10u : (IntKind.u64.wrap (2 ^ min (ji5).toNat 64)) = ji10 := by have h_ := hji10_; rw [Int.one_mul] at h_; exact h_
  have hji10v : (ji5) ≤ 64 → (IntKind.u64.wrap (2 ^ (ji5).toNat)) = ji10 := fun hle_ => by have h_ := hji10z hle_; rw [Int.one_mul] at h_; exact h_
  obtain ⟨ji11, hji11⟩ : ∃ j_ : Int, (wrap64 ((ji5) - 1)) = j_ := ⟨_, rfl⟩
  replace H : (if 0 ≤ (ji11) then (if (Go.bits .and .u64 a0 (IntKind.u64.wrap ((ji10) - 1))) > (shl .u64 1 (ji11)) then (num_nearest.j0 k a1 ji5 ji8 true) else (if (Go.bits .and .u64 a0 (IntKind.u64.wrap ((ji10) - 1))) = (shl .u64 1 (ji11)) then (if a2 = true then (num_nearest.j0 k a1 ji5 ji8 true) else (num_nearest.j0 k a1 ji5 ji8 ((Int.tmod (ji8) 2) == 1))) else (num_nearest.j0 k a1 ji5 ji8 false))) else (none)) = some r := by first | (rw [hji11] at H; exact H) | (simp only [hji11] at H ⊢; exact H)
  (try rw [hji11] at A4)
  have hji11w : (IntKind.i64.wrap ((ji5) - 1)) = ji11 := (i64_w _).trans hji11
  by_cases c12 : 0 ≤ (ji11)
  ·
   rw [if_pos c12] at H
   have c12b0 := eq_true c12
   have c12b1 := dt c12
   clear c12
   obtain ⟨ji13, hji13⟩ : ∃ j_ : Int, (shl .u64 1 (ji11)) = j_ := ⟨_, rfl⟩
   replace H : (if (Go.bits .and .u64 a0 (IntKind.u64.wrap ((ji10) - 1))) > (ji13) then (num_nearest.j0 k a1 ji5 ji8 true) else (if (Go.bits .and .u64 a0 (IntKind.u64.wrap ((ji10) - 1))) = (ji13) then (if a2 = true then (num_nearest.j0 k a1 ji5 ji8 true) else (num_nearest.j0 k a1 ji5 ji8 ((Int.tmod (ji8) 2) == 1))) else (num_nearest.j0 k a1 ji5 ji8 false))) = some r := by first | (rw [hji13] at H; exact H) | (simp only [hji13] at H ⊢; exact H)
   (try rw [hji13] at A4)
   have hji13_ : (IntKind.u64.wrap (1 * 2 ^ min (ji11).toNat 64)) = ji13 := hji13
   have hji13z : (ji11) ≤ 64 → (IntKind.u64.wrap (1 * 2 ^ (ji11).toNat)) = ji13 := shl_small hji13
   have hji13u : (IntKind.u64.wrap (2 ^ min (ji11).toNat 64)) = ji13 := by have h_ := hji13_; rw [Int.one_mul] at h_; exact h_
   have hji13v : (ji11) ≤ 64 → (IntKind.u64.wrap (2 ^ (ji11).toNat)) = ji13 := fun hle_ => by have h_ := hji13z hle_; rw [Int.one_mul] at h_; exact h_
   have HC14 := am H
   clear H
   go_enter Tryd.func102, Tryd.ntmps102
   go_upto_region 5 with (first | (go_at_call 119; (with_reducible refine (Hd.bits_Len64.calls a0 t568 _ A4.out).mono ?_); rintro e w' ⟨rfl, ⟨nd, rfl⟩⟩; (try first | exact ⟨rfl, _, World.drewN_drewN _ _ _⟩ | exact ⟨rfl, _, Eq.trans (World.drewN_drewN _ _ _) (congrArg (World.drewN _) (Nat.add_assoc _ _ _))⟩)))
   repeat (go_quiet (first | (go_at_call 119; (with_reducible refine (Hd.bits_Len64.calls a0 t568 _ A4.out).mono ?_); rintro e w' ⟨rfl, ⟨nd, rfl⟩⟩; (try first | exact ⟨rfl, _, World.drewN_drewN _ _ _⟩ | exact ⟨rfl, _, Eq.trans (World.drewN_drewN _ _ _) (congrArg (World.drewN _) (Nat.add_assoc _ _ _))⟩))); go_upto_region 5 with (first | (go_at_call 119; (with_reducible refine (Hd.bits_Len64.calls a0 t568 _ A4.out).mono ?_); rintro e w' ⟨rfl, ⟨nd, rfl⟩⟩; (try first | exact ⟨rfl, _, World.drewN_drewN _ _ _⟩ | exact ⟨rfl, _, Eq.trans (World.drewN_drewN _ _ _) (congrArg (World.drewN _) (Nat.add_assoc _ _ _))⟩))))
   (try simp only [Act.put, List.setIfInBounds_toArray, List.set_cons_zero, List.set_cons_succ])
   go_cut [46] (fun v46 wc => ∃ (kq : Nat) (x46_13 : Bool), v46 = .bool x46_13 ∧ Aside0 (num_nearest.j0 kq a1 ji5 ji8 x46_13 = some r) ∧ Aside0 (kq ≤ k) ∧ Aside0 (Below w.heap.size w wc))
   case first =>
    have H := HC14.out
    clear HC14
    by_cases c15 : (Go.bits .and .u64 a0 (IntKind.u64.wrap ((ji10) - 1))) > (ji13)
    ·
     rw [if_pos c15] at H
     have c15b0 : decide ((ji13) < (Go.bits .and .u64 a0 (IntKind.u64.wrap ((ji10) - 1)))) = true := dt c15
     clear c15
     (first | rw [c15b0] | (simp only [i64_w, i32_w]; rw [c15b0]) | skip)
     have H' := am H
     clear H
     go_wp2
     repeat (go_quiet (fail); try go_wp2)
     go_meet
     case rel => exact ⟨_, (true), eqd, H', ol, ⟨lk HB⟩⟩
    rw [if_neg c15] at H
    have c15b0 : decide ((ji13) < (Go.bits .and .u64 a0 (IntKind.u64.wrap ((ji10) - 1)))) = false := decide_eq_false c15
    clear c15
    (first | rw [c15b0] | (simp only [i64_w, i32_w]; rw [c15b0]) | skip)
    by_cases c16 : (Go.bits .and .u64 a0 (IntKind.u64.wrap ((ji10) - 1))) = (ji13)
    ·
     rw [if_pos c16] at H
     have c16b0 : ((Go.bits .and .u64 a0 (IntKind.u64.wrap ((ji10) - 1))) == (ji13)) = true := beq_iff_eq.mpr c16
     have c16b1 : ((Go.bits .and .u64 a0 (IntKind.u64.wrap ((ji10) - 1))) != (ji13)) = false := bne_eq_false_iff_eq.mpr c16
     clear c16
     by_cases c17 : a2 = true
     ·
      subst c17
      rw [if_pos rfl] at H
      have H' := am H
      clear H
      go_wp2
      repeat (go_quiet (fail); try go_wp2)
      go_meet
      case rel => exact ⟨_, (true), eqd, H', ol, ⟨lk HB⟩⟩
     replace c17 := Bool.eq_false_iff.mpr c17
     subst c17
     rw [if_neg (show ¬ (false = true) by decide)] at H
     have H' := am H
     clear H
     go_wp2
     repeat (go_quiet (fail); try go_wp2)
     go_meet
     case rel => exact ⟨_, (((Int.tmod (ji8) 2) == 1)), (by first | rfl | (simp; done) | (simp only [← hji8] <;> (first | rfl | simp)) | (simp [*]; done)), H', ol, ⟨lk HB⟩⟩
    rw [if_neg c16] at H
    have c16b0 : ((Go.bits .and .u64 a0 (IntKind.u64.wrap ((ji10) - 1))) == (ji13)) = false := beq_eq_false_iff_ne.mpr c16
    have c16b1 : ((Go.bits .and .u64 a0 (IntKind.u64.wrap ((ji10) - 1))) != (ji13)) = true := bne_iff_ne.mpr c16
    have H' := am H
    clear H
    go_wp2
    repeat (go_quiet (fail); try go_wp2)
    go_meet
    case rel => exact ⟨_, (false), eqd, H', ol, ⟨lk HB⟩⟩
   case rest =>
    clear HC14
    obtain ⟨kq, x46_13, rfl, HA, HJ13, HB⟩ := hcut
    cases kq with
    | zero => exact absurd HA.out (by simp [num_nearest.j0])
    | succ kj13 =>
     have H := HA.out
     clear HA
     simp only [num_nearest.j0] at H
     have HC18 := am H
     clear H
     go_upto_if 46 with (fail)
     repeat (go_quiet (fail); go_upto_if 46 with (fail))
     go_cut [8] (fun v8 wc => ∃ (kq : Nat) (x8_17 : Int), v8 = .int .u64 x8_17 ∧ Aside0 (num_nearest.j1 kq a1 ji5 x8_17 = some r) ∧ Aside0 (kq ≤ kj13) ∧ Aside0 (Below w.heap.size w wc))
     case first =>
      have H := HC18.out
      clear HC18
      by_cases c19 : x46_13 = true
      ·
       subst c19
       rw [if_pos rfl] at H
       have H' := am H
       clear H
       go_wp2
       repeat (go_quiet (fail); try go_wp2)
       go_meet
       case rel => exact ⟨_, (IntKind.u64.wrap (ji8 + 1)), (by first | rfl | (simp; done) | (simp only [← hji8] <;> (first | rfl | simp)) | (simp [*]; done)), H', ⟨by have := HJ13.out; first | omega | exact Nat.le_refl _⟩, ⟨lk HB⟩⟩
      replace c19 := Bool.eq_false_iff.mpr c19
      subst c19
      rw [if_neg (show ¬ (false = true) by decide)] at H
      have H' := am H
      clear H
      go_wp2
      repeat (go_quiet (fail); try go_wp2)
      go_meet
      case rel => exact ⟨_, (ji8), (by first | rfl | (simp; done) | (simp only [← hji8] <;> (first | rfl | simp)) | (simp [*]; done)), H', ⟨by have := HJ13.out; first | omega | exact Nat.le_refl _⟩, ⟨lk HB⟩⟩
     case rest =>
      clear HC18
      obtain ⟨kq, x8_17, rfl, HA, HJ17, HB⟩ := hcut
      cases kq with
      | zero => exact absurd HA.out (by simp [num_nearest.j1])
      | succ kj17 =>
       have H := HA.out
       clear HA
       simp only [num_nearest.j1] at H
       have HC20 := am H
       clear H
       go_upto_if 53 with (fail)
       repeat (go_quiet (fail); go_upto_if 53 with (fail))
       go_cut [1, 8] (fun v1 v8 wc => ∃ (kq : Nat) (x1_19 : Int) (x8_19 : Int), v1 = .int .i64 x1_19 ∧ v8 = .int .u64 x8_19 ∧ Aside0 (num_nearest.j2 kq x1_19 x8_19 = some r) ∧ Aside0 (kq ≤ kj17) ∧ Aside0 (Below w.heap.size w wc))
       case first =>
        have H := HC20.out
        clear HC20
        by_cases c21 : x8_17 = 9007199254740992
        ·
         rw [if_pos c21] at H
         have c21b0 : (x8_17 == 9007199254740992) = true := beq_iff_eq.mpr c21
         have c21b1 : (x8_17 != 9007199254740992) = false := bne_eq_false_iff_eq.mpr c21
         clear c21
         (first | rw [c21b0] | (simp only [i64_w, i32_w]; rw [c21b0]) | skip)
         have H' := am H
         clear H
         go_wp2
         repeat (go_quiet (fail); try go_wp2)
         go_meet
         case rel => exact ⟨_, (wrap64 ((wrap64 (a1 + ji5)) + 1)), (4503599627370496), (by first | rfl | (simp; done) | (simp only [← hji5] <;> (first | rfl | simp)) | (simp [*]; done)), eqd, H', ⟨by have := HJ13.out; have := HJ17.out; first | omega | exact Nat.le_refl _⟩, ⟨lk HB⟩⟩
        rw [if_neg c21] at H
        have c21b0 : (x8_17 == 9007199254740992) = false := beq_eq_false_iff_ne.mpr c21
        have c21b1 : (x8_17 != 9007199254740992) = true := bne_iff_ne.mpr c21
        (first | rw [c21b0] | (simp only [i64_w, i32_w]; rw [c21b0]) | skip)
        have H' := am H
        clear H
        go_wp2
        repeat (go_quiet (fail); try go_wp2)
        go_meet
        case rel => exact ⟨_, (wrap64 (a1 + ji5)), (x8_17), (by first | rfl | (simp; done) | (simp only [← hji5] <;> (first | rfl | simp)) | (simp [*]; done)), eqd, H', ⟨by have := HJ13.out; have := HJ17.out; first | omega | exact Nat.le_refl _⟩, ⟨lk HB⟩⟩
       case rest =>
        clear HC20
        obtain ⟨kq, x1_19, x8_19, rfl, rfl, HA, HJ19, HB⟩ := hcut
        cases kq with
        | zero => exact absurd HA.out (by simp [num_nearest.j2])
        | succ kj19 =>
         have H := HA.out
         clear HA
         simp only [num_nearest.j2] at H
         by_cases c22 : x1_19 > 971
         ·
          rw [if_pos c22] at H
          have c22b0 : decide (971 < x1_19) = true := dt c22
          clear c22
          obtain rfl := Option.some.inj H
          go_wp2
          repeat (go_quiet (fail); try go_wp2)
          go_ret
          exact ⟨by first | rfl | (simp [errW_none, errW_some] <;> rfl) | (simp only [← hji5, ← hji8, ← hji10, ← hji11, ← hji13]; first | rfl | (simp [errW_none, errW_some] <;> rfl)) | (simp [*, errW_none, errW_some] <;> rfl), lk HB⟩
         rw [if_neg c22] at H
         have c22b0 : decide (971 < x1_19) = false := decide_eq_false c22
         clear c22
         by_cases c23 : x8_19 < 4503599627370496
         ·
          rw [if_pos c23] at H
          have c23b0 := dt c23
          clear c23
          obtain rfl := Option.some.inj H
          go_wp2
          repeat (go_quiet (fail); try go_wp2)
          go_ret
          exact ⟨by first | rfl | (simp [errW_none, errW_some] <;> rfl) | (simp only [← hji5, ← hji8, ← hji10, ← hji11, ← hji13]; first | rfl | (simp [errW_none, errW_some] <;> rfl)) | (simp [*, errW_none, errW_some] <;> rfl), lk HB⟩
         rw [if_neg c23] at H
         have c23b0 := decide_eq_false c23
         clear c23
         obtain rfl := Option.some.inj H
         go_wp2
         repeat (go_quiet (fail); try go_wp2)
         go_ret
         exact ⟨by first | rfl | (simp [errW_none, errW_some] <;> rfl) | (simp only [← hji5, ← hji8, ← hji10, ← hji11, ← hji13]; first | rfl | (simp [errW_none, errW_some] <;> rfl)) | (simp [*, errW_none, errW_some] <;> rfl), lk HB⟩
  rw [if_neg c12] at H
  exact absurd H (by simp)
 rw [if_neg c7] at H
 exact absurd H (by simp)
mutual
def num_decimal_bits.j0 : Nat → Int → Bool → ByteArray → Int → Option (Int)
 | 0, _, _, _, _ => none
 | k + 1, x3, x17, x570q0, x570q1 => if x17 = true then (some 0) else (if x3 > 310 then (some 9218868437227405312) else (num_decimal_bits.l0 k ([] : List Int) (x570q0.size : Int) 0 x570q0 x570q1))
def num_decimal_bits.l0 : Nat → List Int → Int → Int → ByteArray → Int → Option (Int)
 | 0, _, _, _, _, _ => none
 | k + 1, x4, x30, x31, x570q0, x570q1 => if x31 < x30 then (if 0 ≤ x31 then (if x31 < (x570q0.size : Int) then ((num_nat_times.f k x4 10 (((bt x570q0 x31) - 48) % 256)).bind fun t570 => (num_decimal_bits.l0 k t570 x30 (wrap64 (x31 + 1)) x570q0 x570q1)) else (none)) else (none)) else ((num_of.f k 1).bind fun t573 => (if x570q1 ≥ 0 then ((num_nat_tens.f k x4 x570q1).bind fun t576 => (num_decimal_bits.j2 k t576 t573)) else ((num_nat_tens.f k t573 (wrap64 (-x570q1))).bind fun t579 => (num_decimal_bits.j2 k x4 t579))))
def num_decimal_bits.j2 : Nat → List Int → List Int → Option (Int)
 | 0, _, _ => none
 | k + 1, x4, x6 => (num_nat_size.f x4).bind fun t582 => ((num_nat_size.f x6).bind fun t583 => (if (wrap64 (56 - (wrap64 (t582 - t583)))) ≥ 0 then ((num_nat_up.f k x4 (wrap64 (56 - (wrap64 (t582 - t583))))).bind fun t584 => (num_decimal_bits.j3 k t584 x6 (wrap64 (56 - (wrap64 (t582 - t583)))))) else ((num_nat_up.f k x6 (wrap64 (-(wrap64 (56 - (wrap64 (t582 - t583))))))).bind fun t587 => (num_decimal_bits.j3 k x4 t587 (wrap64 (56 - (wrap64 (t582 - t583))))))))
def num_decimal_bits.j3 : Nat → List Int → List Int → Int → Option (Int)
 | 0, _, _, _ => none
 | k + 1, x4, x6, x7 => num_decimal_bits.l1 k x4 x6 x7 0 57
def num_decimal_bits.l1 : Nat → List Int → List Int → Int → Int → Int → Option (Int)
 | 0, _, _, _, _, _ => none
 | k + 1, x4, x6, x7, x8, x9 => if x9 ≥ 0 then ((num_nat_up.f k x6 x9).bind fun t591 => ((num_nat_against.f k x4 t591).bind fun t594 => (if t594 ≥ 0 then ((num_nat_less.f k x4 t591).bind fun t595 => (if 0 ≤ x9 then (num_decimal_bits.l1 k t595 x6 x7 (Go.bits .or .u64 x8 (shl .u64 1 x9)) (wrap64 (x9 - 1))) else (none))) else (num_decimal_bits.l1 k x4 x6 x7 x8 (wrap64 (x9 - 1)))))) else ((num_nearest.f k x8 (wrap64 (-x7)) (decide (0 < x4.length))).bind fun t590 => (some t590))
end
def num_decimal_bits.f (k : Nat) (a0_0 : ByteArray) (a0_1 : Int) : Option (Int) := if a0_0.toList = ([] : List UInt8) then (num_decimal_bits.j0 k (wrap64 ((a0_0.size : Int) + a0_1)) true a0_0 a0_1) else (num_decimal_bits.j0 k (wrap64 ((a0_0.size : Int) + a0_1)) (decide ((wrap64 ((a0_0.size : Int) + a0_1)) < (-330))) a0_0 a0_1)
theorem num_decimal_bits.mono_l : ∀ k, (∀ y0 y1 y2 y3, LeO (num_decimal_bits.j0 k y0 y1 y2 y3) (num_decimal_bits.j0 (k + 1) y0 y1 y2 y3)) ∧ (∀ y0 y1 y2 y3 y4, LeO (num_decimal_bits.l0 k y0 y1 y2 y3 y4) (num_decimal_bits.l0 (k + 1) y0 y1 y2 y3 y4)) ∧ (∀ y0 y1, LeO (num_decimal_bits.j2 k y0 y1) (num_decimal_bits.j2 (k + 1) y0 y1)) ∧ (∀ y0 y1 y2, LeO (num_decimal_bits.j3 k y0 y1 y2) (num_decimal_bits.j3 (k + 1) y0 y1 y2)) ∧ (∀ y0 y1 y2 y3 y4, LeO (num_decimal_bits.l1 k y0 y1 y2 y3 y4) (num_decimal_bits.l1 (k + 1) y0 y1 y2 y3 y4))
 | 0 => ⟨fun _ _ _ _ r h => by simp [num_decimal_bits.j0] at h, fun _ _ _ _ _ r h => by simp [num_decimal_bits.l0] at h, fun _ _ r h => by simp [num_decimal_bits.j2] at h, fun _ _ _ r h => by simp [num_decimal_bits.j3] at h, fun _ _ _ _ _ r h => by simp [num_decimal_bits.l1] at h⟩
 | k + 1 => by
  obtain ⟨ih0, ih1, ih2, ih3, ih4⟩ := num_decimal_bits.mono_l k
  refine ⟨?_, ?_, ?_, ?_, ?_⟩ <;> intros <;> (first | unfold num_decimal_bits.j0 | unfold num_decimal_bits.l0 | unfold num_decimal_bits.j2 | unfold num_decimal_bits.j3 | unfold num_decimal_bits.l1) <;> repeat' (with_reducible first | apply ih0 | apply ih1 | apply ih2 | apply ih3 | apply ih4 | apply num_nat_against.mono | apply num_nat_less.mono | apply num_nat_tens.mono | apply num_nat_times.mono | apply num_nat_up.mono | apply num_nearest.mono | apply num_of.mono | apply LeO.refl | apply LeO.none | apply LeO.ite | refine LeO.bind ?_ (fun _ => ?_))
theorem num_decimal_bits.mono : ∀ a0 a1 k, LeO (num_decimal_bits.f k a0 a1) (num_decimal_bits.f (k + 1) a0 a1) := by
 intro a0 a1 k
 obtain ⟨ih0, ih1, ih2, ih3, ih4⟩ := num_decimal_bits.mono_l k
 unfold num_decimal_bits.f
 repeat' (with_reducible first | apply ih0 | apply ih1 | apply ih2 | apply ih3 | apply ih4 | apply num_nat_against.mono | apply num_nat_less.mono | apply num_nat_tens.mono | apply num_nat_times.mono | apply num_nat_up.mono | apply num_nearest.mono | apply num_of.mono | apply LeO.refl | apply LeO.none | apply LeO.ite | refine LeO.bind ?_ (fun _ => ?_))
set_option maxHeartbeats 8000000 in
theorem num_decimal_bits.calls (k : Nat) (a0_0 : ByteArray) (a0_1 : Int) (r : Int) (w : World) (h : num_decimal_bits.f k a0_0 a0_1 = some r) :
  Calls Tryd.prog 67 #[.agg #[.string a0_0, .int .i64 a0_1]] w fun e w' => e = .returned (.int .u64 r) ∧ Below w.heap.size w w' := by
 have hu79 := Tryd.underlying79
 have HB := am (Below.refl w.heap.size w)
 have H : (if a0_0.toList = ([] : List UInt8) then (num_decimal_bits.j0 k (wrap64 ((a0_0.size : Int) + a0_1)) true a0_0 a0_1) else (num_decimal_bits.j0 k (wrap64 ((a0_0.size : Int) + a0_1)) (decide ((wrap64 ((a0_0.size : Int) + a0_1)) < (-330))) a0_0 a0_1)) = some r := h
 clear h
 have HC2 := am H
 clear H
 go_enter Tryd.func67, Tryd.ntmps67
 go_upto_region 2 with (first | ((with_reducible refine gate_dst (N := 1) rfl ?_); refine box_event ?hg (N := 1) ?hd (cs := #[.string a0_0, .int .i64 a0_1]) (t := 79) ?hr ?_; (case hd => rfl); (case hg => rfl); (case hr => first | (go_simp; done) | (go_simp; rfl)); intro gb569 hg w3 hbox hb; have BK569 := am (hbox); have GW569 := am ((by rw [hg]; exact (below_size (lk HB)) : w.heap.size ≤ gb569)); have GE569 := GW569; replace HB := lb HB hb; clear hb hbox hg; have hcz4_0 : w3.cell? ⟨gb569, 0, none⟩ = some (.string a0_0) := (blk_cell BK569.out 0).trans rfl; have hcz4_1 : w3.cell? ⟨gb569, 1, none⟩ = some (.int .i64 a0_1) := (blk_cell BK569.out 1).trans rfl; have hfz4_0 := blk_frozen BK569.out 0; have hfz4_1 := blk_frozen BK569.out 1))
 (try simp only [Act.put, List.setIfInBounds_toArray, List.set_cons_zero, List.set_cons_succ])
 go_cut [17] (fun v17 wc => ∃ (kq : Nat) (x17_1 : Bool), v17 = .bool x17_1 ∧ Aside0 (num_decimal_bits.j0 kq (wrap64 ((a0_0.size : Int) + a0_1)) x17_1 a0_0 a0_1 = some r) ∧ Aside0 (kq ≤ k) ∧ Aside0 (wc.heap[gb569]? = some (.cells #[.string a0_0, .int .i64 a0_1] 79 (0, 0))) ∧ Aside0 (Below w.heap.size w wc))
 case first =>
  have H := HC2.out
  clear HC2
  by_cases c5 : a0_0.toList = ([] : List UInt8)
  ·
   rw [if_pos c5] at H
   have c5b0 : (a0_0.toList == ([] : List UInt8)) = true := beq_iff_eq.mpr c5
   have c5b1 : (a0_0.toList != ([] : List UInt8)) = false := bne_eq_false_iff_eq.mpr c5
   clear c5
   (first | rw [c5b0] | (simp only [i64_w, i32_w]; rw [c5b0]) | skip)
   have H' := am H
   clear H
   have hcz6_0 : w3.cell? ⟨gb569, 0, none⟩ = some (.string a0_0) := (blk_cell BK569.out 0).trans rfl
   have hcz6_1 : w3.cell? ⟨gb569, 1, none⟩ = some (.int .i64 a0_1) := (blk_cell BK569.out 1).trans rfl
   have hfz6_0 := blk_frozen BK569.out 0
   have hfz6_1 := blk_frozen BK569.out 1
   go_wp2
   go_meet
   case rel => exact ⟨_, (true), eqd, H', ol, ⟨bk BK569⟩, ⟨lk HB⟩⟩
  rw [if_neg c5] at H
  have c5b0 : (a0_0.toList == ([] : List UInt8)) = false := beq_eq_false_iff_ne.mpr c5
  have c5b1 : (a0_0.toList != ([] : List UInt8)) = true := bne_iff_ne.mpr c5
  (first | rw [c5b0] | (simp only [i64_w, i32_w]; rw [c5b0]) | skip)
  have H' := am H
  clear H
  have hcz7_0 : w3.cell? ⟨gb569, 0, none⟩ = some (.string a0_0) := (blk_cell BK569.out 0).trans rfl
  have hcz7_1 : w3.cell? ⟨gb569, 1, none⟩ = some (.int .i64 a0_1) := (blk_cell BK569.out 1).trans rfl
  have hfz7_0 := blk_frozen BK569.out 0
  have hfz7_1 := blk_frozen BK569.out 1
  go_wp2
  go_meet
  case rel => exact ⟨_, (decide ((wrap64 ((a0_0.size : Int) + a0_1)) < (-330))), eqd, H', ol, ⟨bk BK569⟩, ⟨lk HB⟩⟩
 case rest =>
  clear HC2
  obtain ⟨kq, x17_1, rfl, HA, HJ1, BK569, HB⟩ := hcut
  cases kq with
  | zero => exact absurd HA.out (by simp [num_decimal_bits.j0])
  | succ kj1 =>
   have H := HA.out
   clear HA
   simp only [num_decimal_bits.j0] at H
   by_cases c8 : x17_1 = true
   ·
    subst c8
    rw [if_pos rfl] at H
    obtain rfl := Option.some.inj H
    go_wp2
    go_ret
    exact ex (lk HB)
   replace c8 := Bool.eq_false_iff.mpr c8
   subst c8
   rw [if_neg (show ¬ (false = true) by decide)] at H
   by_cases c9 : (wrap64 ((a0_0.size : Int) + a0_1)) > 310
   ·
    rw [if_pos c9] at H
    have c9b0 : decide (310 < (wrap64 ((a0_0.size : Int) + a0_1))) = true := dt c9
    clear c9
    obtain rfl := Option.some.inj H
    go_wp2
    go_ret
    exact ex (lk HB)
   rw [if_neg c9] at H
   have c9b0 : decide (310 < (wrap64 ((a0_0.size : Int) + a0_1))) = false := decide_eq_false c9
   clear c9
   have H' := am H
   clear H
   have hcz10_0 : wc.cell? ⟨gb569, 0, none⟩ = some (.string a0_0) := (blk_cell BK569.out 0).trans rfl
   have hcz10_1 : wc.cell? ⟨gb569, 1, none⟩ = some (.int .i64 a0_1) := (blk_cell BK569.out 1).trans rfl
   have hfz10_0 := blk_frozen BK569.out 0
   have hfz10_1 := blk_frozen BK569.out 1
   go_wp2
   go_loopg [4, 31] kj1 (fun kq v4 v31 w' => ∃ (x4_2 : List Int) (x31_2 : Int), v31 = .int .i64 x31_2 ∧ Aside0 (num_decimal_bits.l0 kq x4_2 (a0_0.size : Int) x31_2 a0_0 a0_1 = some r) ∧ Aside0 (kq ≤ kj1) ∧ Aside0 (Kd.V (Kd.int .u32) 102 w' w.heap.size (fun k_ => k_ ≠ gb569) v4 x4_2) ∧ Aside0 (w'.heap[gb569]? = some (.cells #[.string a0_0, .int .i64 a0_1] 79 (0, 0))) ∧ Aside0 (Below w.heap.size w w'))
   case atStart => exact ⟨(([] : List Int)), (0), eqd, H', ⟨Nat.le_refl _⟩, ⟨Kd.R_V (Kd.R_nil _ _ _ w.heap.size _)⟩, ⟨bk BK569⟩, ⟨lk HB⟩⟩
   case round =>
    clear H'
    obtain ⟨x4_2, x31_2, rfl, HA, HK2, HO_4, BK569, HB⟩ := hrel
    cases gk with
    | zero => exact absurd HA.out (by simp [num_decimal_bits.l0])
    | succ k2 =>
     have H := HA.out
     clear HA
     simp only [num_decimal_bits.l0] at H
     by_cases c11 : x31_2 < (a0_0.size : Int)
     ·
      rw [if_pos c11] at H
      have c11b0 := dt c11
      clear c11
      by_cases c12 : 0 ≤ x31_2
      ·
       rw [if_pos c12] at H
       have c12b0 := dt c12
       clear c12
       by_cases c13 : x31_2 < (a0_0.size : Int)
       ·
        rw [if_pos c13] at H
        have c13b0 := dt c13
        clear c13
        replace H := bm H
        obtain ⟨t570, A150, H⟩ := H
        have A15 := am A150
        clear A150
        have H' := am H
        clear H
        have hcz16_0 : wr.cell? ⟨gb569, 0, none⟩ = some (.string a0_0) := (blk_cell BK569.out 0).trans rfl
        have hcz16_1 : wr.cell? ⟨gb569, 1, none⟩ = some (.int .i64 a0_1) := (blk_cell BK569.out 1).trans rfl
        have hfz16_0 := blk_frozen BK569.out 0
        have hfz16_1 := blk_frozen BK569.out 1
        have p14 : 0 ≤ (x31_2 : Int) := od
        have q14 : x31_2 < (a0_0.size : Int) := od
        have hx14 := bt_at a0_0 x31_2
        replace p14 := eq_true p14
        replace q14 := eq_true q14
        obtain ⟨Ao17, co17, eo17⟩ := Kd.V_slice HO_4.out
        subst eo17
        go_wp2_with (first | (refine gL (some 41) Tryd.func86 #[.slice Ao17 x4_2.length co17, .int .u32 10, .int .u32 (((bt a0_0 x31_2) - 48) % 256)] ?_; (with_reducible refine (num_nat_times.calls k2 _ _ x4_2 10 (((bt a0_0 x31_2) - 48) % 256) t570 _ ?side1 ?side2 A15.out).mono ?_); (case side1 => exact ck (Kd.V_reads' HO_4.out).2.2); (case side2 => exact (Kd.V_reads' HO_4.out).2.1); rintro e w18 ⟨v571, rfl, ho0, hb⟩; refine ⟨_, rfl, ?_⟩; replace HO_4 := vb HO_4 hb; have HO572 := am (Kd.V_lower (Kd.V_mono (ok' := fun k_ => k_ ≠ gb569) ho0 (fun k_ hk_ => (Kd.freshB (bk BK569) k_ hk_))) (below_size (lk HB))); replace BK569 := bb BK569 hb; replace HB := lb HB hb))
        go_roundg k2
        case measure => have := HJ1.out; have := HK2.out; omega
        case rel => exact ⟨(t570), (wrap64 (x31_2 + 1)), eqd, H', ⟨by have := HJ1.out; have := HK2.out; omega⟩, ⟨vk HO572⟩, ⟨bk BK569⟩, ⟨lk HB⟩⟩
       rw [if_neg c13] at H
       exact absurd H (by simp)
      rw [if_neg c12] at H
      exact absurd H (by simp)
     rw [if_neg c11] at H
     have c11b0 := decide_eq_false c11
     clear c11
     replace H := bm H
     obtain ⟨t573, A190, H⟩ := H
     have A19 := am A190
     clear A190
     have HC20 := am H
     clear H
     go_upto_if 46 with (first | (refine gL (some 43) Tryd.func45 #[.int .u64 1] ?_; (with_reducible refine (num_of.calls k2 1 t573 _ A19.out).mono ?_); rintro e w21 ⟨v574, rfl, ho0, hb⟩; refine ⟨_, rfl, ?_⟩; replace HO_4 := vb HO_4 hb; have HO575 := am (Kd.V_lower (Kd.V_mono (ok' := fun k_ => k_ ≠ gb569) ho0 (fun k_ hk_ => (Kd.freshB (bk BK569) k_ hk_))) (below_size (lk HB))); replace BK569 := bb BK569 hb; replace HB := lb HB hb; have hcz22_0 : w21.cell? ⟨gb569, 0, none⟩ = some (.string a0_0) := (blk_cell BK569.out 0).trans rfl; have hcz22_1 : w21.cell? ⟨gb569, 1, none⟩ = some (.int .i64 a0_1) := (blk_cell BK569.out 1).trans rfl; have hfz22_0 := blk_frozen BK569.out 0; have hfz22_1 := blk_frozen BK569.out 1))
     (try simp only [Act.put, List.setIfInBounds_toArray, List.set_cons_zero, List.set_cons_succ])
     go_cut [4, 6] (fun v4 v6 wc => ∃ (kq : Nat) (x4_19 : List Int) (x6_19 : List Int), Aside0 (num_decimal_bits.j2 kq x4_19 x6_19 = some r) ∧ Aside0 (kq ≤ k2) ∧ Aside0 (Kd.V (Kd.int .u32) 102 wc w.heap.size (fun k_ => k_ ≠ gb569) v4 x4_19) ∧ Aside0 (Kd.V (Kd.int .u32) 102 wc w.heap.size (fun k_ => k_ ≠ gb569) v6 x6_19) ∧ Aside0 (wc.heap[gb569]? = some (.cells #[.string a0_0, .int .i64 a0_1] 79 (0, 0))) ∧ Aside0 (Below w.heap.size w wc))
     case first =>
      have H := HC20.out
      clear HC20
      by_cases c23 : a0_1 ≥ 0
      ·
       rw [if_pos c23] at H
       have c23b0 : decide (0 ≤ a0_1) = true := dt c23
       clear c23
       (first | rw [c23b0] | (simp only [i64_w, i32_w]; rw [c23b0]) | skip)
       replace H := bm H
       obtain ⟨t576, A240, H⟩ := H
       have A24 := am A240
       clear A240
       have H' := am H
       clear H
       have hcz25_0 : w21.cell? ⟨gb569, 0, none⟩ = some (.string a0_0) := (blk_cell BK569.out 0).trans rfl
       have hcz25_1 : w21.cell? ⟨gb569, 1, none⟩ = some (.int .i64 a0_1) := (blk_cell BK569.out 1).trans rfl
       have hfz25_0 := blk_frozen BK569.out 0
       have hfz25_1 := blk_frozen BK569.out 1
       obtain ⟨Ao26, co26, eo26⟩ := Kd.V_slice HO_4.out
       subst eo26
       go_wp2_with (first | (refine gL (some 50) Tryd.func52 #[.slice Ao26 x4_2.length co26, .int .i64 a0_1] ?_; (with_reducible refine (num_nat_tens.calls k2 (fun k_ => k_ ≠ gb569) _ _ x4_2 a0_1 t576 _ ?side1 A24.out).mono ?_); (case side1 => exact HO_4.out); rintro e w27 ⟨v577, rfl, ho0, hb⟩; refine ⟨_, rfl, ?_⟩; replace HO_4 := vb HO_4 hb; replace HO575 := vb HO575 hb; have HO578 := am (Kd.V_lower (Kd.V_mono (ok' := fun k_ => k_ ≠ gb569) ho0 (fun k_ hk_ => Or.elim hk_ (fun hs_ => hs_) (fun hn_ => (Kd.freshB (bk BK569) k_ hn_)))) (below_size (lk HB))); replace BK569 := bb BK569 hb; replace HB := lb HB hb))
       go_meet
       case rel => exact ⟨_, (t576), (t573), H', ⟨by have := HJ1.out; have := HK2.out; first | omega | exact Nat.le_refl _⟩, ⟨vk HO578⟩, ⟨vk HO575⟩, ⟨bk BK569⟩, ⟨lk HB⟩⟩
      rw [if_neg c23] at H
      have c23b0 : decide (0 ≤ a0_1) = false := decide_eq_false c23
      clear c23
      (first | rw [c23b0] | (simp only [i64_w, i32_w]; rw [c23b0]) | skip)
      replace H := bm H
      obtain ⟨t579, A280, H⟩ := H
      have A28 := am A280
      clear A280
      have H' := am H
      clear H
      have hcz29_0 : w21.cell? ⟨gb569, 0, none⟩ = some (.string a0_0) := (blk_cell BK569.out 0).trans rfl
      have hcz29_1 : w21.cell? ⟨gb569, 1, none⟩ = some (.int .i64 a0_1) := (blk_cell BK569.out 1).trans rfl
      have hfz29_0 := blk_frozen BK569.out 0
      have hfz29_1 := blk_frozen BK569.out 1
      obtain ⟨Ao30, co30, eo30⟩ := Kd.V_slice HO575.out
      subst eo30
      go_wp2_with (first | (refine gL (some 55) Tryd.func52 #[.slice Ao30 t573.length co30, .int .i64 (wrap64 (-a0_1))] ?_; (with_reducible refine (num_nat_tens.calls k2 (fun k_ => k_ ≠ gb569) _ _ t573 (wrap64 (-a0_1)) t579 _ ?side1 A28.out).mono ?_); (case side1 => exact HO575.out); rintro e w31 ⟨v580, rfl, ho0, hb⟩; refine ⟨_, rfl, ?_⟩; replace HO_4 := vb HO_4 hb; replace HO575 := vb HO575 hb; have HO581 := am (Kd.V_lower (Kd.V_mono (ok' := fun k_ => k_ ≠ gb569) ho0 (fun k_ hk_ => Or.elim hk_ (fun hs_ => hs_) (fun hn_ => (Kd.freshB (bk BK569) k_ hn_)))) (below_size (lk HB))); replace BK569 := bb BK569 hb; replace HB := lb HB hb))
      go_meet
      case rel => exact ⟨_, (x4_2), (t579), H', ⟨by have := HJ1.out; have := HK2.out; first | omega | exact Nat.le_refl _⟩, ⟨vk HO_4⟩, ⟨vk HO581⟩, ⟨bk BK569⟩, ⟨lk HB⟩⟩
     case rest =>
      clear HC20
      obtain ⟨kq, x4_19, x6_19, HA, HJ19, HO_4, HO_6, BK569, HB⟩ := hcut
      cases kq with
      | zero => exact absurd HA.out (by simp [num_decimal_bits.j2])
      | succ kj19 =>
       have H := HA.out
       clear HA
       simp only [num_decimal_bits.j2] at H
       replace H := bm H
       obtain ⟨t582, A320, H⟩ := H
       have A32 := am A320
       clear A320
       replace H := bm H
       obtain ⟨t583, A330, H⟩ := H
       have A33 := am A330
       clear A330
       have HC34 := am H
       clear H
       obtain ⟨Ao35, co35, eo35⟩ := Kd.V_slice HO_4.out
       subst eo35
       go_upto_if 63 with (first | (refine gL (some 57) Tryd.func51 #[.slice Ao35 x4_19.length co35] ?_; (with_reducible refine (num_nat_size.calls _ _ x4_19 t582 _ ?side1 ?side2 A32.out).mono ?_); (case side1 => exact ck (Kd.V_reads' HO_4.out).2.2); (case side2 => exact (Kd.V_reads' HO_4.out).2.1); rintro e w' ⟨rfl, ⟨nd, rfl⟩⟩; refine ⟨_, rfl, ?_⟩; obtain ⟨Ao36, co36, eo36⟩ := Kd.V_slice HO_6.out; subst eo36) | (refine gL (some 59) Tryd.func51 #[.slice Ao36 x6_19.length co36] ?_; (with_reducible refine (num_nat_size.calls _ _ x6_19 t583 _ ?side1 ?side2 A33.out).mono ?_); (case side1 => exact ck (Kd.V_reads' HO_6.out).2.2); (case side2 => exact (Kd.V_reads' HO_6.out).2.1); rintro e w' ⟨rfl, ⟨nd, rfl⟩⟩; refine ⟨_, rfl, ?_⟩))
       (try simp only [Act.put, List.setIfInBounds_toArray, List.set_cons_zero, List.set_cons_succ])
       go_cut [4, 6] (fun v4 v6 wc => ∃ (kq : Nat) (x4_33 : List Int) (x6_33 : List Int), Aside0 (num_decimal_bits.j3 kq x4_33 x6_33 (wrap64 (56 - (wrap64 (t582 - t583)))) = some r) ∧ Aside0 (kq ≤ kj19) ∧ Aside0 (Kd.V (Kd.int .u32) 102 wc w.heap.size (fun k_ => k_ ≠ gb569) v4 x4_33) ∧ Aside0 (Kd.V (Kd.int .u32) 102 wc w.heap.size (fun k_ => k_ ≠ gb569) v6 x6_33) ∧ Aside0 (wc.heap[gb569]? = some (.cells #[.string a0_0, .int .i64 a0_1] 79 (0, 0))) ∧ Aside0 (Below w.heap.size w wc))
       case first =>
        have H := HC34.out
        clear HC34
        by_cases c37 : (wrap64 (56 - (wrap64 (t582 - t583)))) ≥ 0
        ·
         rw [if_pos c37] at H
         have c37b0 : decide (0 ≤ (wrap64 (56 - (wrap64 (t582 - t583))))) = true := dt c37
         clear c37
         (first | rw [c37b0] | (simp only [i64_w, i32_w]; rw [c37b0]) | skip)
         replace H := bm H
         obtain ⟨t584, A380, H⟩ := H
         have A38 := am A380
         clear A380
         have H' := am H
         clear H
         go_wp2_with (first | (refine gL (some 66) Tryd.func46 #[.slice Ao35 x4_19.length co35, .int .i64 (wrap64 (56 - (wrap64 (t582 - t583))))] ?_; (with_reducible refine (num_nat_up.calls kj19 _ _ x4_19 (wrap64 (56 - (wrap64 (t582 - t583)))) t584 _ ?side1 ?side2 A38.out).mono ?_); (case side1 => exact ck (Kd.V_reads' HO_4.out).2.2); (case side2 => exact (Kd.V_reads' HO_4.out).2.1); rintro e w39 ⟨v585, rfl, ho0, hb⟩; refine ⟨_, rfl, ?_⟩; replace HO_4 := vb HO_4 hb; replace HO_6 := vb HO_6 hb; have HO586 := am (Kd.V_lower (Kd.V_mono (ok' := fun k_ => k_ ≠ gb569) ho0 (fun k_ hk_ => (Kd.freshB (bk BK569) k_ hk_))) (below_size (lk HB))); replace BK569 := bb BK569 hb; replace HB := lb HB hb))
         go_meet
         case rel => exact ⟨_, (t584), (x6_19), H', ⟨by have := HJ1.out; have := HK2.out; have := HJ19.out; first | omega | exact Nat.le_refl _⟩, ⟨vk HO586⟩, ⟨vk HO_6⟩, ⟨bk BK569⟩, ⟨lk HB⟩⟩
        rw [if_neg c37] at H
        have c37b0 : decide (0 ≤ (wrap64 (56 - (wrap64 (t582 - t583))))) = false := decide_eq_false c37
        clear c37
        (first | rw [c37b0] | (simp only [i64_w, i32_w]; rw [c37b0]) | skip)
        replace H := bm H
        obtain ⟨t587, A400, H⟩ := H
        have A40 := am A400
        clear A400
        have H' := am H
        clear H
        go_wp2_with (first | (refine gL (some 70) Tryd.func46 #[.slice Ao36 x6_19.length co36, .int .i64 (wrap64 (-(wrap64 (56 - (wrap64 (t582 - t583))))))] ?_; (with_reducible refine (num_nat_up.calls kj19 _ _ x6_19 (wrap64 (-(wrap64 (56 - (wrap64 (t582 - t583)))))) t587 _ ?side1 ?side2 A40.out).mono ?_); (case side1 => exact ck (Kd.V_reads' HO_6.out).2.2); (case side2 => exact (Kd.V_reads' HO_6.out).2.1); rintro e w41 ⟨v588, rfl, ho0, hb⟩; refine ⟨_, rfl, ?_⟩; replace HO_4 := vb HO_4 hb; replace HO_6 := vb HO_6 hb; have HO589 := am (Kd.V_lower (Kd.V_mono (ok' := fun k_ => k_ ≠ gb569) ho0 (fun k_ hk_ => (Kd.freshB (bk BK569) k_ hk_))) (below_size (lk HB))); replace BK569 := bb BK569 hb; replace HB := lb HB hb))
        go_meet
        case rel => exact ⟨_, (x4_19), (t587), H', ⟨by have := HJ1.out; have := HK2.out; have := HJ19.out; first | omega | exact Nat.le_refl _⟩, ⟨vk HO_4⟩, ⟨vk HO589⟩, ⟨bk BK569⟩, ⟨lk HB⟩⟩
       case rest =>
        clear HC34
        obtain ⟨kq, x4_33, x6_33, HA, HJ33, HO_4, HO_6, BK569, HB⟩ := hcut
        cases kq with
        | zero => exact absurd HA.out (by simp [num_decimal_bits.j3])
        | succ kj33 =>
         have H := HA.out
         clear HA
         simp only [num_decimal_bits.j3] at H
         have H' := am H
         clear H
         go_wp2
         go_loopg [4, 8, 9] kj33 (fun kq v4 v8 v9 w' => ∃ (x4_5 : List Int) (x8_5 : Int) (x9_5 : Int), v8 = .int .u64 x8_5 ∧ v9 = .int .i64 x9_5 ∧ Aside0 (num_decimal_bits.l1 kq x4_5 x6_33 (wrap64 (56 - (wrap64 (t582 - t583)))) x8_5 x9_5 = some r) ∧ Aside0 (kq ≤ kj33) ∧ Aside0 (Kd.V (Kd.int .u32) 102 w' w.heap.size (fun k_ => k_ ≠ gb569) v4 x4_5) ∧ Aside0 (Kd.V (Kd.int .u32) 102 w' w.heap.size (fun k_ => k_ ≠ gb569) u6 x6_33) ∧ Aside0 (w'.heap[gb569]? = some (.cells #[.string a0_0, .int .i64 a0_1] 79 (0, 0))) ∧ Aside0 (Below w.heap.size w w'))
         case atStart => exact ⟨(x4_33), (0), (57), eqd, eqd, H', ⟨Nat.le_refl _⟩, ⟨vk HO_4⟩, ⟨vk HO_6⟩, ⟨bk BK569⟩, ⟨lk HB⟩⟩
         case round =>
          clear H'
          obtain ⟨x4_5, x8_5, x9_5, rfl, rfl, HA, HK5, HO_4, HO_6, BK569, HB⟩ := hrel
          cases gk with
          | zero => exact absurd HA.out (by simp [num_decimal_bits.l1])
          | succ k5 =>
           have H := HA.out
           clear HA
           simp only [num_decimal_bits.l1] at H
           by_cases c42 : x9_5 ≥ 0
           ·
            rw [if_pos c42] at H
            have c42b0 : decide (0 ≤ x9_5) = true := dt c42
            clear c42
            replace H := bm H
            obtain ⟨t591, A430, H⟩ := H
            have A43 := am A430
            clear A430
            replace H := bm H
            obtain ⟨t594, A440, H⟩ := H
            have A44 := am A440
            clear A440
            by_cases c45 : t594 ≥ 0
            ·
             rw [if_pos c45] at H
             have c45b0 : decide (0 ≤ t594) = true := dt c45
             clear c45
             replace H := bm H
             obtain ⟨t595, A460, H⟩ := H
             have A46 := am A460
             clear A460
             by_cases c47 : 0 ≤ x9_5
             ·
              rw [if_pos c47] at H
              have c47b0 := eq_true c47
              have c47b1 := dt c47
              clear c47
              obtain ⟨ji48, hji48⟩ : ∃ j_ : Int, (shl .u64 1 x9_5) = j_ := ⟨_, rfl⟩
              replace H : (num_decimal_bits.l1 k5 t595 x6_33 (wrap64 (56 - (wrap64 (t582 - t583)))) (Go.bits .or .u64 x8_5 (ji48)) (wrap64 (x9_5 - 1))) = some r := by first | (rw [hji48] at H; exact H) | (simp only [hji48] at H ⊢; exact H)
              (try rw [hji48] at A43)
              (try rw [hji48] at A44)
              (try rw [hji48] at A46)
              have hji48_ : (IntKind.u64.wrap (1 * 2 ^ min x9_5.toNat 64)) = ji48 := hji48
              have hji48z : x9_5 ≤ 64 → (IntKind.u64.wrap (1 * 2 ^ x9_5.toNat)) = ji48 := shl_small hji48
              have hji48u : (IntKind.u64.wrap (2 ^ min x9_5.toNat 64)) = ji48 := by have h_ := hji48_; rw [Int.one_mul] at h_; exact h_
              have hji48v : x9_5 ≤ 64 → (IntKind.u64.wrap (2 ^ x9_5.toNat)) = ji48 := fun hle_ => by have h_ := hji48z hle_; rw [Int.one_mul] at h_; exact h_
              have H' := am H
              clear H
              obtain ⟨Ao49, co49, eo49⟩ := Kd.V_slice HO_6.out
              subst eo49
              go_wp2_with (first | (refine gL (some 77) Tryd.func46 #[.slice Ao49 x6_33.length co49, .int .i64 x9_5] ?_; (with_reducible refine (num_nat_up.calls k5 _ _ x6_33 x9_5 t591 _ ?side1 ?side2 A43.out).mono ?_); (case side1 => exact ck (Kd.V_reads' HO_6.out).2.2); (case side2 => exact (Kd.V_reads' HO_6.out).2.1); rintro e w50 ⟨v592, rfl, ho0, hb⟩; refine ⟨_, rfl, ?_⟩; replace HO_4 := vb HO_4 hb; replace HO_6 := vb HO_6 hb; have HO593 := am (Kd.V_lower (Kd.V_mono (ok' := fun k_ => k_ ≠ gb569) ho0 (fun k_ hk_ => (Kd.freshB (bk BK569) k_ hk_))) (below_size (lk HB))); replace BK569 := bb BK569 hb; replace HB := lb HB hb; obtain ⟨Ao51, co51, eo51⟩ := Kd.V_slice HO_4.out; subst eo51; obtain ⟨Ao52, co52, eo52⟩ := Kd.V_slice HO593.out; subst eo52) | (refine gL (some 80) Tryd.func49 #[.slice Ao51 x4_5.length co51, .slice Ao52 t591.length co52] ?_; (with_reducible refine (num_nat_against.calls k5 _ _ x4_5 _ _ t591 t594 _ ?side1 ?side2 ?side3 ?side4 A44.out).mono ?_); (case side1 => exact ck (Kd.V_reads' HO_4.out).2.2); (case side2 => exact (Kd.V_reads' HO_4.out).2.1); (case side3 => exact ck (Kd.V_reads' HO593.out).2.2); (case side4 => exact (Kd.V_reads' HO593.out).2.1); rintro e w' ⟨rfl, ⟨nd, rfl⟩⟩; refine ⟨_, rfl, ?_⟩) | (refine gL (some 84) Tryd.func87 #[.slice Ao51 x4_5.length co51, .slice Ao52 t591.length co52] ?_; (with_reducible refine (num_nat_less.calls k5 _ _ x4_5 _ _ t591 t595 _ ?side1 ?side2 ?side3 ?side4 A46.out).mono ?_); (case side1 => exact ck (Kd.V_reads' HO_4.out).2.2); (case side2 => exact (Kd.V_reads' HO_4.out).2.1); (case side3 => exact ck (Kd.V_reads' HO593.out).2.2); (case side4 => exact (Kd.V_reads' HO593.out).2.1); rintro e w53 ⟨v596, rfl, ho0, hb⟩; refine ⟨_, rfl, ?_⟩; replace HO_4 := vb HO_4 hb; replace HO_6 := vb HO_6 hb; replace HO593 := vb HO593 hb; have HO597 := am (Kd.V_lower (Kd.V_mono (ok' := fun k_ => k_ ≠ gb569) ho0 (fun k_ hk_ => (Kd.freshB (bk BK569) k_ hk_))) (below_size (lk HB))); replace BK569 := bb BK569 hb; replace HB := lb HB hb))
              go_roundg k5
              case measure => have := HJ1.out; have := HK2.out; have := HJ19.out; have := HJ33.out; have := HK5.out; omega
              case rel => exact ⟨(t595), (Go.bits .or .u64 x8_5 (ji48)), (wrap64 (x9_5 - 1)), (by first | rfl | (simp; done) | (simp only [← hji48] <;> (first | rfl | simp)) | (simp [*]; done)), eqd, H', ⟨by have := HJ1.out; have := HK2.out; have := HJ19.out; have := HJ33.out; have := HK5.out; omega⟩, ⟨vk HO597⟩, ⟨vk HO_6⟩, ⟨bk BK569⟩, ⟨lk HB⟩⟩
             rw [if_neg c47] at H
             exact absurd H (by simp)
            rw [if_neg c45] at H
            have c45b0 : decide (0 ≤ t594) = false := decide_eq_false c45
            clear c45
            have H' := am H
            clear H
            obtain ⟨Ao54, co54, eo54⟩ := Kd.V_slice HO_6.out
            subst eo54
            go_wp2_with (first | (refine gL (some 77) Tryd.func46 #[.slice Ao54 x6_33.length co54, .int .i64 x9_5] ?_; (with_reducible refine (num_nat_up.calls k5 _ _ x6_33 x9_5 t591 _ ?side1 ?side2 A43.out).mono ?_); (case side1 => exact ck (Kd.V_reads' HO_6.out).2.2); (case side2 => exact (Kd.V_reads' HO_6.out).2.1); rintro e w55 ⟨v592, rfl, ho0, hb⟩; refine ⟨_, rfl, ?_⟩; replace HO_4 := vb HO_4 hb; replace HO_6 := vb HO_6 hb; have HO593 := am (Kd.V_lower (Kd.V_mono (ok' := fun k_ => k_ ≠ gb569) ho0 (fun k_ hk_ => (Kd.freshB (bk BK569) k_ hk_))) (below_size (lk HB))); replace BK569 := bb BK569 hb; replace HB := lb HB hb; obtain ⟨Ao56, co56, eo56⟩ := Kd.V_slice HO_4.out; subst eo56; obtain ⟨Ao57, co57, eo57⟩ := Kd.V_slice HO593.out; subst eo57) | (refine gL (some 80) Tryd.func49 #[.slice Ao56 x4_5.length co56, .slice Ao57 t591.length co57] ?_; (with_reducible refine (num_nat_against.calls k5 _ _ x4_5 _ _ t591 t594 _ ?side1 ?side2 ?side3 ?side4 A44.out).mono ?_); (case side1 => exact ck (Kd.V_reads' HO_4.out).2.2); (case side2 => exact (Kd.V_reads' HO_4.out).2.1); (case side3 => exact ck (Kd.V_reads' HO593.out).2.2); (case side4 => exact (Kd.V_reads' HO593.out).2.1); rintro e w' ⟨rfl, ⟨nd, rfl⟩⟩; refine ⟨_, rfl, ?_⟩))
            go_roundg k5
            case measure => have := HJ1.out; have := HK2.out; have := HJ19.out; have := HJ33.out; have := HK5.out; omega
            case rel => exact ⟨(x4_5), (x8_5), (wrap64 (x9_5 - 1)), eqd, eqd, H', ⟨by have := HJ1.out; have := HK2.out; have := HJ19.out; have := HJ33.out; have := HK5.out; omega⟩, ⟨vk HO_4⟩, ⟨vk HO_6⟩, ⟨bk BK569⟩, ⟨lk HB⟩⟩
           rw [if_neg c42] at H
           have c42b0 : decide (0 ≤ x9_5) = false := decide_eq_false c42
           clear c42
           replace H := bm H
           obtain ⟨t590, A580, H⟩ := H
           replace H : (some t590) = some r := H
           have A58 := am A580
           clear A580
           obtain rfl := Option.some.inj H
           obtain ⟨Ao59, co59, eo59⟩ := Kd.V_slice HO_4.out
           subst eo59
           go_wp2_with (first | (refine gL (some 95) Tryd.func102 #[.int .u64 x8_5, .int .i64 (wrap64 (-(wrap64 (56 - (wrap64 (t582 - t583)))))), .bool (decide (0 < x4_5.length))] ?_; (with_reducible refine (num_nearest.calls k5 x8_5 (wrap64 (-(wrap64 (56 - (wrap64 (t582 - t583)))))) (decide (0 < x4_5.length)) t590 _ A58.out).mono ?_); rintro e w60 ⟨rfl, hb⟩; refine ⟨_, rfl, ?_⟩; replace HO_4 := vb HO_4 hb; replace HO_6 := vb HO_6 hb; replace BK569 := bb BK569 hb; replace HB := lb HB hb))
           go_ret
           exact ex (lk HB)
mutual
def num_Parse.j0 : Nat → ByteArray → Int → Bool → Option (Nat × Int)
 | 0, _, _, _ => none
 | k + 1, x0, x4, x21 => if x21 = true then (if 0 < (x0.size : Int) then (if (bt x0 0) = 45 then (if 1 ≤ (x0.size : Int) then (num_Parse.j1 k (x0.extract 1 x0.size) 9223372036854775808) else (none)) else (if 1 ≤ (x0.size : Int) then (num_Parse.j1 k (x0.extract 1 x0.size) x4) else (none))) else (none)) else (num_Parse.j1 k x0 x4)
def num_Parse.j1 : Nat → ByteArray → Int → Option (Nat × Int)
 | 0, _, _ => none
 | k + 1, x0, x4 => (Hd.num_small.f x0).bind fun t600 => (if t600.toList = ([110, 97, 110] : List UInt8) then (some ((9221120237041090561 : Int).toNat, 0)) else (if t600.toList = ([105, 110, 102] : List UInt8) then (some (((Go.bits .or .u64 9218868437227405312 x4) : Int).toNat, 0)) else (if t600.toList = ([105, 110, 102, 105, 110, 105, 116, 121] : List UInt8) then (some (((Go.bits .or .u64 9218868437227405312 x4) : Int).toNat, 0)) else ((num_read.f k x0).bind fun bt601 => (if bt601.2.2 = true then ((num_decimal_bits.f k bt601.1 bt601.2.1).bind fun t605 => (some (((Go.bits .or .u64 t605 x4) : Int).toNat, 0))) else (some (0, 8)))))))
end
def num_Parse.f (k : Nat) (a0 : ByteArray) : Option (Nat × Int) := if (a0.size : Int) > 400 then (some (0, 8)) else (if a0.toList = ([] : List UInt8) then (num_Parse.j0 k a0 0 false) else (if 0 < (a0.size : Int) then (if (bt a0 0) = 43 then (num_Parse.j0 k a0 0 true) else (num_Parse.j0 k a0 0 ((bt a0 0) == 45))) else (none)))
theorem num_Parse.mono_l : ∀ k, (∀ y0 y1 y2, LeO (num_Parse.j0 k y0 y1 y2) (num_Parse.j0 (k + 1) y0 y1 y2)) ∧ (∀ y0 y1, LeO (num_Parse.j1 k y0 y1) (num_Parse.j1 (k + 1) y0 y1))
 | 0 => ⟨fun _ _ _ r h => by simp [num_Parse.j0] at h, fun _ _ r h => by simp [num_Parse.j1] at h⟩
 | k + 1 => by
  obtain ⟨ih0, ih1⟩ := num_Parse.mono_l k
  refine ⟨?_, ?_⟩ <;> intros <;> (first | unfold num_Parse.j0 | unfold num_Parse.j1) <;> repeat' (with_reducible first | apply ih0 | apply ih1 | apply num_decimal_bits.mono | apply num_read.mono | apply LeO.refl | apply LeO.none | apply LeO.ite | refine LeO.bind ?_ (fun _ => ?_))
theorem num_Parse.mono : ∀ a0 k, LeO (num_Parse.f k a0) (num_Parse.f (k + 1) a0) := by
 intro a0 k
 obtain ⟨ih0, ih1⟩ := num_Parse.mono_l k
 unfold num_Parse.f
 repeat' (with_reducible first | apply ih0 | apply ih1 | apply num_decimal_bits.mono | apply num_read.mono | apply LeO.refl | apply LeO.none | apply LeO.ite | refine LeO.bind ?_ (fun _ => ?_))
set_option maxHeartbeats 8000000 in
theorem num_Parse.calls (k : Nat) (a0 : ByteArray) (r1 : Nat) (r2 : Int) (w : World) (h : num_Parse.f k a0 = some (r1, r2)) :
  Calls Tryd.prog 18 #[.string a0] w fun e w' => e = .returned (.tuple #[.float .f64 r1, .int .i64 r2]) ∧ Below w.heap.size w w' := by
 have hu79 := Tryd.underlying79
 have HB := am (Below.refl w.heap.size w)
 have H : (if (a0.size : Int) > 400 then (some (0, 8)) else (if a0.toList = ([] : List UInt8) then (num_Parse.j0 k a0 0 false) else (if 0 < (a0.size : Int) then (if (bt a0 0) = 43 then (num_Parse.j0 k a0 0 true) else (num_Parse.j0 k a0 0 ((bt a0 0) == 45))) else (none)))) = some (r1, r2) := h
 clear h
 by_cases c2 : (a0.size : Int) > 400
 ·
  rw [if_pos c2] at H
  have c2b0 : decide (400 < (a0.size : Int)) = true := dt c2
  have c2b1 : decide (400 < a0.size) = true := dt (by omega)
  clear c2
  simp only [Option.some.injEq, Prod.mk.injEq] at H
  obtain ⟨rfl, rfl⟩ := H
  have hext0 := Hd.ext12
  go_enter Tryd.func18, Tryd.ntmps18
  go_wp2
  go_ret2
  exact ex (lk HB)
 rw [if_neg c2] at H
 have c2b0 : decide (400 < (a0.size : Int)) = false := decide_eq_false c2
 have c2b1 : decide (400 < a0.size) = false := decide_eq_false (by omega)
 clear c2
 have HC3 := am H
 clear H
 have hext0 := Hd.ext12
 go_enter Tryd.func18, Tryd.ntmps18
 go_upto_region 4 with (fail)
 go_cut [21] (fun v21 wc => ∃ (kq : Nat) (x21_2 : Bool), v21 = .bool x21_2 ∧ Aside0 (num_Parse.j0 kq a0 0 x21_2 = some (r1, r2)) ∧ Aside0 (kq ≤ k) ∧ Aside0 (Below w.heap.size w wc))
 case first =>
  have H := HC3.out
  clear HC3
  by_cases c4 : a0.toList = ([] : List UInt8)
  ·
   rw [if_pos c4] at H
   have c4b0 : (a0.toList == ([] : List UInt8)) = true := beq_iff_eq.mpr c4
   have c4b1 : (a0.toList != ([] : List UInt8)) = false := bne_eq_false_iff_eq.mpr c4
   clear c4
   (first | rw [c4b0] | (simp only [i64_w, i32_w]; rw [c4b0]) | skip)
   have H' := am H
   clear H
   go_wp2
   go_meet
   case rel => exact ⟨_, (false), eqd, H', ol, ⟨lk HB⟩⟩
  rw [if_neg c4] at H
  have c4b0 : (a0.toList == ([] : List UInt8)) = false := beq_eq_false_iff_ne.mpr c4
  have c4b1 : (a0.toList != ([] : List UInt8)) = true := bne_iff_ne.mpr c4
  (first | rw [c4b0] | (simp only [i64_w, i32_w]; rw [c4b0]) | skip)
  by_cases c5 : 0 < (a0.size : Int)
  ·
   rw [if_pos c5] at H
   have c5b0 := dt c5
   have c5b1 : decide (0 < a0.size) = true := dt (by omega)
   clear c5
   by_cases c7 : (bt a0 0) = 43
   ·
    rw [if_pos c7] at H
    have c7b0 : ((bt a0 0) == 43) = true := beq_iff_eq.mpr c7
    have c7b1 : ((bt a0 0) != 43) = false := bne_eq_false_iff_eq.mpr c7
    clear c7
    have H' := am H
    clear H
    have p6 : 0 ≤ (0 : Int) := (by omega)
    have q6 : 0 < a0.size := (by have : (0 : Int) < (a0.size : Int) := od; omega)
    have hx6 : ∀ h : 0 < a0.size, ((a0[0]'h).toNat : Int) = bt a0 0 := bt_at a0 0
    clear p6
    have qi6 : (0 < (a0.size : Int)) = True := eq_true (od)
    replace q6 := eq_true q6
    go_wp2
    go_meet
    case rel => exact ⟨_, (true), eqd, H', ol, ⟨lk HB⟩⟩
   rw [if_neg c7] at H
   have c7b0 : ((bt a0 0) == 43) = false := beq_eq_false_iff_ne.mpr c7
   have c7b1 : ((bt a0 0) != 43) = true := bne_iff_ne.mpr c7
   have H' := am H
   clear H
   have p6 : 0 ≤ (0 : Int) := (by omega)
   have q6 : 0 < a0.size := (by have : (0 : Int) < (a0.size : Int) := od; omega)
   have hx6 : ∀ h : 0 < a0.size, ((a0[0]'h).toNat : Int) = bt a0 0 := bt_at a0 0
   clear p6
   have qi6 : (0 < (a0.size : Int)) = True := eq_true (od)
   replace q6 := eq_true q6
   have p8 : 0 ≤ (0 : Int) := (by omega)
   have q8 : 0 < a0.size := (by have : (0 : Int) < (a0.size : Int) := od; omega)
   have hx8 : ∀ h : 0 < a0.size, ((a0[0]'h).toNat : Int) = bt a0 0 := bt_at a0 0
   clear p8
   have qi8 : (0 < (a0.size : Int)) = True := eq_true (od)
   replace q8 := eq_true q8
   go_wp2
   go_meet
   case rel => exact ⟨_, (((bt a0 0) == 45)), eqd, H', ol, ⟨lk HB⟩⟩
  rw [if_neg c5] at H
  exact absurd H (by simp)
 case rest =>
  clear HC3
  obtain ⟨kq, x21_2, rfl, HA, HJ2, HB⟩ := hcut
  cases kq with
  | zero => exact absurd HA.out (by simp [num_Parse.j0])
  | succ kj2 =>
   have H := HA.out
   clear HA
   simp only [num_Parse.j0] at H
   have HC9 := am H
   clear H
   go_upto_if 21 with (fail)
   go_cut [0, 4] (fun v0 v4 wc => ∃ (kq : Nat) (x0_8 : ByteArray) (x4_8 : Int), v0 = .string x0_8 ∧ v4 = .int .u64 x4_8 ∧ Aside0 (num_Parse.j1 kq x0_8 x4_8 = some (r1, r2)) ∧ Aside0 (kq ≤ kj2) ∧ Aside0 (Below w.heap.size w wc))
   case first =>
    have H := HC9.out
    clear HC9
    by_cases c10 : x21_2 = true
    ·
     subst c10
     have H1 : (if 0 < (a0.size : Int) then (if (bt a0 0) = 45 then (if 1 ≤ (a0.size : Int) then (num_Parse.j1 kj2 (a0.extract 1 a0.size) 9223372036854775808) else (none)) else (if 1 ≤ (a0.size : Int) then (num_Parse.j1 kj2 (a0.extract 1 a0.size) 0) else (none))) else (none)) = some (r1, r2) := by rw [if_pos rfl] at H; exact H
     clear H
     have H := H1
     clear H1
     by_cases c11 : 0 < (a0.size : Int)
     ·
      rw [if_pos c11] at H
      have c11b0 := dt c11
      have c11b1 : decide (0 < a0.size) = true := dt (by omega)
      clear c11
      (first | rw [c11b0] | (simp only [i64_w, i32_w]; rw [c11b0]) | skip)
      by_cases c13 : (bt a0 0) = 45
      ·
       rw [if_pos c13] at H
       have c13b0 : ((bt a0 0) == 45) = true := beq_iff_eq.mpr c13
       have c13b1 : ((bt a0 0) != 45) = false := bne_eq_false_iff_eq.mpr c13
       clear c13
       by_cases c14 : 1 ≤ (a0.size : Int)
       ·
        rw [if_pos c14] at H
        have c14b0 := eq_true c14
        have c14b1 := dt c14
        clear c14
        obtain ⟨y598, hy598⟩ : ∃ y_ : ByteArray, y_ = (a0.extract 1 a0.size) := ⟨_, rfl⟩
        replace H : (num_Parse.j1 kj2 y598 9223372036854775808) = some (r1, r2) := by first | (rw [hy598]; exact H) | exact H
        have Ny598 := am hy598
        clear hy598
        have H' := am H
        clear H
        have p12 : 0 ≤ (0 : Int) := (by omega)
        have q12 : 0 < a0.size := (by have : (0 : Int) < (a0.size : Int) := od; omega)
        have hx12 : ∀ h : 0 < a0.size, ((a0[0]'h).toNat : Int) = bt a0 0 := bt_at a0 0
        clear p12
        have qi12 : (0 < (a0.size : Int)) = True := eq_true (od)
        replace q12 := eq_true q12
        have hcs15 := Hd.str_from (P := Tryd.prog) (k := .i64) Tryd.underlying9 (i := 1) (s := a0) (y := y598) oo oo Ny598.out
        go_wp2
        go_meet
        case rel => exact ⟨_, (y598), (9223372036854775808), eqd, eqd, H', ⟨by have := HJ2.out; first | omega | exact Nat.le_refl _⟩, ⟨lk HB⟩⟩
       rw [if_neg c14] at H
       exact absurd H (by simp)
      rw [if_neg c13] at H
      have c13b0 : ((bt a0 0) == 45) = false := beq_eq_false_iff_ne.mpr c13
      have c13b1 : ((bt a0 0) != 45) = true := bne_iff_ne.mpr c13
      by_cases c16 : 1 ≤ (a0.size : Int)
      ·
       rw [if_pos c16] at H
       have c16b0 := eq_true c16
       have c16b1 := dt c16
       clear c16
       obtain ⟨y599, hy599⟩ : ∃ y_ : ByteArray, y_ = (a0.extract 1 a0.size) := ⟨_, rfl⟩
       replace H : (num_Parse.j1 kj2 y599 0) = some (r1, r2) := by first | (rw [hy599]; exact H) | exact H
       have Ny599 := am hy599
       clear hy599
       have H' := am H
       clear H
       have p12 : 0 ≤ (0 : Int) := (by omega)
       have q12 : 0 < a0.size := (by have : (0 : Int) < (a0.size : Int) := od; omega)
       have hx12 : ∀ h : 0 < a0.size, ((a0[0]'h).toNat : Int) = bt a0 0 := bt_at a0 0
       clear p12
       have qi12 : (0 < (a0.size : Int)) = True := eq_true (od)
       replace q12 := eq_true q12
       have hcs17 := Hd.str_from (P := Tryd.prog) (k := .i64) Tryd.underlying9 (i := 1) (s := a0) (y := y599) oo oo Ny599.out
       go_wp2
       go_meet
       case rel => exact ⟨_, (y599), (0), eqd, eqd, H', ⟨by have := HJ2.out; first | omega | exact Nat.le_refl _⟩, ⟨lk HB⟩⟩
      rw [if_neg c16] at H
      exact absurd H (by simp)
     rw [if_neg c11] at H
     exact absurd H (by simp)
    replace c10 := Bool.eq_false_iff.mpr c10
    subst c10
    have H1 : (num_Parse.j1 kj2 a0 0) = some (r1, r2) := by rw [if_neg (show ¬ (false = true) by decide)] at H; exact H
    clear H
    have H := H1
    clear H1
    have H' := am H
    clear H
    go_wp2
    go_meet
    case rel => exact ⟨_, (a0), (0), eqd, eqd, H', ⟨by have := HJ2.out; first | omega | exact Nat.le_refl _⟩, ⟨lk HB⟩⟩
   case rest =>
    clear HC9
    obtain ⟨kq, x0_8, x4_8, rfl, rfl, HA, HJ8, HB⟩ := hcut
    cases kq with
    | zero => exact absurd HA.out (by simp [num_Parse.j1])
    | succ kj8 =>
     have H := HA.out
     clear HA
     simp only [num_Parse.j1] at H
     replace H := bm H
     obtain ⟨t600, A180, H⟩ := H
     replace H : (if t600.toList = ([110, 97, 110] : List UInt8) then (some ((9221120237041090561 : Int).toNat, 0)) else (if t600.toList = ([105, 110, 102] : List UInt8) then (some (((Go.bits .or .u64 9218868437227405312 x4_8) : Int).toNat, 0)) else (if t600.toList = ([105, 110, 102, 105, 110, 105, 116, 121] : List UInt8) then (some (((Go.bits .or .u64 9218868437227405312 x4_8) : Int).toNat, 0)) else ((num_read.f kj8 x0_8).bind fun bt601 => (if bt601.2.2 = true then ((num_decimal_bits.f kj8 bt601.1 bt601.2.1).bind fun t605 => (some (((Go.bits .or .u64 t605 x4_8) : Int).toNat, 0))) else (some (0, 8))))))) = some (r1, r2) := H
     have A18 := am A180
     clear A180
     by_cases c19 : t600.toList = ([110, 97, 110] : List UInt8)
     ·
      rw [if_pos c19] at H
      have c19b0 : (t600.toList == ([110, 97, 110] : List UInt8)) = true := beq_iff_eq.mpr c19
      have c19b1 : (t600.toList != ([110, 97, 110] : List UInt8)) = false := bne_eq_false_iff_eq.mpr c19
      clear c19
      simp only [Option.some.injEq, Prod.mk.injEq] at H
      obtain ⟨rfl, rfl⟩ := H
      go_wp2_with (first | (refine gL (some 28) Tryd.func65 #[.string x0_8] ?_; (with_reducible refine (Hd.num_small.calls x0_8 t600 _ A18.out).mono ?_); rintro e w20 ⟨rfl, hb⟩; refine ⟨_, rfl, ?_⟩; replace HB := lb HB hb))
      go_ret2
      exact ex (lk HB)
     rw [if_neg c19] at H
     have c19b0 : (t600.toList == ([110, 97, 110] : List UInt8)) = false := beq_eq_false_iff_ne.mpr c19
     have c19b1 : (t600.toList != ([110, 97, 110] : List UInt8)) = true := bne_iff_ne.mpr c19
     by_cases c21 : t600.toList = ([105, 110, 102] : List UInt8)
     ·
      rw [if_pos c21] at H
      have c21b0 : (t600.toList == ([105, 110, 102] : List UInt8)) = true := beq_iff_eq.mpr c21
      have c21b1 : (t600.toList != ([105, 110, 102] : List UInt8)) = false := bne_eq_false_iff_eq.mpr c21
      clear c21
      simp only [Option.some.injEq, Prod.mk.injEq] at H
      obtain ⟨rfl, rfl⟩ := H
      go_wp2_with (first | (refine gL (some 28) Tryd.func65 #[.string x0_8] ?_; (with_reducible refine (Hd.num_small.calls x0_8 t600 _ A18.out).mono ?_); rintro e w22 ⟨rfl, hb⟩; refine ⟨_, rfl, ?_⟩; replace HB := lb HB hb))
      go_ret2
      exact ex (lk HB)
     rw [if_neg c21] at H
     have c21b0 : (t600.toList == ([105, 110, 102] : List UInt8)) = false := beq_eq_false_iff_ne.mpr c21
     have c21b1 : (t600.toList != ([105, 110, 102] : List UInt8)) = true := bne_iff_ne.mpr c21
     by_cases c23 : t600.toList = ([105, 110, 102, 105, 110, 105, 116, 121] : List UInt8)
     ·
      rw [if_pos c23] at H
      have c23b0 : (t600.toList == ([105, 110, 102, 105, 110, 105, 116, 121] : List UInt8)) = true := beq_iff_eq.mpr c23
      have c23b1 : (t600.toList != ([105, 110, 102, 105, 110, 105, 116, 121] : List UInt8)) = false := bne_eq_false_iff_eq.mpr c23
      clear c23
      simp only [Option.some.injEq, Prod.mk.injEq] at H
      obtain ⟨rfl, rfl⟩ := H
      go_wp2_with (first | (refine gL (some 28) Tryd.func65 #[.string x0_8] ?_; (with_reducible refine (Hd.num_small.calls x0_8 t600 _ A18.out).mono ?_); rintro e w24 ⟨rfl, hb⟩; refine ⟨_, rfl, ?_⟩; replace HB := lb HB hb))
      go_ret2
      exact ex (lk HB)
     rw [if_neg c23] at H
     have c23b0 : (t600.toList == ([105, 110, 102, 105, 110, 105, 116, 121] : List UInt8)) = false := beq_eq_false_iff_ne.mpr c23
     have c23b1 : (t600.toList != ([105, 110, 102, 105, 110, 105, 116, 121] : List UInt8)) = true := bne_iff_ne.mpr c23
     replace H := bm H
     obtain ⟨⟨t601, t602, t603⟩, A250, H⟩ := H
     replace H : (if t603 = true then ((num_decimal_bits.f kj8 t601 t602).bind fun t605 => (some (((Go.bits .or .u64 t605 x4_8) : Int).toNat, 0))) else (some (0, 8))) = some (r1, r2) := H
     have A25 := am A250
     clear A250
     by_cases c26 : t603 = true
     ·
      subst c26
      have H1 : ((num_decimal_bits.f kj8 t601 t602).bind fun t605 => (some (((Go.bits .or .u64 t605 x4_8) : Int).toNat, 0))) = some (r1, r2) := by rw [if_pos rfl] at H; exact H
      clear H
      have H := H1
      clear H1
      replace H := bm H
      obtain ⟨t605, A270, H⟩ := H
      replace H : (some (((Go.bits .or .u64 t605 x4_8) : Int).toNat, 0)) = some (r1, r2) := H
      have A27 := am A270
      clear A270
      simp only [Option.some.injEq, Prod.mk.injEq] at H
      obtain ⟨rfl, rfl⟩ := H
      go_wp2_with (first | (refine gL (some 28) Tryd.func65 #[.string x0_8] ?_; (with_reducible refine (Hd.num_small.calls x0_8 t600 _ A18.out).mono ?_); rintro e w28 ⟨rfl, hb⟩; refine ⟨_, rfl, ?_⟩; replace HB := lb HB hb) | (refine gL (some 40) Tryd.func66 #[.string x0_8] ?_; (with_reducible refine (num_read.calls kj8 x0_8 t601 t602 true _ A25.out).mono ?_); rintro e w29 ⟨rfl, hb⟩; refine ⟨_, rfl, ?_⟩; replace HB := lb HB hb) | ((with_reducible refine gate_dst (N := 5) rfl ?_); refine box_event ?hg (N := 5) ?hd (cs := #[.string (⟨#[]⟩ : ByteArray), .int .i64 0]) (t := 79) ?hr ?_; (case hd => rfl); (case hg => rfl); (case hr => first | (go_simp; done) | (go_simp; rfl)); intro gb604 hg w30 hbox hb; have BK604 := am (hbox); have GW604 := am ((by rw [hg]; exact (below_size (lk HB)) : w.heap.size ≤ gb604)); have GE604 := GW604; replace HB := lb HB hb; clear hb hbox hg; have hcz31_0 : w30.cell? ⟨gb604, 0, none⟩ = some (.string (⟨#[]⟩ : ByteArray)) := (blk_cell BK604.out 0).trans rfl; have hcz31_1 : w30.cell? ⟨gb604, 1, none⟩ = some (.int .i64 0) := (blk_cell BK604.out 1).trans rfl; have hfz31_0 := blk_frozen BK604.out 0; have hfz31_1 := blk_frozen BK604.out 1) | (refine gL (some 46) Tryd.func67 #[.agg #[.string t601, .int .i64 t602]] ?_; (with_reducible refine (num_decimal_bits.calls kj8 t601 t602 t605 _ A27.out).mono ?_); rintro e w32 ⟨rfl, hb⟩; refine ⟨_, rfl, ?_⟩; have n0_ := am (blk_below (g := gb604) (o := .cells #[.string t601, .int .i64 t602] 79 (0, 0)) (by (with_reducible repeat (first | refine blk_drewN ?_ _ | refine blk_drew ?_ | refine blk_alloc ?_ _)); refine blk_put (cs := #[.string t601, .int .i64 0]) ?_ 1 _ rfl; (with_reducible repeat (first | refine blk_drewN ?_ _ | refine blk_drew ?_ | refine blk_alloc ?_ _)); refine blk_put (cs := #[.string (⟨#[]⟩ : ByteArray), .int .i64 0]) ?_ 0 _ rfl; exact bk BK604) hb); have n1_ := lb HB hb; clear BK604 HB; have BK604 := n0_; have HB := n1_; clear n0_ n1_))
      go_ret2
      exact ex (lk HB)
     replace c26 := Bool.eq_false_iff.mpr c26
     subst c26
     have H1 : (some (0, 8)) = some (r1, r2) := by rw [if_neg (show ¬ (false = true) by decide)] at H; exact H
     clear H
     have H := H1
     clear H1
     simp only [Option.some.injEq, Prod.mk.injEq] at H
     obtain ⟨rfl, rfl⟩ := H
     go_wp2_with (first | (refine gL (some 28) Tryd.func65 #[.string x0_8] ?_; (with_reducible refine (Hd.num_small.calls x0_8 t600 _ A18.out).mono ?_); rintro e w33 ⟨rfl, hb⟩; refine ⟨_, rfl, ?_⟩; replace HB := lb HB hb) | (refine gL (some 40) Tryd.func66 #[.string x0_8] ?_; (with_reducible refine (num_read.calls kj8 x0_8 t601 t602 false _ A25.out).mono ?_); rintro e w34 ⟨rfl, hb⟩; refine ⟨_, rfl, ?_⟩; replace HB := lb HB hb) | ((with_reducible refine gate_dst (N := 5) rfl ?_); refine box_event ?hg (N := 5) ?hd (cs := #[.string (⟨#[]⟩ : ByteArray), .int .i64 0]) (t := 79) ?hr ?_; (case hd => rfl); (case hg => rfl); (case hr => first | (go_simp; done) | (go_simp; rfl)); intro gb604 hg w35 hbox hb; have BK604 := am (hbox); have GW604 := am ((by rw [hg]; exact (below_size (lk HB)) : w.heap.size ≤ gb604)); have GE604 := GW604; replace HB := lb HB hb; clear hb hbox hg; have hcz36_0 : w35.cell? ⟨gb604, 0, none⟩ = some (.string (⟨#[]⟩ : ByteArray)) := (blk_cell BK604.out 0).trans rfl; have hcz36_1 : w35.cell? ⟨gb604, 1, none⟩ = some (.int .i64 0) := (blk_cell BK604.out 1).trans rfl; have hfz36_0 := blk_frozen BK604.out 0; have hfz36_1 := blk_frozen BK604.out 1))
     go_ret2
     exact ex (lk HB)
end Go.Proofs.YtjlnfnfdibfniaaDoor.F

