/- Words and walked functions of the proof (part 5). -/
import Derived.Test.YtjlnfnfdibfniaaDoorCBack4
import Derived.Laws.Bits64
import Derived.Laws.BitsLemmas
import Ieee.Arith
import GoSem.Core.Float
import Derived.Laws.FloatArith
import Derived.Laws.BitsAllLaws
import Derived.Laws.Strings
namespace Go.Proofs.YtjlnfnfdibfniaaDoor.F
open Go.RowKit Go.Proofs.YtjlnfnfdibfniaaDoorW.PrintWords Go.Proofs.YtjlnfnfdibfniaaDoorW.PrintLast Go.Proofs.YtjlnfnfdibfniaaDoorW.PrintMore
attribute [local go_sem] max2_int min2_int max_two min_two max_three min_three max_four min_four
set_option linter.unusedVariables false
set_option linter.unusedSimpArgs false
mutual
def num_Text.j0 : Nat → Nat → ByteArray → Int → ByteArray → Option (ByteArray)
 | 0, _, _, _, _ => none
 | k + 1, x0, x3, x4, x6 => (math_IsNaN.f x0).bind fun t495 => (if t495 = true then (some (⟨#[78, 97, 78]⟩ : ByteArray)) else (if (FloatKind.f64.format.order x0 9218868437227405311 == some Ordering.gt) = true then (some (⟨#[43, 73, 110, 102]⟩ : ByteArray)) else (if (FloatKind.f64.format.order x0 18442240474082181119 == some Ordering.lt) = true then (some (⟨#[45, 73, 110, 102]⟩ : ByteArray)) else (if (FloatKind.f64.format.order x0 0 == some Ordering.eq) = true then (if x6.size + 1 ≤ 9223372036854775807 then (some (x6 ++ (⟨#[48]⟩ : ByteArray))) else (none)) else (if x4 < (-5) then (num_Text.j1 k x3 x4 x6 true) else (num_Text.j1 k x3 x4 x6 (decide (x4 > 21))))))))
def num_Text.j1 : Nat → ByteArray → Int → ByteArray → Bool → Option (ByteArray)
 | 0, _, _, _, _ => none
 | k + 1, x3, x4, x6, x28 => if x28 = true then ((num_scientific.f k x3 (wrap64 (x4 - 1))).bind fun t497 => (if x6.size + t497.size ≤ 9223372036854775807 then (some (x6 ++ t497)) else (none))) else (if x4 ≤ 0 then (if x6.size + 2 ≤ 9223372036854775807 then ((some (x6 ++ (⟨#[48, 46]⟩ : ByteArray) : ByteArray)).bind fun y499 => ((Hd.strings_Repeat.f (⟨#[48]⟩ : ByteArray) (wrap64 (-x4))).bind fun t500 => (if y499.size + t500.size ≤ 9223372036854775807 then ((some (y499 ++ t500 : ByteArray)).bind fun y501 => (if y501.size + x3.size ≤ 9223372036854775807 then (some (y501 ++ x3)) else (none))) else (none)))) else (none)) else (if x4 ≥ (x3.size : Int) then (if x6.size + x3.size ≤ 9223372036854775807 then ((some (x6 ++ x3 : ByteArray)).bind fun y503 => ((Hd.strings_Repeat.f (⟨#[48]⟩ : ByteArray) (wrap64 (x4 - (x3.size : Int)))).bind fun t504 => (if y503.size + t504.size ≤ 9223372036854775807 then (some (y503 ++ t504)) else (none)))) else (none)) else (if 0 ≤ x4 then (if x4 ≤ (x3.size : Int) then ((some (x3.extract 0 (x4 : Int).toNat : ByteArray)).bind fun y506 => (if x6.size + y506.size ≤ 9223372036854775807 then ((some (x6 ++ y506 : ByteArray)).bind fun y507 => (if y507.size + 1 ≤ 9223372036854775807 then ((some (y507 ++ (⟨#[46]⟩ : ByteArray) : ByteArray)).bind fun y508 => ((some (x3.extract (x4 : Int).toNat x3.size : ByteArray)).bind fun y509 => (if y508.size + y509.size ≤ 9223372036854775807 then (some (y508 ++ y509)) else (none)))) else (none))) else (none))) else (none)) else (none))))
end
def num_Text.f (k : Nat) (a0 : Nat) : Option (ByteArray) := (num_Digits.f k a0).bind fun bt492 => (if bt492.2.2 = true then (num_Text.j0 k a0 bt492.1 bt492.2.1 (⟨#[45]⟩ : ByteArray)) else (num_Text.j0 k a0 bt492.1 bt492.2.1 (⟨#[]⟩ : ByteArray)))
theorem num_Text.mono_l : ∀ k, (∀ y0 y1 y2 y3, LeO (num_Text.j0 k y0 y1 y2 y3) (num_Text.j0 (k + 1) y0 y1 y2 y3)) ∧ (∀ y0 y1 y2 y3, LeO (num_Text.j1 k y0 y1 y2 y3) (num_Text.j1 (k + 1) y0 y1 y2 y3))
 | 0 => ⟨fun _ _ _ _ r h => by simp [num_Text.j0] at h, fun _ _ _ _ r h => by simp [num_Text.j1] at h⟩
 | k + 1 => by
  obtain ⟨ih0, ih1⟩ := num_Text.mono_l k
  refine ⟨?_, ?_⟩
  ·
   intro y0 y1 y2 y3
   unfold num_Text.j0
   repeat' (with_reducible first | exact ih0 _ _ _ _ | exact ih1 _ _ _ _ | exact num_Digits.mono _ _ | exact num_scientific.mono _ _ _ | exact LeO.refl _ | exact LeO.none _ | refine LeO.ite ?_ ?_ | refine LeO.bind ?_ (fun _ => ?_))
  intro y0 y1 y2 y3
  unfold num_Text.j1
  repeat' (with_reducible first | exact ih0 _ _ _ _ | exact ih1 _ _ _ _ | exact num_Digits.mono _ _ | exact num_scientific.mono _ _ _ | exact LeO.refl _ | exact LeO.none _ | refine LeO.ite ?_ ?_ | refine LeO.bind ?_ (fun _ => ?_))
theorem num_Text.mono : ∀ a0 k, LeO (num_Text.f k a0) (num_Text.f (k + 1) a0) := by
 intro a0 k
 obtain ⟨ih0, ih1⟩ := num_Text.mono_l k
 unfold num_Text.f
 repeat' (with_reducible first | exact ih0 _ _ _ _ | exact ih1 _ _ _ _ | exact num_Digits.mono _ _ | exact num_scientific.mono _ _ _ | exact LeO.refl _ | exact LeO.none _ | refine LeO.ite ?_ ?_ | refine LeO.bind ?_ (fun _ => ?_))
set_option maxHeartbeats 8000000 in
set_option maxRecDepth 100000 in
theorem num_Text.calls (k : Nat) (a0 : Nat) (r : ByteArray) (w : World) (h : num_Text.f k a0 = some r) :
  Calls Tryd.prog 15 #[.float .f64 a0] w fun e w' => e = .returned (.string r) ∧ Below w.heap.size w w' := by
 have HB := Aside0.mk (Below.refl w.heap.size w)
 have H : ((num_Digits.f k a0).bind fun bt492 => (if bt492.2.2 = true then (num_Text.j0 k a0 bt492.1 bt492.2.1 (⟨#[45]⟩ : ByteArray)) else (num_Text.j0 k a0 bt492.1 bt492.2.1 (⟨#[]⟩ : ByteArray)))) = some r := h
 clear h
 replace H := Option.bind_eq_some_iff.mp H
 obtain ⟨⟨t492, t493, t494⟩, A20, H⟩ := H
 replace H : (if t494 = true then (num_Text.j0 k a0 t492 t493 (⟨#[45]⟩ : ByteArray)) else (num_Text.j0 k a0 t492 t493 (⟨#[]⟩ : ByteArray))) = some r := H
 have A2 := Aside0.mk A20
 clear A20
 have HC3 := Aside0.mk H
 clear H
 go_enter Tryd.func15, Tryd.ntmps15
 go_upto_if 13 with (first | (go_at_call 13; (with_reducible refine (num_Digits.calls k a0 t492 t493 t494 _ A2.out).mono ?_); rintro e w4 ⟨rfl, hb⟩; replace HB := lb HB hb; (try clear hb); (try clear hb2); (try clear hk); (try clear hi)))
 repeat (go_quiet (first | (go_at_call 13; (with_reducible refine (num_Digits.calls k a0 t492 t493 t494 _ A2.out).mono ?_); rintro e w4 ⟨rfl, hb⟩; replace HB := lb HB hb; (try clear hb); (try clear hb2); (try clear hk); (try clear hi))); go_upto_if 13 with (first | (go_at_call 13; (with_reducible refine (num_Digits.calls k a0 t492 t493 t494 _ A2.out).mono ?_); rintro e w4 ⟨rfl, hb⟩; replace HB := lb HB hb; (try clear hb); (try clear hb2); (try clear hk); (try clear hi))))
 (try simp only [Act.put, List.setIfInBounds_toArray, List.set_cons_zero, List.set_cons_succ])
 go_cut [6] (fun v6 wc => ∃ (kq : Nat) (x6_2 : ByteArray), v6 = .string x6_2 ∧ Aside0 (num_Text.j0 kq a0 t492 t493 x6_2 = some r) ∧ Aside0 (kq ≤ k) ∧ Aside0 (Below w.heap.size w wc))
 case first =>
  have H := HC3.out
  clear HC3
  by_cases c5 : t494 = true
  ·
   subst c5
   rw [if_pos rfl] at H
   have H' := Aside0.mk H
   clear H
   go_wp2
   repeat (go_quiet (fail); try go_wp2)
   go_meet
   case rel => exact ⟨_, ((⟨#[45]⟩ : ByteArray)), (by first | rfl | (simp; done) | (simp [*]; done)), H', ⟨by first | omega | exact Nat.le_refl _⟩, ⟨lk HB⟩⟩
  replace c5 := Bool.eq_false_iff.mpr c5
  subst c5
  rw [if_neg (show ¬ (false = true) by decide)] at H
  have H' := Aside0.mk H
  clear H
  go_wp2
  repeat (go_quiet (fail); try go_wp2)
  go_meet
  case rel => exact ⟨_, ((⟨#[]⟩ : ByteArray)), (by first | rfl | (simp; done) | (simp [*]; done)), H', ⟨by first | omega | exact Nat.le_refl _⟩, ⟨lk HB⟩⟩
 case rest =>
  clear HC3
  try clear c1
  try clear p2
  try clear c5
  obtain ⟨kq, x6_2, rfl, HA, HJ2, HB⟩ := hcut
  cases kq with
  | zero => exact absurd HA.out (by simp [num_Text.j0])
  | succ kj2 =>
   have H := HA.out
   clear HA
   simp only [num_Text.j0] at H
   replace H := Option.bind_eq_some_iff.mp H
   obtain ⟨t495, A60, H⟩ := H
   have A6 := Aside0.mk A60
   clear A60
   by_cases c7 : t495 = true
   ·
    subst c7
    rw [if_pos rfl] at H
    obtain rfl := Option.some.inj H
    go_wp2_with (first | (go_at_call 43; (with_reducible refine (math_IsNaN.calls a0 true _ A6.out).mono ?_); rintro e w' ⟨rfl, ⟨nd, rfl⟩⟩; (try first | exact ⟨rfl, _, World.drewN_drewN _ _ _⟩ | exact ⟨rfl, _, Eq.trans (World.drewN_drewN _ _ _) (congrArg (World.drewN _) (Nat.add_assoc _ _ _))⟩)))
    repeat (go_quiet (first | (go_at_call 43; (with_reducible refine (math_IsNaN.calls a0 true _ A6.out).mono ?_); rintro e w' ⟨rfl, ⟨nd, rfl⟩⟩; (try first | exact ⟨rfl, _, World.drewN_drewN _ _ _⟩ | exact ⟨rfl, _, Eq.trans (World.drewN_drewN _ _ _) (congrArg (World.drewN _) (Nat.add_assoc _ _ _))⟩))); try go_wp2_with (first | (go_at_call 43; (with_reducible refine (math_IsNaN.calls a0 true _ A6.out).mono ?_); rintro e w' ⟨rfl, ⟨nd, rfl⟩⟩; (try first | exact ⟨rfl, _, World.drewN_drewN _ _ _⟩ | exact ⟨rfl, _, Eq.trans (World.drewN_drewN _ _ _) (congrArg (World.drewN _) (Nat.add_assoc _ _ _))⟩))))
    go_ret
    exact ex (lk HB)
   replace c7 := Bool.eq_false_iff.mpr c7
   subst c7
   rw [if_neg (show ¬ (false = true) by decide)] at H
   by_cases c8 : (FloatKind.f64.format.order a0 9218868437227405311 == some Ordering.gt) = true
   ·
    rw [if_pos c8] at H
    have c8b0 : (FloatKind.f64.format.order a0 9218868437227405311 == some Ordering.gt) = true := c8
    (try (have c8b1 : decide (FloatKind.f64.format.order a0 9218868437227405311 = some Ordering.gt) = true := by simpa using c8))
    (try (have c8b2 : (FloatKind.f64.format.order a0 9218868437227405311 == some Ordering.gt) = true := by simpa using c8))
    clear c8
    obtain rfl := Option.some.inj H
    go_wp2_with (first | (go_at_call 43; (with_reducible refine (math_IsNaN.calls a0 false _ A6.out).mono ?_); rintro e w' ⟨rfl, ⟨nd, rfl⟩⟩; (try first | exact ⟨rfl, _, World.drewN_drewN _ _ _⟩ | exact ⟨rfl, _, Eq.trans (World.drewN_drewN _ _ _) (congrArg (World.drewN _) (Nat.add_assoc _ _ _))⟩)))
    repeat (go_quiet (first | (go_at_call 43; (with_reducible refine (math_IsNaN.calls a0 false _ A6.out).mono ?_); rintro e w' ⟨rfl, ⟨nd, rfl⟩⟩; (try first | exact ⟨rfl, _, World.drewN_drewN _ _ _⟩ | exact ⟨rfl, _, Eq.trans (World.drewN_drewN _ _ _) (congrArg (World.drewN _) (Nat.add_assoc _ _ _))⟩))); try go_wp2_with (first | (go_at_call 43; (with_reducible refine (math_IsNaN.calls a0 false _ A6.out).mono ?_); rintro e w' ⟨rfl, ⟨nd, rfl⟩⟩; (try first | exact ⟨rfl, _, World.drewN_drewN _ _ _⟩ | exact ⟨rfl, _, Eq.trans (World.drewN_drewN _ _ _) (congrArg (World.drewN _) (Nat.add_assoc _ _ _))⟩))))
    go_ret
    exact ex (lk HB)
   rw [if_neg c8] at H
   have c8b0 : (FloatKind.f64.format.order a0 9218868437227405311 == some Ordering.gt) = false := by simpa using c8
   (try (have c8b1 : decide (FloatKind.f64.format.order a0 9218868437227405311 = some Ordering.gt) = false := by simpa using c8))
   (try (have c8b2 : (FloatKind.f64.format.order a0 9218868437227405311 == some Ordering.gt) = false := by simpa using c8))
   (try (have c8b3 : ¬ (FloatKind.f64.format.order a0 9218868437227405311 = some Ordering.gt) := by simpa using c8))
   clear c8
   by_cases c9 : (FloatKind.f64.format.order a0 18442240474082181119 == some Ordering.lt) = true
   ·
    rw [if_pos c9] at H
    have c9b0 : (FloatKind.f64.format.order a0 18442240474082181119 == some Ordering.lt) = true := c9
    (try (have c9b1 : decide (FloatKind.f64.format.order a0 18442240474082181119 = some Ordering.lt) = true := by simpa using c9))
    (try (have c9b2 : (FloatKind.f64.format.order a0 18442240474082181119 == some Ordering.lt) = true := by simpa using c9))
    clear c9
    obtain rfl := Option.some.inj H
    go_wp2_with (first | (go_at_call 43; (with_reducible refine (math_IsNaN.calls a0 false _ A6.out).mono ?_); rintro e w' ⟨rfl, ⟨nd, rfl⟩⟩; (try first | exact ⟨rfl, _, World.drewN_drewN _ _ _⟩ | exact ⟨rfl, _, Eq.trans (World.drewN_drewN _ _ _) (congrArg (World.drewN _) (Nat.add_assoc _ _ _))⟩)))
    repeat (go_quiet (first | (go_at_call 43; (with_reducible refine (math_IsNaN.calls a0 false _ A6.out).mono ?_); rintro e w' ⟨rfl, ⟨nd, rfl⟩⟩; (try first | exact ⟨rfl, _, World.drewN_drewN _ _ _⟩ | exact ⟨rfl, _, Eq.trans (World.drewN_drewN _ _ _) (congrArg (World.drewN _) (Nat.add_assoc _ _ _))⟩))); try go_wp2_with (first | (go_at_call 43; (with_reducible refine (math_IsNaN.calls a0 false _ A6.out).mono ?_); rintro e w' ⟨rfl, ⟨nd, rfl⟩⟩; (try first | exact ⟨rfl, _, World.drewN_drewN _ _ _⟩ | exact ⟨rfl, _, Eq.trans (World.drewN_drewN _ _ _) (congrArg (World.drewN _) (Nat.add_assoc _ _ _))⟩))))
    go_ret
    exact ex (lk HB)
   rw [if_neg c9] at H
   have c9b0 : (FloatKind.f64.format.order a0 18442240474082181119 == some Ordering.lt) = false := by simpa using c9
   (try (have c9b1 : decide (FloatKind.f64.format.order a0 18442240474082181119 = some Ordering.lt) = false := by simpa using c9))
   (try (have c9b2 : (FloatKind.f64.format.order a0 18442240474082181119 == some Ordering.lt) = false := by simpa using c9))
   (try (have c9b3 : ¬ (FloatKind.f64.format.order a0 18442240474082181119 = some Ordering.lt) := by simpa using c9))
   clear c9
   by_cases c10 : (FloatKind.f64.format.order a0 0 == some Ordering.eq) = true
   ·
    rw [if_pos c10] at H
    have c10b0 : (FloatKind.f64.format.order a0 0 == some Ordering.eq) = true := c10
    (try (have c10b1 : decide (FloatKind.f64.format.order a0 0 = some Ordering.eq) = true := by simpa using c10))
    (try (have c10b2 : (FloatKind.f64.format.order a0 0 == some Ordering.eq) = true := by simpa using c10))
    clear c10
    by_cases c11 : x6_2.size + 1 ≤ 9223372036854775807
    ·
     rw [if_pos c11] at H
     have c11b0 := eq_true c11
     have c11b1 : decide (x6_2.size + 1 ≤ 9223372036854775807) = true := decide_eq_true c11
     try have c11b2 : (9223372036854775807 < x6_2.size + 1) = False := eq_false (Nat.not_lt.2 c11)
     obtain ⟨y496, hy496⟩ : ∃ y_ : ByteArray, y_ = (x6_2 ++ (⟨#[48]⟩ : ByteArray)) := ⟨_, rfl⟩
     replace H : (some y496) = some r := by first | (rw [hy496]; with_reducible exact H) | (rw [hy496]; with_reducible exact (hs H :)) | with_reducible exact (hs H :) | with_reducible exact H | (rw [hy496]; exact H) | exact H
     have Ny496 := Aside0.mk hy496
     clear hy496
     obtain rfl := Option.some.inj H
     go_wp2_with (first | (go_at_call 43; (with_reducible refine (math_IsNaN.calls a0 false _ A6.out).mono ?_); rintro e w' ⟨rfl, ⟨nd, rfl⟩⟩; (try first | exact ⟨rfl, _, World.drewN_drewN _ _ _⟩ | exact ⟨rfl, _, Eq.trans (World.drewN_drewN _ _ _) (congrArg (World.drewN _) (Nat.add_assoc _ _ _))⟩); have hcs12 := Hd.str_cat (P := Tryd.prog) (s := x6_2) (t := (⟨#[48]⟩ : ByteArray)) (y := y496) (by first | (with_reducible assumption) | assumption | exact of_eq_true (by assumption) | omega) Ny496.out; have hcs12' := Hd.str_cat' (P := Tryd.prog) (s := x6_2) (t := (⟨#[48]⟩ : ByteArray)) (y := y496) (by first | (with_reducible assumption) | assumption | exact of_eq_true (by assumption) | omega) Ny496.out))
     repeat (go_quiet (first | (go_at_call 43; (with_reducible refine (math_IsNaN.calls a0 false _ A6.out).mono ?_); rintro e w' ⟨rfl, ⟨nd, rfl⟩⟩; (try first | exact ⟨rfl, _, World.drewN_drewN _ _ _⟩ | exact ⟨rfl, _, Eq.trans (World.drewN_drewN _ _ _) (congrArg (World.drewN _) (Nat.add_assoc _ _ _))⟩); have hcs12 := Hd.str_cat (P := Tryd.prog) (s := x6_2) (t := (⟨#[48]⟩ : ByteArray)) (y := y496) (by first | (with_reducible assumption) | assumption | exact of_eq_true (by assumption) | omega) Ny496.out; have hcs12' := Hd.str_cat' (P := Tryd.prog) (s := x6_2) (t := (⟨#[48]⟩ : ByteArray)) (y := y496) (by first | (with_reducible assumption) | assumption | exact of_eq_true (by assumption) | omega) Ny496.out)); try go_wp2_with (first | (go_at_call 43; (with_reducible refine (math_IsNaN.calls a0 false _ A6.out).mono ?_); rintro e w' ⟨rfl, ⟨nd, rfl⟩⟩; (try first | exact ⟨rfl, _, World.drewN_drewN _ _ _⟩ | exact ⟨rfl, _, Eq.trans (World.drewN_drewN _ _ _) (congrArg (World.drewN _) (Nat.add_assoc _ _ _))⟩); have hcs12 := Hd.str_cat (P := Tryd.prog) (s := x6_2) (t := (⟨#[48]⟩ : ByteArray)) (y := y496) (by first | (with_reducible assumption) | assumption | exact of_eq_true (by assumption) | omega) Ny496.out; have hcs12' := Hd.str_cat' (P := Tryd.prog) (s := x6_2) (t := (⟨#[48]⟩ : ByteArray)) (y := y496) (by first | (with_reducible assumption) | assumption | exact of_eq_true (by assumption) | omega) Ny496.out)))
     go_ret
     exact ex (lk HB)
    rw [if_neg c11] at H
    exact absurd H (by simp)
   rw [if_neg c10] at H
   have c10b0 : (FloatKind.f64.format.order a0 0 == some Ordering.eq) = false := by simpa using c10
   (try (have c10b1 : decide (FloatKind.f64.format.order a0 0 = some Ordering.eq) = false := by simpa using c10))
   (try (have c10b2 : (FloatKind.f64.format.order a0 0 == some Ordering.eq) = false := by simpa using c10))
   (try (have c10b3 : ¬ (FloatKind.f64.format.order a0 0 = some Ordering.eq) := by simpa using c10))
   clear c10
   have HC13 := Aside0.mk H
   clear H
   go_upto_region 13 with (first | (go_at_call 43; (with_reducible refine (math_IsNaN.calls a0 false _ A6.out).mono ?_); rintro e w' ⟨rfl, ⟨nd, rfl⟩⟩; (try first | exact ⟨rfl, _, World.drewN_drewN _ _ _⟩ | exact ⟨rfl, _, Eq.trans (World.drewN_drewN _ _ _) (congrArg (World.drewN _) (Nat.add_assoc _ _ _))⟩)))
   repeat (go_quiet (first | (go_at_call 43; (with_reducible refine (math_IsNaN.calls a0 false _ A6.out).mono ?_); rintro e w' ⟨rfl, ⟨nd, rfl⟩⟩; (try first | exact ⟨rfl, _, World.drewN_drewN _ _ _⟩ | exact ⟨rfl, _, Eq.trans (World.drewN_drewN _ _ _) (congrArg (World.drewN _) (Nat.add_assoc _ _ _))⟩))); go_upto_region 13 with (first | (go_at_call 43; (with_reducible refine (math_IsNaN.calls a0 false _ A6.out).mono ?_); rintro e w' ⟨rfl, ⟨nd, rfl⟩⟩; (try first | exact ⟨rfl, _, World.drewN_drewN _ _ _⟩ | exact ⟨rfl, _, Eq.trans (World.drewN_drewN _ _ _) (congrArg (World.drewN _) (Nat.add_assoc _ _ _))⟩))))
   (try simp only [Act.put, List.setIfInBounds_toArray, List.set_cons_zero, List.set_cons_succ])
   go_cut [28] (fun v28 wc => ∃ (kq : Nat) (x28_12 : Bool), v28 = .bool x28_12 ∧ Aside0 (num_Text.j1 kq t492 t493 x6_2 x28_12 = some r) ∧ Aside0 (kq ≤ kj2) ∧ Aside0 (Below w.heap.size w wc))
   case first =>
    have H := HC13.out
    clear HC13
    by_cases c14 : t493 < (-5)
    ·
     rw [if_pos c14] at H
     have c14b0 : decide (t493 < (-5)) = true := decide_eq_true c14
     clear c14
     (first | rw [c14b0] | (simp only [i64_w, i32_w]; rw [c14b0]) | skip)
     have H' := Aside0.mk H
     clear H
     go_wp2
     repeat (go_quiet (fail); try go_wp2)
     go_meet
     case rel => exact ⟨_, (true), (by first | rfl | (simp; done) | (simp [*]; done)), H', ⟨by have := HJ2.out; first | omega | exact Nat.le_refl _⟩, ⟨lk HB⟩⟩
    rw [if_neg c14] at H
    have c14b0 : decide (t493 < (-5)) = false := decide_eq_false c14
    clear c14
    (first | rw [c14b0] | (simp only [i64_w, i32_w]; rw [c14b0]) | skip)
    have H' := Aside0.mk H
    clear H
    go_wp2
    repeat (go_quiet (fail); try go_wp2)
    go_meet
    case rel => exact ⟨_, (decide (t493 > 21)), (by first | rfl | (simp; done) | (simp [*]; done)), H', ⟨by have := HJ2.out; first | omega | exact Nat.le_refl _⟩, ⟨lk HB⟩⟩
   case rest =>
    clear HC13
    try clear c1
    try clear p2
    try clear c5
    try clear c7
    try clear c8
    try clear c8b0
    try clear c8b1
    try clear c8b2
    try clear c9
    try clear c9b0
    try clear c9b1
    try clear c9b2
    try clear c10
    try clear c10b0
    try clear c10b1
    try clear c10b2
    try clear c11
    try clear c11b0
    try clear c11b1
    try clear c11b2
    try clear c14
    try clear c14b0
    try clear p2
    obtain ⟨kq, x28_12, rfl, HA, HJ12, HB⟩ := hcut
    cases kq with
    | zero => exact absurd HA.out (by simp [num_Text.j1])
    | succ kj12 =>
     have H := HA.out
     clear HA
     simp only [num_Text.j1] at H
     by_cases c15 : x28_12 = true
     ·
      subst c15
      rw [if_pos rfl] at H
      replace H := Option.bind_eq_some_iff.mp H
      obtain ⟨t497, A160, H⟩ := H
      have A16 := Aside0.mk A160
      clear A160
      by_cases c17 : x6_2.size + t497.size ≤ 9223372036854775807
      ·
       rw [if_pos c17] at H
       have c17b0 := eq_true c17
       have c17b1 : decide (x6_2.size + t497.size ≤ 9223372036854775807) = true := decide_eq_true c17
       try have c17b2 : (9223372036854775807 < x6_2.size + t497.size) = False := eq_false (Nat.not_lt.2 c17)
       obtain ⟨y498, hy498⟩ : ∃ y_ : ByteArray, y_ = (x6_2 ++ t497) := ⟨_, rfl⟩
       replace H : (some y498) = some r := by first | (rw [hy498]; with_reducible exact H) | (rw [hy498]; with_reducible exact (hs H :)) | with_reducible exact (hs H :) | with_reducible exact H | (rw [hy498]; exact H) | exact H
       have Ny498 := Aside0.mk hy498
       clear hy498
       obtain rfl := Option.some.inj H
       go_wp2_with (first | (go_at_call 61; (with_reducible refine (num_scientific.calls kj12 t492 (wrap64 (t493 - 1)) t497 _ A16.out).mono ?_); rintro e w18 ⟨rfl, hb⟩; replace HB := lb HB hb; (try clear hb); (try clear hb2); (try clear hk); (try clear hi); have hcs19 := Hd.str_cat (P := Tryd.prog) (s := x6_2) (t := t497) (y := y498) (by first | (with_reducible assumption) | assumption | exact of_eq_true (by assumption) | omega) Ny498.out; have hcs19' := Hd.str_cat' (P := Tryd.prog) (s := x6_2) (t := t497) (y := y498) (by first | (with_reducible assumption) | assumption | exact of_eq_true (by assumption) | omega) Ny498.out))
       repeat (go_quiet (first | (go_at_call 61; (with_reducible refine (num_scientific.calls kj12 t492 (wrap64 (t493 - 1)) t497 _ A16.out).mono ?_); rintro e w18 ⟨rfl, hb⟩; replace HB := lb HB hb; (try clear hb); (try clear hb2); (try clear hk); (try clear hi); have hcs19 := Hd.str_cat (P := Tryd.prog) (s := x6_2) (t := t497) (y := y498) (by first | (with_reducible assumption) | assumption | exact of_eq_true (by assumption) | omega) Ny498.out; have hcs19' := Hd.str_cat' (P := Tryd.prog) (s := x6_2) (t := t497) (y := y498) (by first | (with_reducible assumption) | assumption | exact of_eq_true (by assumption) | omega) Ny498.out)); try go_wp2_with (first | (go_at_call 61; (with_reducible refine (num_scientific.calls kj12 t492 (wrap64 (t493 - 1)) t497 _ A16.out).mono ?_); rintro e w18 ⟨rfl, hb⟩; replace HB := lb HB hb; (try clear hb); (try clear hb2); (try clear hk); (try clear hi); have hcs19 := Hd.str_cat (P := Tryd.prog) (s := x6_2) (t := t497) (y := y498) (by first | (with_reducible assumption) | assumption | exact of_eq_true (by assumption) | omega) Ny498.out; have hcs19' := Hd.str_cat' (P := Tryd.prog) (s := x6_2) (t := t497) (y := y498) (by first | (with_reducible assumption) | assumption | exact of_eq_true (by assumption) | omega) Ny498.out)))
       go_ret
       exact ex (lk HB)
      rw [if_neg c17] at H
      exact absurd H (by simp)
     replace c15 := Bool.eq_false_iff.mpr c15
     subst c15
     rw [if_neg (show ¬ (false = true) by decide)] at H
     by_cases c20 : t493 ≤ 0
     ·
      rw [if_pos c20] at H
      have c20b0 : decide (t493 ≤ 0) = true := decide_eq_true c20
      clear c20
      by_cases c21 : x6_2.size + 2 ≤ 9223372036854775807
      ·
       rw [if_pos c21] at H
       have c21b0 := eq_true c21
       have c21b1 : decide (x6_2.size + 2 ≤ 9223372036854775807) = true := decide_eq_true c21
       try have c21b2 : (9223372036854775807 < x6_2.size + 2) = False := eq_false (Nat.not_lt.2 c21)
       obtain ⟨y499, hy499⟩ : ∃ y_ : ByteArray, y_ = (x6_2 ++ (⟨#[48, 46]⟩ : ByteArray)) := ⟨_, rfl⟩
       replace H : ((Hd.strings_Repeat.f (⟨#[48]⟩ : ByteArray) (wrap64 (-t493))).bind fun t500 => (if y499.size + t500.size ≤ 9223372036854775807 then ((some (y499 ++ t500 : ByteArray)).bind fun y501 => (if y501.size + t492.size ≤ 9223372036854775807 then (some (y501 ++ t492)) else (none))) else (none))) = some r := by first | (rw [hy499]; with_reducible exact H) | (rw [hy499]; with_reducible exact (hs H :)) | with_reducible exact (hs H :) | with_reducible exact H | (rw [hy499]; exact H) | exact H
       have Ny499 := Aside0.mk hy499
       clear hy499
       replace H := Option.bind_eq_some_iff.mp H
       obtain ⟨t500, A220, H⟩ := H
       have A22 := Aside0.mk A220
       clear A220
       by_cases c23 : y499.size + t500.size ≤ 9223372036854775807
       ·
        rw [if_pos c23] at H
        have c23b0 := eq_true c23
        have c23b1 : decide (y499.size + t500.size ≤ 9223372036854775807) = true := decide_eq_true c23
        try have c23b2 : (9223372036854775807 < y499.size + t500.size) = False := eq_false (Nat.not_lt.2 c23)
        obtain ⟨y501, hy501⟩ : ∃ y_ : ByteArray, y_ = (y499 ++ t500) := ⟨_, rfl⟩
        replace H : (if y501.size + t492.size ≤ 9223372036854775807 then (some (y501 ++ t492)) else (none)) = some r := by first | (rw [hy501]; with_reducible exact H) | (rw [hy501]; with_reducible exact (hs H :)) | with_reducible exact (hs H :) | with_reducible exact H | (rw [hy501]; exact H) | exact H
        have Ny501 := Aside0.mk hy501
        clear hy501
        by_cases c24 : y501.size + t492.size ≤ 9223372036854775807
        ·
         rw [if_pos c24] at H
         have c24b0 := eq_true c24
         have c24b1 : decide (y501.size + t492.size ≤ 9223372036854775807) = true := decide_eq_true c24
         try have c24b2 : (9223372036854775807 < y501.size + t492.size) = False := eq_false (Nat.not_lt.2 c24)
         obtain ⟨y502, hy502⟩ : ∃ y_ : ByteArray, y_ = (y501 ++ t492) := ⟨_, rfl⟩
         replace H : (some y502) = some r := by first | (rw [hy502]; with_reducible exact H) | (rw [hy502]; with_reducible exact (hs H :)) | with_reducible exact (hs H :) | with_reducible exact H | (rw [hy502]; exact H) | exact H
         have Ny502 := Aside0.mk hy502
         clear hy502
         obtain rfl := Option.some.inj H
         have hcs25 := Hd.str_cat (P := Tryd.prog) (s := x6_2) (t := (⟨#[48, 46]⟩ : ByteArray)) (y := y499) (by first | (with_reducible assumption) | assumption | exact of_eq_true (by assumption) | omega) Ny499.out
         have hcs25' := Hd.str_cat' (P := Tryd.prog) (s := x6_2) (t := (⟨#[48, 46]⟩ : ByteArray)) (y := y499) (by first | (with_reducible assumption) | assumption | exact of_eq_true (by assumption) | omega) Ny499.out
         go_wp2_with (first | (go_at_call 62; (with_reducible refine (Hd.strings_Repeat.calls (⟨#[48]⟩ : ByteArray) (wrap64 (-t493)) t500 _ A22.out).mono ?_); rintro e w26 ⟨rfl, hb⟩; replace HB := lb HB hb; (try clear hb); (try clear hb2); (try clear hk); (try clear hi); have hcs27 := Hd.str_cat (P := Tryd.prog) (s := y499) (t := t500) (y := y501) (by first | (with_reducible assumption) | assumption | exact of_eq_true (by assumption) | omega) Ny501.out; have hcs27' := Hd.str_cat' (P := Tryd.prog) (s := y499) (t := t500) (y := y501) (by first | (with_reducible assumption) | assumption | exact of_eq_true (by assumption) | omega) Ny501.out; have hcs28 := Hd.str_cat (P := Tryd.prog) (s := y501) (t := t492) (y := y502) (by first | (with_reducible assumption) | assumption | exact of_eq_true (by assumption) | omega) Ny502.out; have hcs28' := Hd.str_cat' (P := Tryd.prog) (s := y501) (t := t492) (y := y502) (by first | (with_reducible assumption) | assumption | exact of_eq_true (by assumption) | omega) Ny502.out))
         repeat (go_quiet (first | (go_at_call 62; (with_reducible refine (Hd.strings_Repeat.calls (⟨#[48]⟩ : ByteArray) (wrap64 (-t493)) t500 _ A22.out).mono ?_); rintro e w26 ⟨rfl, hb⟩; replace HB := lb HB hb; (try clear hb); (try clear hb2); (try clear hk); (try clear hi); have hcs27 := Hd.str_cat (P := Tryd.prog) (s := y499) (t := t500) (y := y501) (by first | (with_reducible assumption) | assumption | exact of_eq_true (by assumption) | omega) Ny501.out; have hcs27' := Hd.str_cat' (P := Tryd.prog) (s := y499) (t := t500) (y := y501) (by first | (with_reducible assumption) | assumption | exact of_eq_true (by assumption) | omega) Ny501.out; have hcs28 := Hd.str_cat (P := Tryd.prog) (s := y501) (t := t492) (y := y502) (by first | (with_reducible assumption) | assumption | exact of_eq_true (by assumption) | omega) Ny502.out; have hcs28' := Hd.str_cat' (P := Tryd.prog) (s := y501) (t := t492) (y := y502) (by first | (with_reducible assumption) | assumption | exact of_eq_true (by assumption) | omega) Ny502.out)); try go_wp2_with (first | (go_at_call 62; (with_reducible refine (Hd.strings_Repeat.calls (⟨#[48]⟩ : ByteArray) (wrap64 (-t493)) t500 _ A22.out).mono ?_); rintro e w26 ⟨rfl, hb⟩; replace HB := lb HB hb; (try clear hb); (try clear hb2); (try clear hk); (try clear hi); have hcs27 := Hd.str_cat (P := Tryd.prog) (s := y499) (t := t500) (y := y501) (by first | (with_reducible assumption) | assumption | exact of_eq_true (by assumption) | omega) Ny501.out; have hcs27' := Hd.str_cat' (P := Tryd.prog) (s := y499) (t := t500) (y := y501) (by first | (with_reducible assumption) | assumption | exact of_eq_true (by assumption) | omega) Ny501.out; have hcs28 := Hd.str_cat (P := Tryd.prog) (s := y501) (t := t492) (y := y502) (by first | (with_reducible assumption) | assumption | exact of_eq_true (by assumption) | omega) Ny502.out; have hcs28' := Hd.str_cat' (P := Tryd.prog) (s := y501) (t := t492) (y := y502) (by first | (with_reducible assumption) | assumption | exact of_eq_true (by assumption) | omega) Ny502.out)))
         go_ret
         exact ex (lk HB)
        rw [if_neg c24] at H
        exact absurd H (by simp)
       rw [if_neg c23] at H
       exact absurd H (by simp)
      rw [if_neg c21] at H
      exact absurd H (by simp)
     rw [if_neg c20] at H
     have c20b0 : decide (t493 ≤ 0) = false := decide_eq_false c20
     clear c20
     by_cases c29 : t493 ≥ (t492.size : Int)
     ·
      rw [if_pos c29] at H
      have c29b0 : decide ((t492.size : Int) ≤ t493) = true := decide_eq_true c29
      clear c29
      by_cases c30 : x6_2.size + t492.size ≤ 9223372036854775807
      ·
       rw [if_pos c30] at H
       have c30b0 := eq_true c30
       have c30b1 : decide (x6_2.size + t492.size ≤ 9223372036854775807) = true := decide_eq_true c30
       try have c30b2 : (9223372036854775807 < x6_2.size + t492.size) = False := eq_false (Nat.not_lt.2 c30)
       obtain ⟨y503, hy503⟩ : ∃ y_ : ByteArray, y_ = (x6_2 ++ t492) := ⟨_, rfl⟩
       replace H : ((Hd.strings_Repeat.f (⟨#[48]⟩ : ByteArray) (wrap64 (t493 - (t492.size : Int)))).bind fun t504 => (if y503.size + t504.size ≤ 9223372036854775807 then (some (y503 ++ t504)) else (none))) = some r := by first | (rw [hy503]; with_reducible exact H) | (rw [hy503]; with_reducible exact (hs H :)) | with_reducible exact (hs H :) | with_reducible exact H | (rw [hy503]; exact H) | exact H
       have Ny503 := Aside0.mk hy503
       clear hy503
       replace H := Option.bind_eq_some_iff.mp H
       obtain ⟨t504, A310, H⟩ := H
       have A31 := Aside0.mk A310
       clear A310
       by_cases c32 : y503.size + t504.size ≤ 9223372036854775807
       ·
        rw [if_pos c32] at H
        have c32b0 := eq_true c32
        have c32b1 : decide (y503.size + t504.size ≤ 9223372036854775807) = true := decide_eq_true c32
        try have c32b2 : (9223372036854775807 < y503.size + t504.size) = False := eq_false (Nat.not_lt.2 c32)
        obtain ⟨y505, hy505⟩ : ∃ y_ : ByteArray, y_ = (y503 ++ t504) := ⟨_, rfl⟩
        replace H : (some y505) = some r := by first | (rw [hy505]; with_reducible exact H) | (rw [hy505]; with_reducible exact (hs H :)) | with_reducible exact (hs H :) | with_reducible exact H | (rw [hy505]; exact H) | exact H
        have Ny505 := Aside0.mk hy505
        clear hy505
        obtain rfl := Option.some.inj H
        have hcs33 := Hd.str_cat (P := Tryd.prog) (s := x6_2) (t := t492) (y := y503) (by first | (with_reducible assumption) | assumption | exact of_eq_true (by assumption) | omega) Ny503.out
        have hcs33' := Hd.str_cat' (P := Tryd.prog) (s := x6_2) (t := t492) (y := y503) (by first | (with_reducible assumption) | assumption | exact of_eq_true (by assumption) | omega) Ny503.out
        go_wp2_with (first | (go_at_call 62; (with_reducible refine (Hd.strings_Repeat.calls (⟨#[48]⟩ : ByteArray) (wrap64 (t493 - (t492.size : Int))) t504 _ A31.out).mono ?_); rintro e w34 ⟨rfl, hb⟩; replace HB := lb HB hb; (try clear hb); (try clear hb2); (try clear hk); (try clear hi); have hcs35 := Hd.str_cat (P := Tryd.prog) (s := y503) (t := t504) (y := y505) (by first | (with_reducible assumption) | assumption | exact of_eq_true (by assumption) | omega) Ny505.out; have hcs35' := Hd.str_cat' (P := Tryd.prog) (s := y503) (t := t504) (y := y505) (by first | (with_reducible assumption) | assumption | exact of_eq_true (by assumption) | omega) Ny505.out))
        repeat (go_quiet (first | (go_at_call 62; (with_reducible refine (Hd.strings_Repeat.calls (⟨#[48]⟩ : ByteArray) (wrap64 (t493 - (t492.size : Int))) t504 _ A31.out).mono ?_); rintro e w34 ⟨rfl, hb⟩; replace HB := lb HB hb; (try clear hb); (try clear hb2); (try clear hk); (try clear hi); have hcs35 := Hd.str_cat (P := Tryd.prog) (s := y503) (t := t504) (y := y505) (by first | (with_reducible assumption) | assumption | exact of_eq_true (by assumption) | omega) Ny505.out; have hcs35' := Hd.str_cat' (P := Tryd.prog) (s := y503) (t := t504) (y := y505) (by first | (with_reducible assumption) | assumption | exact of_eq_true (by assumption) | omega) Ny505.out)); try go_wp2_with (first | (go_at_call 62; (with_reducible refine (Hd.strings_Repeat.calls (⟨#[48]⟩ : ByteArray) (wrap64 (t493 - (t492.size : Int))) t504 _ A31.out).mono ?_); rintro e w34 ⟨rfl, hb⟩; replace HB := lb HB hb; (try clear hb); (try clear hb2); (try clear hk); (try clear hi); have hcs35 := Hd.str_cat (P := Tryd.prog) (s := y503) (t := t504) (y := y505) (by first | (with_reducible assumption) | assumption | exact of_eq_true (by assumption) | omega) Ny505.out; have hcs35' := Hd.str_cat' (P := Tryd.prog) (s := y503) (t := t504) (y := y505) (by first | (with_reducible assumption) | assumption | exact of_eq_true (by assumption) | omega) Ny505.out)))
        go_ret
        exact ex (lk HB)
       rw [if_neg c32] at H
       exact absurd H (by simp)
      rw [if_neg c30] at H
      exact absurd H (by simp)
     rw [if_neg c29] at H
     have c29b0 : decide ((t492.size : Int) ≤ t493) = false := decide_eq_false c29
     clear c29
     by_cases c36 : 0 ≤ t493
     ·
      rw [if_pos c36] at H
      have c36b0 := eq_true c36
      have c36b1 : decide (0 ≤ t493) = true := decide_eq_true c36
      clear c36
      by_cases c37 : t493 ≤ (t492.size : Int)
      ·
       rw [if_pos c37] at H
       have c37b0 := eq_true c37
       have c37b1 : decide (t493 ≤ (t492.size : Int)) = true := decide_eq_true c37
       clear c37
       obtain ⟨y506, hy506⟩ : ∃ y_ : ByteArray, y_ = (t492.extract 0 (t493 : Int).toNat) := ⟨_, rfl⟩
       replace H : (if x6_2.size + y506.size ≤ 9223372036854775807 then ((some (x6_2 ++ y506 : ByteArray)).bind fun y507 => (if y507.size + 1 ≤ 9223372036854775807 then ((some (y507 ++ (⟨#[46]⟩ : ByteArray) : ByteArray)).bind fun y508 => ((some (t492.extract (t493 : Int).toNat t492.size : ByteArray)).bind fun y509 => (if y508.size + y509.size ≤ 9223372036854775807 then (some (y508 ++ y509)) else (none)))) else (none))) else (none)) = some r := by first | (rw [hy506]; with_reducible exact H) | (rw [hy506]; with_reducible exact (hs H :)) | with_reducible exact (hs H :) | with_reducible exact H | (rw [hy506]; exact H) | exact H
       have Ny506 := Aside0.mk hy506
       clear hy506
       by_cases c38 : x6_2.size + y506.size ≤ 9223372036854775807
       ·
        rw [if_pos c38] at H
        have c38b0 := eq_true c38
        have c38b1 : decide (x6_2.size + y506.size ≤ 9223372036854775807) = true := decide_eq_true c38
        try have c38b2 : (9223372036854775807 < x6_2.size + y506.size) = False := eq_false (Nat.not_lt.2 c38)
        obtain ⟨y507, hy507⟩ : ∃ y_ : ByteArray, y_ = (x6_2 ++ y506) := ⟨_, rfl⟩
        replace H : (if y507.size + 1 ≤ 9223372036854775807 then ((some (y507 ++ (⟨#[46]⟩ : ByteArray) : ByteArray)).bind fun y508 => ((some (t492.extract (t493 : Int).toNat t492.size : ByteArray)).bind fun y509 => (if y508.size + y509.size ≤ 9223372036854775807 then (some (y508 ++ y509)) else (none)))) else (none)) = some r := by first | (rw [hy507]; with_reducible exact H) | (rw [hy507]; with_reducible exact (hs H :)) | with_reducible exact (hs H :) | with_reducible exact H | (rw [hy507]; exact H) | exact H
        have Ny507 := Aside0.mk hy507
        clear hy507
        by_cases c39 : y507.size + 1 ≤ 9223372036854775807
        ·
         rw [if_pos c39] at H
         have c39b0 := eq_true c39
         have c39b1 : decide (y507.size + 1 ≤ 9223372036854775807) = true := decide_eq_true c39
         try have c39b2 : (9223372036854775807 < y507.size + 1) = False := eq_false (Nat.not_lt.2 c39)
         obtain ⟨y508, hy508⟩ : ∃ y_ : ByteArray, y_ = (y507 ++ (⟨#[46]⟩ : ByteArray)) := ⟨_, rfl⟩
         replace H : ((some (t492.extract (t493 : Int).toNat t492.size : ByteArray)).bind fun y509 => (if y508.size + y509.size ≤ 9223372036854775807 then (some (y508 ++ y509)) else (none))) = some r := by first | (rw [hy508]; with_reducible exact H) | (rw [hy508]; with_reducible exact (hs H :)) | with_reducible exact (hs H :) | with_reducible exact H | (rw [hy508]; exact H) | exact H
         have Ny508 := Aside0.mk hy508
         clear hy508
         have c40b0 := eq_true (of_decide_eq_true (by first | (with_reducible assumption) | assumption) : 0 ≤ t493)
         have c41b0 := eq_true (of_decide_eq_true (by first | (with_reducible assumption) | assumption) : t493 ≤ (t492.size : Int))
         obtain ⟨y509, hy509⟩ : ∃ y_ : ByteArray, y_ = (t492.extract (t493 : Int).toNat t492.size) := ⟨_, rfl⟩
         replace H : (if y508.size + y509.size ≤ 9223372036854775807 then (some (y508 ++ y509)) else (none)) = some r := by first | (rw [hy509]; with_reducible exact H) | (rw [hy509]; with_reducible exact (hs H :)) | with_reducible exact (hs H :) | with_reducible exact H | (rw [hy509]; exact H) | exact H
         have Ny509 := Aside0.mk hy509
         clear hy509
         by_cases c42 : y508.size + y509.size ≤ 9223372036854775807
         ·
          rw [if_pos c42] at H
          have c42b0 := eq_true c42
          have c42b1 : decide (y508.size + y509.size ≤ 9223372036854775807) = true := decide_eq_true c42
          try have c42b2 : (9223372036854775807 < y508.size + y509.size) = False := eq_false (Nat.not_lt.2 c42)
          obtain ⟨y510, hy510⟩ : ∃ y_ : ByteArray, y_ = (y508 ++ y509) := ⟨_, rfl⟩
          replace H : (some y510) = some r := by first | (rw [hy510]; with_reducible exact H) | (rw [hy510]; with_reducible exact (hs H :)) | with_reducible exact (hs H :) | with_reducible exact H | (rw [hy510]; exact H) | exact H
          have Ny510 := Aside0.mk hy510
          clear hy510
          obtain rfl := Option.some.inj H
          have hcs43 := Hd.str_to (P := Tryd.prog) (k := .i64) Tryd.underlying9 (j := t493) (s := t492) (y := y506) (by first | (with_reducible assumption) | exact of_decide_eq_true (by first | (with_reducible assumption) | assumption) | omega) (by first | (with_reducible assumption) | exact of_decide_eq_true (by first | (with_reducible assumption) | assumption) | omega) Ny506.out
          have hcs44 := Hd.str_cat (P := Tryd.prog) (s := x6_2) (t := y506) (y := y507) (by first | (with_reducible assumption) | assumption | exact of_eq_true (by assumption) | omega) Ny507.out
          have hcs44' := Hd.str_cat' (P := Tryd.prog) (s := x6_2) (t := y506) (y := y507) (by first | (with_reducible assumption) | assumption | exact of_eq_true (by assumption) | omega) Ny507.out
          have hcs45 := Hd.str_cat (P := Tryd.prog) (s := y507) (t := (⟨#[46]⟩ : ByteArray)) (y := y508) (by first | (with_reducible assumption) | assumption | exact of_eq_true (by assumption) | omega) Ny508.out
          have hcs45' := Hd.str_cat' (P := Tryd.prog) (s := y507) (t := (⟨#[46]⟩ : ByteArray)) (y := y508) (by first | (with_reducible assumption) | assumption | exact of_eq_true (by assumption) | omega) Ny508.out
          have hcs46 := Hd.str_from (P := Tryd.prog) (k := .i64) Tryd.underlying9 (i := t493) (s := t492) (y := y509) (by first | (with_reducible assumption) | exact of_decide_eq_true (by first | (with_reducible assumption) | assumption) | omega) (by first | (with_reducible assumption) | exact of_decide_eq_true (by first | (with_reducible assumption) | assumption) | omega) Ny509.out
          have hcs47 := Hd.str_cat (P := Tryd.prog) (s := y508) (t := y509) (y := y510) (by first | (with_reducible assumption) | assumption | exact of_eq_true (by assumption) | omega) Ny510.out
          have hcs47' := Hd.str_cat' (P := Tryd.prog) (s := y508) (t := y509) (y := y510) (by first | (with_reducible assumption) | assumption | exact of_eq_true (by assumption) | omega) Ny510.out
          go_wp2
          repeat (go_quiet (fail); try go_wp2)
          go_ret
          exact ex (lk HB)
         rw [if_neg c42] at H
         exact absurd H (by simp)
        rw [if_neg c39] at H
        exact absurd H (by simp)
       rw [if_neg c38] at H
       exact absurd H (by simp)
      rw [if_neg c37] at H
      exact absurd H (by simp)
     rw [if_neg c36] at H
     exact absurd H (by simp)
def w_wakes.f (k : Nat)  : Option (Bool) := (num_Parse.f k (⟨#[50, 46, 53, 101, 45, 49]⟩ : ByteArray)).bind fun bt617 => (if bt617.2 = 0 then (if (FloatKind.f64.format.order bt617.1 4598175219545276416 == some Ordering.eq) = true then ((num_Text.f k 4591870180066957722).bind fun t619 => (if t619.toList = ([48, 46, 49] : List UInt8) then ((num_DurationText.f k 90000).bind fun t620 => (some (t620.toList == ([49, 109, 51, 48, 115] : List UInt8)))) else (some false))) else (some false)) else (some false))
theorem w_wakes.mono : ∀ k, LeO (w_wakes.f k ) (w_wakes.f (k + 1) ) := by
 intro  k
 unfold w_wakes.f
 repeat' (with_reducible first | exact num_DurationText.mono _ _ | exact num_Parse.mono _ _ | exact num_Text.mono _ _ | exact LeO.refl _ | exact LeO.none _ | refine LeO.ite ?_ ?_ | refine LeO.bind ?_ (fun _ => ?_))
set_option maxHeartbeats 8000000 in
set_option maxRecDepth 100000 in
theorem w_wakes.calls (k : Nat)  (r : Bool) (w : World) (h : w_wakes.f k  = some r) :
  Calls Tryd.prog 17 #[] w fun e w' => e = .returned (.bool r) ∧ Below w.heap.size w w' := by
 have HB := Aside0.mk (Below.refl w.heap.size w)
 have H : ((num_Parse.f k (⟨#[50, 46, 53, 101, 45, 49]⟩ : ByteArray)).bind fun bt617 => (if bt617.2 = 0 then (if (FloatKind.f64.format.order bt617.1 4598175219545276416 == some Ordering.eq) = true then ((num_Text.f k 4591870180066957722).bind fun t619 => (if t619.toList = ([48, 46, 49] : List UInt8) then ((num_DurationText.f k 90000).bind fun t620 => (some (t620.toList == ([49, 109, 51, 48, 115] : List UInt8)))) else (some false))) else (some false)) else (some false))) = some r := h
 clear h
 replace H := Option.bind_eq_some_iff.mp H
 obtain ⟨⟨t617, t618⟩, A10, H⟩ := H
 replace H : (if t618 = 0 then (if (FloatKind.f64.format.order t617 4598175219545276416 == some Ordering.eq) = true then ((num_Text.f k 4591870180066957722).bind fun t619 => (if t619.toList = ([48, 46, 49] : List UInt8) then ((num_DurationText.f k 90000).bind fun t620 => (some (t620.toList == ([49, 109, 51, 48, 115] : List UInt8)))) else (some false))) else (some false)) else (some false)) = some r := H
 have A1 := Aside0.mk A10
 clear A10
 by_cases c2 : t618 = 0
 ·
  rw [if_pos c2] at H
  have c2b0 : (t618 == 0) = true := beq_iff_eq.mpr c2
  have c2b1 : (t618 != 0) = false := bne_eq_false_iff_eq.mpr c2
  clear c2
  by_cases c3 : (FloatKind.f64.format.order t617 4598175219545276416 == some Ordering.eq) = true
  ·
   rw [if_pos c3] at H
   have c3b0 : (FloatKind.f64.format.order t617 4598175219545276416 == some Ordering.eq) = true := c3
   (try (have c3b1 : decide (FloatKind.f64.format.order t617 4598175219545276416 = some Ordering.eq) = true := by simpa using c3))
   (try (have c3b2 : (FloatKind.f64.format.order t617 4598175219545276416 == some Ordering.eq) = true := by simpa using c3))
   clear c3
   replace H := Option.bind_eq_some_iff.mp H
   obtain ⟨t619, A40, H⟩ := H
   have A4 := Aside0.mk A40
   clear A40
   by_cases c5 : t619.toList = ([48, 46, 49] : List UInt8)
   ·
    rw [if_pos c5] at H
    have c5b0 : (t619.toList == ([48, 46, 49] : List UInt8)) = true := beq_iff_eq.mpr c5
    have c5b1 : (t619.toList != ([48, 46, 49] : List UInt8)) = false := bne_eq_false_iff_eq.mpr c5
    clear c5
    replace H := Option.bind_eq_some_iff.mp H
    obtain ⟨t620, A60, H⟩ := H
    have A6 := Aside0.mk A60
    clear A60
    obtain rfl := Option.some.inj H
    go_enter Tryd.func17, Tryd.ntmps17
    go_wp2_with (first | ((with_reducible refine gate_callee (f := 18) rfl ?_); refine gL (some 4) Tryd.func18 #[.string (⟨#[50, 46, 53, 101, 45, 49]⟩ : ByteArray)] ?_; (with_reducible refine (num_Parse.calls k (⟨#[50, 46, 53, 101, 45, 49]⟩ : ByteArray) t617 t618 _ A1.out).mono ?_); rintro e w7 ⟨rfl, hb⟩; refine ⟨_, rfl, ?_⟩; replace HB := lb HB hb; (try clear hb); (try clear hb2); (try clear hk); (try clear hi)) | (go_at_call 15; (with_reducible refine (num_Text.calls k 4591870180066957722 t619 _ A4.out).mono ?_); rintro e w8 ⟨rfl, hb⟩; replace HB := lb HB hb; (try clear hb); (try clear hb2); (try clear hk); (try clear hi)) | (go_at_call 38; (with_reducible refine (num_DurationText.calls k 90000 t620 _ A6.out).mono ?_); rintro e w9 ⟨rfl, hb⟩; replace HB := lb HB hb; (try clear hb); (try clear hb2); (try clear hk); (try clear hi)))
    go_ret
    exact ex (lk HB)
   rw [if_neg c5] at H
   have c5b0 : (t619.toList == ([48, 46, 49] : List UInt8)) = false := beq_eq_false_iff_ne.mpr c5
   have c5b1 : (t619.toList != ([48, 46, 49] : List UInt8)) = true := bne_iff_ne.mpr c5
   obtain rfl := Option.some.inj H
   go_enter Tryd.func17, Tryd.ntmps17
   go_wp2_with (first | ((with_reducible refine gate_callee (f := 18) rfl ?_); refine gL (some 4) Tryd.func18 #[.string (⟨#[50, 46, 53, 101, 45, 49]⟩ : ByteArray)] ?_; (with_reducible refine (num_Parse.calls k (⟨#[50, 46, 53, 101, 45, 49]⟩ : ByteArray) t617 t618 _ A1.out).mono ?_); rintro e w10 ⟨rfl, hb⟩; refine ⟨_, rfl, ?_⟩; replace HB := lb HB hb; (try clear hb); (try clear hb2); (try clear hk); (try clear hi)) | (go_at_call 15; (with_reducible refine (num_Text.calls k 4591870180066957722 t619 _ A4.out).mono ?_); rintro e w11 ⟨rfl, hb⟩; replace HB := lb HB hb; (try clear hb); (try clear hb2); (try clear hk); (try clear hi)))
   go_ret
   exact ex (lk HB)
  rw [if_neg c3] at H
  have c3b0 : (FloatKind.f64.format.order t617 4598175219545276416 == some Ordering.eq) = false := by simpa using c3
  (try (have c3b1 : decide (FloatKind.f64.format.order t617 4598175219545276416 = some Ordering.eq) = false := by simpa using c3))
  (try (have c3b2 : (FloatKind.f64.format.order t617 4598175219545276416 == some Ordering.eq) = false := by simpa using c3))
  (try (have c3b3 : ¬ (FloatKind.f64.format.order t617 4598175219545276416 = some Ordering.eq) := by simpa using c3))
  clear c3
  obtain rfl := Option.some.inj H
  go_enter Tryd.func17, Tryd.ntmps17
  go_wp2_with (first | ((with_reducible refine gate_callee (f := 18) rfl ?_); refine gL (some 4) Tryd.func18 #[.string (⟨#[50, 46, 53, 101, 45, 49]⟩ : ByteArray)] ?_; (with_reducible refine (num_Parse.calls k (⟨#[50, 46, 53, 101, 45, 49]⟩ : ByteArray) t617 t618 _ A1.out).mono ?_); rintro e w12 ⟨rfl, hb⟩; refine ⟨_, rfl, ?_⟩; replace HB := lb HB hb; (try clear hb); (try clear hb2); (try clear hk); (try clear hi)))
  go_ret
  exact ex (lk HB)
 rw [if_neg c2] at H
 have c2b0 : (t618 == 0) = false := beq_eq_false_iff_ne.mpr c2
 have c2b1 : (t618 != 0) = true := bne_iff_ne.mpr c2
 obtain rfl := Option.some.inj H
 go_enter Tryd.func17, Tryd.ntmps17
 go_wp2_with (first | ((with_reducible refine gate_callee (f := 18) rfl ?_); refine gL (some 4) Tryd.func18 #[.string (⟨#[50, 46, 53, 101, 45, 49]⟩ : ByteArray)] ?_; (with_reducible refine (num_Parse.calls k (⟨#[50, 46, 53, 101, 45, 49]⟩ : ByteArray) t617 t618 _ A1.out).mono ?_); rintro e w13 ⟨rfl, hb⟩; refine ⟨_, rfl, ?_⟩; replace HB := lb HB hb; (try clear hb); (try clear hb2); (try clear hk); (try clear hi)))
 go_ret
 exact ex (lk HB)
mutual
def w_NumBack.l0 : Nat → List Int → Int → Option (Bool)
 | 0, _, _ => none
 | k + 1, x0, x3 => if x3 < (x0.length : Int) then (w_NumBack.j1 k x0 x3 (decide (x3 < 300))) else (w_NumBack.j1 k x0 x3 false)
def w_NumBack.j1 : Nat → List Int → Int → Bool → Option (Bool)
 | 0, _, _, _ => none
 | k + 1, x0, x3, x14 => if x14 = true then (if 0 ≤ x3 then (if x3 < (x0.length : Int) then ((num_Text.f k (((rd x0 x3) : Int).toNat)).bind fun t667 => ((num_Parse.f k t667).bind fun bt668 => (if bt668.2 = 0 then (if (FloatKind.f64.format.order (((rd x0 x3) : Int).toNat) (((rd x0 x3) : Int).toNat) == some Ordering.eq) = true then ((q_Bits.f (((rd x0 x3) : Int).toNat) bt668.1).bind fun t670 => (if t670 = true then (if (FloatKind.f64.format.order (((rd x0 x3) : Int).toNat) (((rd x0 x3) : Int).toNat) != some Ordering.eq) = true then (if (FloatKind.f64.format.order bt668.1 bt668.1 == some Ordering.eq) = true then (some false) else ((num_Text.f k (((rd x0 x3) : Int).toNat)).bind fun t671 => (if t671.toList = ([78, 97, 78] : List UInt8) then (w_NumBack.l0 k x0 (wrap64 (x3 + 1))) else (some false)))) else (w_NumBack.l0 k x0 (wrap64 (x3 + 1)))) else (some false))) else (if (FloatKind.f64.format.order (((rd x0 x3) : Int).toNat) (((rd x0 x3) : Int).toNat) != some Ordering.eq) = true then (if (FloatKind.f64.format.order bt668.1 bt668.1 == some Ordering.eq) = true then (some false) else ((num_Text.f k (((rd x0 x3) : Int).toNat)).bind fun t672 => (if t672.toList = ([78, 97, 78] : List UInt8) then (w_NumBack.l0 k x0 (wrap64 (x3 + 1))) else (some false)))) else (w_NumBack.l0 k x0 (wrap64 (x3 + 1))))) else (some false)))) else (none)) else (none)) else ((w_wakes.f k).bind fun t665 => (some t665))
end
def w_NumBack.f (k : Nat) (l0 : List Int) : Option (Bool) := w_NumBack.l0 k l0 0
theorem w_NumBack.mono_l : ∀ k, (∀ y0 y1, LeO (w_NumBack.l0 k y0 y1) (w_NumBack.l0 (k + 1) y0 y1)) ∧ (∀ y0 y1 y2, LeO (w_NumBack.j1 k y0 y1 y2) (w_NumBack.j1 (k + 1) y0 y1 y2))
 | 0 => ⟨fun _ _ r h => by simp [w_NumBack.l0] at h, fun _ _ _ r h => by simp [w_NumBack.j1] at h⟩
 | k + 1 => by
  obtain ⟨ih0, ih1⟩ := w_NumBack.mono_l k
  refine ⟨?_, ?_⟩
  ·
   intro y0 y1
   unfold w_NumBack.l0
   repeat' (with_reducible first | exact ih0 _ _ | exact ih1 _ _ _ | exact num_Parse.mono _ _ | exact num_Text.mono _ _ | exact w_wakes.mono _ | exact LeO.refl _ | exact LeO.none _ | refine LeO.ite ?_ ?_ | refine LeO.bind ?_ (fun _ => ?_))
  intro y0 y1 y2
  unfold w_NumBack.j1
  repeat' (with_reducible first | exact ih0 _ _ | exact ih1 _ _ _ | exact num_Parse.mono _ _ | exact num_Text.mono _ _ | exact w_wakes.mono _ | exact LeO.refl _ | exact LeO.none _ | refine LeO.ite ?_ ?_ | refine LeO.bind ?_ (fun _ => ?_))
theorem w_NumBack.mono : ∀ a0 k, LeO (w_NumBack.f k a0) (w_NumBack.f (k + 1) a0) := by
 intro a0 k
 obtain ⟨ih0, ih1⟩ := w_NumBack.mono_l k
 unfold w_NumBack.f
 repeat' (with_reducible first | exact ih0 _ _ | exact ih1 _ _ _ | exact num_Parse.mono _ _ | exact num_Text.mono _ _ | exact w_wakes.mono _ | exact LeO.refl _ | exact LeO.none _ | refine LeO.ite ?_ ?_ | refine LeO.bind ?_ (fun _ => ?_))
set_option maxHeartbeats 8000000 in
set_option maxRecDepth 100000 in
theorem w_NumBack.calls (k : Nat) (A0 : Option Addr) (c0 : Nat) (l0 : List Int) (r : Bool) (w : World) (hr0 : Kd.C (Kd.int .u64) w A0 l0.length l0) (hc0 : l0.length ≤ c0) (h : w_NumBack.f k l0 = some r) :
  Calls Tryd.prog 5 #[.slice A0 l0.length c0] w fun e w' => e = .returned (.bool r) ∧ Below w.heap.size w w' := by
 have HR0 := Aside0.mk hr0
 have HC0 := Aside0.mk hc0
 clear hr0 hc0
 have HB := Aside0.mk (Below.refl w.heap.size w)
 have H : (w_NumBack.l0 k l0 0) = some r := h
 clear h
 have H' := Aside0.mk H
 clear H
 have hext0 := Hd.ext12
 go_enter Tryd.func5, Tryd.ntmps5
 go_wp2
 go_loopg [3] k (fun kq v3 w' => ∃ (x3_1 : Int), v3 = .int .i64 x3_1 ∧ Aside0 (w_NumBack.l0 kq l0 x3_1 = some r) ∧ Aside0 (kq ≤ k) ∧ Aside0 (Below w.heap.size w w'))
 case atStart => exact ⟨(0), (by first | rfl | (simp; done) | (simp [*]; done)), H', ⟨Nat.le_refl _⟩, ⟨lk HB⟩⟩
 case round =>
  clear H'
  obtain ⟨x3_1, rfl, HA, HK1, HB⟩ := hrel
  cases gk with
  | zero => exact absurd HA.out (by simp [w_NumBack.l0])
  | succ k1 =>
   have H := HA.out
   clear HA
   simp only [w_NumBack.l0] at H
   have HC2 := Aside0.mk H
   clear H
   go_upto_region 2 with (fail)
   go_cut [14] (fun v14 wc => ∃ (kq : Nat) (x14_1 : Bool), v14 = .bool x14_1 ∧ Aside0 (w_NumBack.j1 kq l0 x3_1 x14_1 = some r) ∧ Aside0 (kq ≤ k1) ∧ Aside0 (Below w.heap.size w wc))
   case first =>
    have H := HC2.out
    clear HC2
    by_cases c3 : x3_1 < (l0.length : Int)
    ·
     rw [if_pos c3] at H
     have c3b0 : decide (x3_1 < (l0.length : Int)) = true := decide_eq_true c3
     clear c3
     (first | rw [c3b0] | (simp only [i64_w, i32_w]; rw [c3b0]) | skip)
     have H' := Aside0.mk H
     clear H
     go_wp2
     go_meet
     case rel => exact ⟨_, (decide (x3_1 < 300)), (by first | rfl | (simp; done) | (simp [*]; done)), H', ⟨by have := HK1.out; first | omega | exact Nat.le_refl _⟩, ⟨lk HB⟩⟩
    rw [if_neg c3] at H
    have c3b0 : decide (x3_1 < (l0.length : Int)) = false := decide_eq_false c3
    clear c3
    (first | rw [c3b0] | (simp only [i64_w, i32_w]; rw [c3b0]) | skip)
    have H' := Aside0.mk H
    clear H
    go_wp2
    go_meet
    case rel => exact ⟨_, (false), (by first | rfl | (simp; done) | (simp [*]; done)), H', ⟨by have := HK1.out; first | omega | exact Nat.le_refl _⟩, ⟨lk HB⟩⟩
   case rest =>
    clear HC2
    try clear p2
    try clear c3
    try clear c3b0
    obtain ⟨kq, x14_1, rfl, HA, HJ1, HB⟩ := hcut
    cases kq with
    | zero => exact absurd HA.out (by simp [w_NumBack.j1])
    | succ kj1 =>
     have H := HA.out
     clear HA
     simp only [w_NumBack.j1] at H
     by_cases c4 : x14_1 = true
     ·
      subst c4
      rw [if_pos rfl] at H
      by_cases c5 : 0 ≤ x3_1
      ·
       rw [if_pos c5] at H
       have c5b0 : decide (0 ≤ x3_1) = true := decide_eq_true c5
       clear c5
       by_cases c6 : x3_1 < (l0.length : Int)
       ·
        rw [if_pos c6] at H
        have c6b0 : decide (x3_1 < (l0.length : Int)) = true := decide_eq_true c6
        clear c6
        replace H := Option.bind_eq_some_iff.mp H
        obtain ⟨t667, A70, H⟩ := H
        have A7 := Aside0.mk A70
        clear A70
        replace H := Option.bind_eq_some_iff.mp H
        obtain ⟨⟨t668, t669⟩, A80, H⟩ := H
        replace H : (if t669 = 0 then (if (FloatKind.f64.format.order (((rd l0 x3_1) : Int).toNat) (((rd l0 x3_1) : Int).toNat) == some Ordering.eq) = true then ((q_Bits.f (((rd l0 x3_1) : Int).toNat) t668).bind fun t670 => (if t670 = true then (if (FloatKind.f64.format.order (((rd l0 x3_1) : Int).toNat) (((rd l0 x3_1) : Int).toNat) != some Ordering.eq) = true then (if (FloatKind.f64.format.order t668 t668 == some Ordering.eq) = true then (some false) else ((num_Text.f kj1 (((rd l0 x3_1) : Int).toNat)).bind fun t671 => (if t671.toList = ([78, 97, 78] : List UInt8) then (w_NumBack.l0 kj1 l0 (wrap64 (x3_1 + 1))) else (some false)))) else (w_NumBack.l0 kj1 l0 (wrap64 (x3_1 + 1)))) else (some false))) else (if (FloatKind.f64.format.order (((rd l0 x3_1) : Int).toNat) (((rd l0 x3_1) : Int).toNat) != some Ordering.eq) = true then (if (FloatKind.f64.format.order t668 t668 == some Ordering.eq) = true then (some false) else ((num_Text.f kj1 (((rd l0 x3_1) : Int).toNat)).bind fun t672 => (if t672.toList = ([78, 97, 78] : List UInt8) then (w_NumBack.l0 kj1 l0 (wrap64 (x3_1 + 1))) else (some false)))) else (w_NumBack.l0 kj1 l0 (wrap64 (x3_1 + 1))))) else (some false)) = some r := H
        have A8 := Aside0.mk A80
        clear A80
        by_cases c9 : t669 = 0
        ·
         rw [if_pos c9] at H
         have c9b0 : (t669 == 0) = true := beq_iff_eq.mpr c9
         have c9b1 : (t669 != 0) = false := bne_eq_false_iff_eq.mpr c9
         clear c9
         by_cases c10 : (FloatKind.f64.format.order (((rd l0 x3_1) : Int).toNat) (((rd l0 x3_1) : Int).toNat) == some Ordering.eq) = true
         ·
          rw [if_pos c10] at H
          have c10b0 : (FloatKind.f64.format.order (((rd l0 x3_1) : Int).toNat) (((rd l0 x3_1) : Int).toNat) == some Ordering.eq) = true := c10
          (try (have c10b1 : decide (FloatKind.f64.format.order (((rd l0 x3_1) : Int).toNat) (((rd l0 x3_1) : Int).toNat) = some Ordering.eq) = true := by simpa using c10))
          (try (have c10b2 : (FloatKind.f64.format.order (((rd l0 x3_1) : Int).toNat) (((rd l0 x3_1) : Int).toNat) == some Ordering.eq) = true := by simpa using c10))
          clear c10
          replace H := Option.bind_eq_some_iff.mp H
          obtain ⟨t670, A110, H⟩ := H
          have A11 := Aside0.mk A110
          clear A110
          by_cases c12 : t670 = true
          ·
           subst c12
           rw [if_pos rfl] at H
           by_cases c13 : (FloatKind.f64.format.order (((rd l0 x3_1) : Int).toNat) (((rd l0 x3_1) : Int).toNat) != some Ordering.eq) = true
           ·
            rw [if_pos c13] at H
            have c13b0 : (FloatKind.f64.format.order (((rd l0 x3_1) : Int).toNat) (((rd l0 x3_1) : Int).toNat) != some Ordering.eq) = true := c13
            (try (have c13b1 : decide (FloatKind.f64.format.order (((rd l0 x3_1) : Int).toNat) (((rd l0 x3_1) : Int).toNat) = some Ordering.eq) = false := by simpa using c13))
            (try (have c13b2 : (FloatKind.f64.format.order (((rd l0 x3_1) : Int).toNat) (((rd l0 x3_1) : Int).toNat) == some Ordering.eq) = false := by simpa using c13))
            (try (have c13b3 : ¬ (FloatKind.f64.format.order (((rd l0 x3_1) : Int).toNat) (((rd l0 x3_1) : Int).toNat) = some Ordering.eq) := by simpa using c13))
            clear c13
            by_cases c14 : (FloatKind.f64.format.order t668 t668 == some Ordering.eq) = true
            ·
             rw [if_pos c14] at H
             have c14b0 : (FloatKind.f64.format.order t668 t668 == some Ordering.eq) = true := c14
             (try (have c14b1 : decide (FloatKind.f64.format.order t668 t668 = some Ordering.eq) = true := by simpa using c14))
             (try (have c14b2 : (FloatKind.f64.format.order t668 t668 == some Ordering.eq) = true := by simpa using c14))
             clear c14
             obtain rfl := Option.some.inj H
             have p666 : 0 ≤ (x3_1 : Int) := of_decide_eq_true (by first | (with_reducible assumption) | assumption)
             have q666 : x3_1 < (l0.length : Int) := of_decide_eq_true (by first | (with_reducible assumption) | assumption)
             obtain ⟨ad666, e666, hx666_0⟩ := Kd.at_int HR0.out x3_1 p666 q666
             cases e666
             replace hx666_0 := (HB.out.cell (World.block_lt_of_cell? w _ hx666_0)).trans hx666_0
             replace p666 := eq_true p666
             replace q666 := eq_true q666
             go_wp2_with (first | ((with_reducible refine gate_callee (f := 15) rfl ?_); refine gL (some 24) Tryd.func15 #[.float .f64 (((rd l0 x3_1) : Int).toNat)] ?_; (with_reducible refine (num_Text.calls kj1 (((rd l0 x3_1) : Int).toNat) t667 _ A7.out).mono ?_); rintro e w15 ⟨rfl, hb⟩; refine ⟨_, rfl, ?_⟩; replace HB := lb HB hb; (try clear hb); (try clear hb2); (try clear hk); (try clear hi)) | ((with_reducible refine gate_callee (f := 18) rfl ?_); refine gL (some 25) Tryd.func18 #[.string t667] ?_; (with_reducible refine (num_Parse.calls kj1 t667 t668 t669 _ A8.out).mono ?_); rintro e w16 ⟨rfl, hb⟩; refine ⟨_, rfl, ?_⟩; replace HB := lb HB hb; (try clear hb); (try clear hb2); (try clear hk); (try clear hi)) | (go_at_call 20; (with_reducible refine (q_Bits.calls (((rd l0 x3_1) : Int).toNat) t668 true _ A11.out).mono ?_); rintro e w' ⟨rfl, ⟨nd, rfl⟩⟩))
             go_ret
             exact ex (lk HB)
            rw [if_neg c14] at H
            have c14b0 : (FloatKind.f64.format.order t668 t668 == some Ordering.eq) = false := by simpa using c14
            (try (have c14b1 : decide (FloatKind.f64.format.order t668 t668 = some Ordering.eq) = false := by simpa using c14))
            (try (have c14b2 : (FloatKind.f64.format.order t668 t668 == some Ordering.eq) = false := by simpa using c14))
            (try (have c14b3 : ¬ (FloatKind.f64.format.order t668 t668 = some Ordering.eq) := by simpa using c14))
            clear c14
            replace H := Option.bind_eq_some_iff.mp H
            obtain ⟨t671, A170, H⟩ := H
            have A17 := Aside0.mk A170
            clear A170
            by_cases c18 : t671.toList = ([78, 97, 78] : List UInt8)
            ·
             rw [if_pos c18] at H
             have c18b0 : (t671.toList == ([78, 97, 78] : List UInt8)) = true := beq_iff_eq.mpr c18
             have c18b1 : (t671.toList != ([78, 97, 78] : List UInt8)) = false := bne_eq_false_iff_eq.mpr c18
             clear c18
             have H' := Aside0.mk H
             clear H
             have p666 : 0 ≤ (x3_1 : Int) := of_decide_eq_true (by first | (with_reducible assumption) | assumption)
             have q666 : x3_1 < (l0.length : Int) := of_decide_eq_true (by first | (with_reducible assumption) | assumption)
             obtain ⟨ad666, e666, hx666_0⟩ := Kd.at_int HR0.out x3_1 p666 q666
             cases e666
             replace hx666_0 := (HB.out.cell (World.block_lt_of_cell? w _ hx666_0)).trans hx666_0
             replace p666 := eq_true p666
             replace q666 := eq_true q666
             go_wp2_with (first | ((with_reducible refine gate_callee (f := 15) rfl ?_); refine gL (some 24) Tryd.func15 #[.float .f64 (((rd l0 x3_1) : Int).toNat)] ?_; (with_reducible refine (num_Text.calls kj1 (((rd l0 x3_1) : Int).toNat) t667 _ A7.out).mono ?_); rintro e w19 ⟨rfl, hb⟩; refine ⟨_, rfl, ?_⟩; replace HB := lb HB hb; (try clear hb); (try clear hb2); (try clear hk); (try clear hi)) | ((with_reducible refine gate_callee (f := 18) rfl ?_); refine gL (some 25) Tryd.func18 #[.string t667] ?_; (with_reducible refine (num_Parse.calls kj1 t667 t668 t669 _ A8.out).mono ?_); rintro e w20 ⟨rfl, hb⟩; refine ⟨_, rfl, ?_⟩; replace HB := lb HB hb; (try clear hb); (try clear hb2); (try clear hk); (try clear hi)) | (go_at_call 20; (with_reducible refine (q_Bits.calls (((rd l0 x3_1) : Int).toNat) t668 true _ A11.out).mono ?_); rintro e w' ⟨rfl, ⟨nd, rfl⟩⟩) | (go_at_call 15; (with_reducible refine (num_Text.calls kj1 (((rd l0 x3_1) : Int).toNat) t671 _ A17.out).mono ?_); rintro e w21 ⟨rfl, hb⟩; replace HB := lb HB hb; (try clear hb); (try clear hb2); (try clear hk); (try clear hi)))
             go_roundg kj1
             case measure => have := HK1.out; have := HJ1.out; omega
             case rel => exact ⟨(wrap64 (x3_1 + 1)), (by first | rfl | (simp; done) | (simp [*]; done)), H', ⟨by have := HK1.out; have := HJ1.out; omega⟩, ⟨lk HB⟩⟩
            rw [if_neg c18] at H
            have c18b0 : (t671.toList == ([78, 97, 78] : List UInt8)) = false := beq_eq_false_iff_ne.mpr c18
            have c18b1 : (t671.toList != ([78, 97, 78] : List UInt8)) = true := bne_iff_ne.mpr c18
            obtain rfl := Option.some.inj H
            have p666 : 0 ≤ (x3_1 : Int) := of_decide_eq_true (by first | (with_reducible assumption) | assumption)
            have q666 : x3_1 < (l0.length : Int) := of_decide_eq_true (by first | (with_reducible assumption) | assumption)
            obtain ⟨ad666, e666, hx666_0⟩ := Kd.at_int HR0.out x3_1 p666 q666
            cases e666
            replace hx666_0 := (HB.out.cell (World.block_lt_of_cell? w _ hx666_0)).trans hx666_0
            replace p666 := eq_true p666
            replace q666 := eq_true q666
            go_wp2_with (first | ((with_reducible refine gate_callee (f := 15) rfl ?_); refine gL (some 24) Tryd.func15 #[.float .f64 (((rd l0 x3_1) : Int).toNat)] ?_; (with_reducible refine (num_Text.calls kj1 (((rd l0 x3_1) : Int).toNat) t667 _ A7.out).mono ?_); rintro e w22 ⟨rfl, hb⟩; refine ⟨_, rfl, ?_⟩; replace HB := lb HB hb; (try clear hb); (try clear hb2); (try clear hk); (try clear hi)) | ((with_reducible refine gate_callee (f := 18) rfl ?_); refine gL (some 25) Tryd.func18 #[.string t667] ?_; (with_reducible refine (num_Parse.calls kj1 t667 t668 t669 _ A8.out).mono ?_); rintro e w23 ⟨rfl, hb⟩; refine ⟨_, rfl, ?_⟩; replace HB := lb HB hb; (try clear hb); (try clear hb2); (try clear hk); (try clear hi)) | (go_at_call 20; (with_reducible refine (q_Bits.calls (((rd l0 x3_1) : Int).toNat) t668 true _ A11.out).mono ?_); rintro e w' ⟨rfl, ⟨nd, rfl⟩⟩) | (go_at_call 15; (with_reducible refine (num_Text.calls kj1 (((rd l0 x3_1) : Int).toNat) t671 _ A17.out).mono ?_); rintro e w24 ⟨rfl, hb⟩; replace HB := lb HB hb; (try clear hb); (try clear hb2); (try clear hk); (try clear hi)))
            go_ret
            exact ex (lk HB)
           rw [if_neg c13] at H
           have c13b0 : (FloatKind.f64.format.order (((rd l0 x3_1) : Int).toNat) (((rd l0 x3_1) : Int).toNat) != some Ordering.eq) = false := by simpa using c13
           (try (have c13b1 : decide (FloatKind.f64.format.order (((rd l0 x3_1) : Int).toNat) (((rd l0 x3_1) : Int).toNat) = some Ordering.eq) = true := by simpa using c13))
           (try (have c13b2 : (FloatKind.f64.format.order (((rd l0 x3_1) : Int).toNat) (((rd l0 x3_1) : Int).toNat) == some Ordering.eq) = true := by simpa using c13))
           clear c13
           have H' := Aside0.mk H
           clear H
           have p666 : 0 ≤ (x3_1 : Int) := of_decide_eq_true (by first | (with_reducible assumption) | assumption)
           have q666 : x3_1 < (l0.length : Int) := of_decide_eq_true (by first | (with_reducible assumption) | assumption)
           obtain ⟨ad666, e666, hx666_0⟩ := Kd.at_int HR0.out x3_1 p666 q666
           cases e666
           replace hx666_0 := (HB.out.cell (World.block_lt_of_cell? w _ hx666_0)).trans hx666_0
           replace p666 := eq_true p666
           replace q666 := eq_true q666
           go_wp2_with (first | ((with_reducible refine gate_callee (f := 15) rfl ?_); refine gL (some 24) Tryd.func15 #[.float .f64 (((rd l0 x3_1) : Int).toNat)] ?_; (with_reducible refine (num_Text.calls kj1 (((rd l0 x3_1) : Int).toNat) t667 _ A7.out).mono ?_); rintro e w25 ⟨rfl, hb⟩; refine ⟨_, rfl, ?_⟩; replace HB := lb HB hb; (try clear hb); (try clear hb2); (try clear hk); (try clear hi)) | ((with_reducible refine gate_callee (f := 18) rfl ?_); refine gL (some 25) Tryd.func18 #[.string t667] ?_; (with_reducible refine (num_Parse.calls kj1 t667 t668 t669 _ A8.out).mono ?_); rintro e w26 ⟨rfl, hb⟩; refine ⟨_, rfl, ?_⟩; replace HB := lb HB hb; (try clear hb); (try clear hb2); (try clear hk); (try clear hi)) | (go_at_call 20; (with_reducible refine (q_Bits.calls (((rd l0 x3_1) : Int).toNat) t668 true _ A11.out).mono ?_); rintro e w' ⟨rfl, ⟨nd, rfl⟩⟩))
           go_roundg kj1
           case measure => have := HK1.out; have := HJ1.out; omega
           case rel => exact ⟨(wrap64 (x3_1 + 1)), (by first | rfl | (simp; done) | (simp [*]; done)), H', ⟨by have := HK1.out; have := HJ1.out; omega⟩, ⟨lk HB⟩⟩
          replace c12 := Bool.eq_false_iff.mpr c12
          subst c12
          rw [if_neg (show ¬ (false = true) by decide)] at H
          obtain rfl := Option.some.inj H
          have p666 : 0 ≤ (x3_1 : Int) := of_decide_eq_true (by first | (with_reducible assumption) | assumption)
          have q666 : x3_1 < (l0.length : Int) := of_decide_eq_true (by first | (with_reducible assumption) | assumption)
          obtain ⟨ad666, e666, hx666_0⟩ := Kd.at_int HR0.out x3_1 p666 q666
          cases e666
          replace hx666_0 := (HB.out.cell (World.block_lt_of_cell? w _ hx666_0)).trans hx666_0
          replace p666 := eq_true p666
          replace q666 := eq_true q666
          go_wp2_with (first | ((with_reducible refine gate_callee (f := 15) rfl ?_); refine gL (some 24) Tryd.func15 #[.float .f64 (((rd l0 x3_1) : Int).toNat)] ?_; (with_reducible refine (num_Text.calls kj1 (((rd l0 x3_1) : Int).toNat) t667 _ A7.out).mono ?_); rintro e w27 ⟨rfl, hb⟩; refine ⟨_, rfl, ?_⟩; replace HB := lb HB hb; (try clear hb); (try clear hb2); (try clear hk); (try clear hi)) | ((with_reducible refine gate_callee (f := 18) rfl ?_); refine gL (some 25) Tryd.func18 #[.string t667] ?_; (with_reducible refine (num_Parse.calls kj1 t667 t668 t669 _ A8.out).mono ?_); rintro e w28 ⟨rfl, hb⟩; refine ⟨_, rfl, ?_⟩; replace HB := lb HB hb; (try clear hb); (try clear hb2); (try clear hk); (try clear hi)) | (go_at_call 20; (with_reducible refine (q_Bits.calls (((rd l0 x3_1) : Int).toNat) t668 false _ A11.out).mono ?_); rintro e w' ⟨rfl, ⟨nd, rfl⟩⟩))
          go_ret
          exact ex (lk HB)
         rw [if_neg c10] at H
         have c10b0 : (FloatKind.f64.format.order (((rd l0 x3_1) : Int).toNat) (((rd l0 x3_1) : Int).toNat) == some Ordering.eq) = false := by simpa using c10
         (try (have c10b1 : decide (FloatKind.f64.format.order (((rd l0 x3_1) : Int).toNat) (((rd l0 x3_1) : Int).toNat) = some Ordering.eq) = false := by simpa using c10))
         (try (have c10b2 : (FloatKind.f64.format.order (((rd l0 x3_1) : Int).toNat) (((rd l0 x3_1) : Int).toNat) == some Ordering.eq) = false := by simpa using c10))
         (try (have c10b3 : ¬ (FloatKind.f64.format.order (((rd l0 x3_1) : Int).toNat) (((rd l0 x3_1) : Int).toNat) = some Ordering.eq) := by simpa using c10))
         clear c10
         by_cases c29 : (FloatKind.f64.format.order (((rd l0 x3_1) : Int).toNat) (((rd l0 x3_1) : Int).toNat) != some Ordering.eq) = true
         ·
          rw [if_pos c29] at H
          have c29b0 : (FloatKind.f64.format.order (((rd l0 x3_1) : Int).toNat) (((rd l0 x3_1) : Int).toNat) != some Ordering.eq) = true := c29
          (try (have c29b1 : decide (FloatKind.f64.format.order (((rd l0 x3_1) : Int).toNat) (((rd l0 x3_1) : Int).toNat) = some Ordering.eq) = false := by simpa using c29))
          (try (have c29b2 : (FloatKind.f64.format.order (((rd l0 x3_1) : Int).toNat) (((rd l0 x3_1) : Int).toNat) == some Ordering.eq) = false := by simpa using c29))
          (try (have c29b3 : ¬ (FloatKind.f64.format.order (((rd l0 x3_1) : Int).toNat) (((rd l0 x3_1) : Int).toNat) = some Ordering.eq) := by simpa using c29))
          clear c29
          by_cases c30 : (FloatKind.f64.format.order t668 t668 == some Ordering.eq) = true
          ·
           rw [if_pos c30] at H
           have c30b0 : (FloatKind.f64.format.order t668 t668 == some Ordering.eq) = true := c30
           (try (have c30b1 : decide (FloatKind.f64.format.order t668 t668 = some Ordering.eq) = true := by simpa using c30))
           (try (have c30b2 : (FloatKind.f64.format.order t668 t668 == some Ordering.eq) = true := by simpa using c30))
           clear c30
           obtain rfl := Option.some.inj H
           have p666 : 0 ≤ (x3_1 : Int) := of_decide_eq_true (by first | (with_reducible assumption) | assumption)
           have q666 : x3_1 < (l0.length : Int) := of_decide_eq_true (by first | (with_reducible assumption) | assumption)
           obtain ⟨ad666, e666, hx666_0⟩ := Kd.at_int HR0.out x3_1 p666 q666
           cases e666
           replace hx666_0 := (HB.out.cell (World.block_lt_of_cell? w _ hx666_0)).trans hx666_0
           replace p666 := eq_true p666
           replace q666 := eq_true q666
           go_wp2_with (first | ((with_reducible refine gate_callee (f := 15) rfl ?_); refine gL (some 24) Tryd.func15 #[.float .f64 (((rd l0 x3_1) : Int).toNat)] ?_; (with_reducible refine (num_Text.calls kj1 (((rd l0 x3_1) : Int).toNat) t667 _ A7.out).mono ?_); rintro e w31 ⟨rfl, hb⟩; refine ⟨_, rfl, ?_⟩; replace HB := lb HB hb; (try clear hb); (try clear hb2); (try clear hk); (try clear hi)) | ((with_reducible refine gate_callee (f := 18) rfl ?_); refine gL (some 25) Tryd.func18 #[.string t667] ?_; (with_reducible refine (num_Parse.calls kj1 t667 t668 t669 _ A8.out).mono ?_); rintro e w32 ⟨rfl, hb⟩; refine ⟨_, rfl, ?_⟩; replace HB := lb HB hb; (try clear hb); (try clear hb2); (try clear hk); (try clear hi)))
           go_ret
           exact ex (lk HB)
          rw [if_neg c30] at H
          have c30b0 : (FloatKind.f64.format.order t668 t668 == some Ordering.eq) = false := by simpa using c30
          (try (have c30b1 : decide (FloatKind.f64.format.order t668 t668 = some Ordering.eq) = false := by simpa using c30))
          (try (have c30b2 : (FloatKind.f64.format.order t668 t668 == some Ordering.eq) = false := by simpa using c30))
          (try (have c30b3 : ¬ (FloatKind.f64.format.order t668 t668 = some Ordering.eq) := by simpa using c30))
          clear c30
          replace H := Option.bind_eq_some_iff.mp H
          obtain ⟨t672, A330, H⟩ := H
          have A33 := Aside0.mk A330
          clear A330
          by_cases c34 : t672.toList = ([78, 97, 78] : List UInt8)
          ·
           rw [if_pos c34] at H
           have c34b0 : (t672.toList == ([78, 97, 78] : List UInt8)) = true := beq_iff_eq.mpr c34
           have c34b1 : (t672.toList != ([78, 97, 78] : List UInt8)) = false := bne_eq_false_iff_eq.mpr c34
           clear c34
           have H' := Aside0.mk H
           clear H
           have p666 : 0 ≤ (x3_1 : Int) := of_decide_eq_true (by first | (with_reducible assumption) | assumption)
           have q666 : x3_1 < (l0.length : Int) := of_decide_eq_true (by first | (with_reducible assumption) | assumption)
           obtain ⟨ad666, e666, hx666_0⟩ := Kd.at_int HR0.out x3_1 p666 q666
           cases e666
           replace hx666_0 := (HB.out.cell (World.block_lt_of_cell? w _ hx666_0)).trans hx666_0
           replace p666 := eq_true p666
           replace q666 := eq_true q666
           go_wp2_with (first | ((with_reducible refine gate_callee (f := 15) rfl ?_); refine gL (some 24) Tryd.func15 #[.float .f64 (((rd l0 x3_1) : Int).toNat)] ?_; (with_reducible refine (num_Text.calls kj1 (((rd l0 x3_1) : Int).toNat) t667 _ A7.out).mono ?_); rintro e w35 ⟨rfl, hb⟩; refine ⟨_, rfl, ?_⟩; replace HB := lb HB hb; (try clear hb); (try clear hb2); (try clear hk); (try clear hi)) | ((with_reducible refine gate_callee (f := 18) rfl ?_); refine gL (some 25) Tryd.func18 #[.string t667] ?_; (with_reducible refine (num_Parse.calls kj1 t667 t668 t669 _ A8.out).mono ?_); rintro e w36 ⟨rfl, hb⟩; refine ⟨_, rfl, ?_⟩; replace HB := lb HB hb; (try clear hb); (try clear hb2); (try clear hk); (try clear hi)) | (go_at_call 15; (with_reducible refine (num_Text.calls kj1 (((rd l0 x3_1) : Int).toNat) t672 _ A33.out).mono ?_); rintro e w37 ⟨rfl, hb⟩; replace HB := lb HB hb; (try clear hb); (try clear hb2); (try clear hk); (try clear hi)))
           go_roundg kj1
           case measure => have := HK1.out; have := HJ1.out; omega
           case rel => exact ⟨(wrap64 (x3_1 + 1)), (by first | rfl | (simp; done) | (simp [*]; done)), H', ⟨by have := HK1.out; have := HJ1.out; omega⟩, ⟨lk HB⟩⟩
          rw [if_neg c34] at H
          have c34b0 : (t672.toList == ([78, 97, 78] : List UInt8)) = false := beq_eq_false_iff_ne.mpr c34
          have c34b1 : (t672.toList != ([78, 97, 78] : List UInt8)) = true := bne_iff_ne.mpr c34
          obtain rfl := Option.some.inj H
          have p666 : 0 ≤ (x3_1 : Int) := of_decide_eq_true (by first | (with_reducible assumption) | assumption)
          have q666 : x3_1 < (l0.length : Int) := of_decide_eq_true (by first | (with_reducible assumption) | assumption)
          obtain ⟨ad666, e666, hx666_0⟩ := Kd.at_int HR0.out x3_1 p666 q666
          cases e666
          replace hx666_0 := (HB.out.cell (World.block_lt_of_cell? w _ hx666_0)).trans hx666_0
          replace p666 := eq_true p666
          replace q666 := eq_true q666
          go_wp2_with (first | ((with_reducible refine gate_callee (f := 15) rfl ?_); refine gL (some 24) Tryd.func15 #[.float .f64 (((rd l0 x3_1) : Int).toNat)] ?_; (with_reducible refine (num_Text.calls kj1 (((rd l0 x3_1) : Int).toNat) t667 _ A7.out).mono ?_); rintro e w38 ⟨rfl, hb⟩; refine ⟨_, rfl, ?_⟩; replace HB := lb HB hb; (try clear hb); (try clear hb2); (try clear hk); (try clear hi)) | ((with_reducible refine gate_callee (f := 18) rfl ?_); refine gL (some 25) Tryd.func18 #[.string t667] ?_; (with_reducible refine (num_Parse.calls kj1 t667 t668 t669 _ A8.out).mono ?_); rintro e w39 ⟨rfl, hb⟩; refine ⟨_, rfl, ?_⟩; replace HB := lb HB hb; (try clear hb); (try clear hb2); (try clear hk); (try clear hi)) | (go_at_call 15; (with_reducible refine (num_Text.calls kj1 (((rd l0 x3_1) : Int).toNat) t672 _ A33.out).mono ?_); rintro e w40 ⟨rfl, hb⟩; replace HB := lb HB hb; (try clear hb); (try clear hb2); (try clear hk); (try clear hi)))
          go_ret
          exact ex (lk HB)
         rw [if_neg c29] at H
         have c29b0 : (FloatKind.f64.format.order (((rd l0 x3_1) : Int).toNat) (((rd l0 x3_1) : Int).toNat) != some Ordering.eq) = false := by simpa using c29
         (try (have c29b1 : decide (FloatKind.f64.format.order (((rd l0 x3_1) : Int).toNat) (((rd l0 x3_1) : Int).toNat) = some Ordering.eq) = true := by simpa using c29))
         (try (have c29b2 : (FloatKind.f64.format.order (((rd l0 x3_1) : Int).toNat) (((rd l0 x3_1) : Int).toNat) == some Ordering.eq) = true := by simpa using c29))
         clear c29
         have H' := Aside0.mk H
         clear H
         have p666 : 0 ≤ (x3_1 : Int) := of_decide_eq_true (by first | (with_reducible assumption) | assumption)
         have q666 : x3_1 < (l0.length : Int) := of_decide_eq_true (by first | (with_reducible assumption) | assumption)
         obtain ⟨ad666, e666, hx666_0⟩ := Kd.at_int HR0.out x3_1 p666 q666
         cases e666
         replace hx666_0 := (HB.out.cell (World.block_lt_of_cell? w _ hx666_0)).trans hx666_0
         replace p666 := eq_true p666
         replace q666 := eq_true q666
         go_wp2_with (first | ((with_reducible refine gate_callee (f := 15) rfl ?_); refine gL (some 24) Tryd.func15 #[.float .f64 (((rd l0 x3_1) : Int).toNat)] ?_; (with_reducible refine (num_Text.calls kj1 (((rd l0 x3_1) : Int).toNat) t667 _ A7.out).mono ?_); rintro e w41 ⟨rfl, hb⟩; refine ⟨_, rfl, ?_⟩; replace HB := lb HB hb; (try clear hb); (try clear hb2); (try clear hk); (try clear hi)) | ((with_reducible refine gate_callee (f := 18) rfl ?_); refine gL (some 25) Tryd.func18 #[.string t667] ?_; (with_reducible refine (num_Parse.calls kj1 t667 t668 t669 _ A8.out).mono ?_); rintro e w42 ⟨rfl, hb⟩; refine ⟨_, rfl, ?_⟩; replace HB := lb HB hb; (try clear hb); (try clear hb2); (try clear hk); (try clear hi)))
         go_roundg kj1
         case measure => have := HK1.out; have := HJ1.out; omega
         case rel => exact ⟨(wrap64 (x3_1 + 1)), (by first | rfl | (simp; done) | (simp [*]; done)), H', ⟨by have := HK1.out; have := HJ1.out; omega⟩, ⟨lk HB⟩⟩
        rw [if_neg c9] at H
        have c9b0 : (t669 == 0) = false := beq_eq_false_iff_ne.mpr c9
        have c9b1 : (t669 != 0) = true := bne_iff_ne.mpr c9
        obtain rfl := Option.some.inj H
        have p666 : 0 ≤ (x3_1 : Int) := of_decide_eq_true (by first | (with_reducible assumption) | assumption)
        have q666 : x3_1 < (l0.length : Int) := of_decide_eq_true (by first | (with_reducible assumption) | assumption)
        obtain ⟨ad666, e666, hx666_0⟩ := Kd.at_int HR0.out x3_1 p666 q666
        cases e666
        replace hx666_0 := (HB.out.cell (World.block_lt_of_cell? w _ hx666_0)).trans hx666_0
        replace p666 := eq_true p666
        replace q666 := eq_true q666
        go_wp2_with (first | ((with_reducible refine gate_callee (f := 15) rfl ?_); refine gL (some 24) Tryd.func15 #[.float .f64 (((rd l0 x3_1) : Int).toNat)] ?_; (with_reducible refine (num_Text.calls kj1 (((rd l0 x3_1) : Int).toNat) t667 _ A7.out).mono ?_); rintro e w43 ⟨rfl, hb⟩; refine ⟨_, rfl, ?_⟩; replace HB := lb HB hb; (try clear hb); (try clear hb2); (try clear hk); (try clear hi)) | ((with_reducible refine gate_callee (f := 18) rfl ?_); refine gL (some 25) Tryd.func18 #[.string t667] ?_; (with_reducible refine (num_Parse.calls kj1 t667 t668 t669 _ A8.out).mono ?_); rintro e w44 ⟨rfl, hb⟩; refine ⟨_, rfl, ?_⟩; replace HB := lb HB hb; (try clear hb); (try clear hb2); (try clear hk); (try clear hi)))
        go_ret
        exact ex (lk HB)
       rw [if_neg c6] at H
       exact absurd H (by simp)
      rw [if_neg c5] at H
      exact absurd H (by simp)
     replace c4 := Bool.eq_false_iff.mpr c4
     subst c4
     rw [if_neg (show ¬ (false = true) by decide)] at H
     replace H := Option.bind_eq_some_iff.mp H
     obtain ⟨t665, A450, H⟩ := H
     replace H : (some t665) = some r := H
     have A45 := Aside0.mk A450
     clear A450
     obtain rfl := Option.some.inj H
     go_wp2_with (first | ((with_reducible refine gate_callee (f := 17) rfl ?_); refine gL (some 56) Tryd.func17 #[] ?_; (with_reducible refine (w_wakes.calls kj1  t665 _ A45.out).mono ?_); rintro e w46 ⟨rfl, hb⟩; refine ⟨_, rfl, ?_⟩; replace HB := lb HB hb; (try clear hb); (try clear hb2); (try clear hk); (try clear hi)))
     go_ret
     exact ex (lk HB)
def w_NumBack.Pure : Prop := ∀ (l0 : List Int), l0.length ≤ maxLen → l0.length * 8 ≤ 140737488351232 → (∀ x ∈ l0, (Lit.int .u64 x).wf = true) → ∃ k, w_NumBack.f k l0 = some true
theorem w_NumBack.walk (P : w_NumBack.Pure) (a0 : Option Addr) (len0 cap0 : Nat) (z0 : List Int) (w : World) (w0 : (a0 = none ∧ len0 = 0 ∧ cap0 = 0 ∧ z0 = []) ∨ ∃ x, a0 = some x ∧ len0 ≤ cap0 ∧ cap0 ≤ maxLen ∧ z0.length = cap0 ∧ (∀ i, i < z0.length → w.cell? (x.add i) = some (.int .u64 (z0.getD i 0))) ∧ ∀ n ∈ z0, (Lit.int .u64 n).wf = true) (y0 : len0 * 8 ≤ 140737488351232) :
  Calls Tryd.prog 5 #[.slice a0 len0 cap0] w fun e w' => e = .returned (.bool true) ∧ Below w.heap.size w w' := by
 obtain ⟨l0, rfl, hr0, hm0, hw0, hc0⟩ := ReadsInt.ofRowC w0
 obtain ⟨k, h⟩ := P l0 hm0 y0 hw0
 refine (w_NumBack.calls k _ _ l0 true w (Kd.C_of_reads (d := (0 : Int)) (h1 := fun _ => rfl) hr0) hc0 h).mono ?_
 rintro e w' ⟨rfl, hd⟩
 exact ⟨rfl, hd⟩
end Go.Proofs.YtjlnfnfdibfniaaDoor.F
namespace Go.Proofs.YtjlnfnfdibfniaaDoor.Pl
open F Hd Go.RowKit Go.Proofs.YtjlnfnfdibfniaaDoorW.PrintWords Go.Proofs.YtjlnfnfdibfniaaDoorW.PrintMore
theorem w64 {n : Int} (h0 : -9223372036854775808 ≤ n) (h1 : n ≤ 9223372036854775807) : wrap64 n = n := by unfold wrap64; omega
theorem u64w {n : Int} (h0 : 0 ≤ n) (h1 : n < 18446744073709551616) : IntKind.u64.wrap n = n := by rw [IntKind.wrap_u64]; omega
theorem rd_get (l : List Int) (i : Nat) (h : i < l.length) : rd l (i : Int) = l[i] := by
 unfold rd
 rw [Int.toNat_natCast, List.getD_eq_getElem?_getD, List.getElem?_eq_getElem h]; rfl
def L (n : Nat) : List Int := lim 4294967296 n
theorem L_zero : L 0 = [] := lim_zero _
theorem L_nv (n : Nat) : nv 4294967296 (L n) = n := nv_lim (by decide) n
theorem L_wf (n : Nat) : Wf 4294967296 (L n) := wf_lim (by decide) n
def Few (n : Nat) : Prop := (L n).length ≤ 1000000
theorem few_of {n s : Nat} (h : n < 4294967296 ^ s) (hs : s ≤ 1000000) : Few n := Nat.le_trans (lim_len (by decide) s n h) hs
theorem trim_runs (l : List Int) (hw : Wf 4294967296 l) (hl : l.length ≤ 10000000) : Runs (fun k => num_nat_trim.l0 k l) (L (nv 4294967296 l)) := by
 generalize hn : l.length = n at hl
 induction n generalizing l with
 | zero =>
  have : l = [] := List.length_eq_zero_iff.1 hn
  subst this
  refine Runs.suc ?_
  simp only [num_nat_trim.l0]
  refine Runs.no (by simp) ?_
  exact (Runs.pure _).of (by rw [nv, L_zero])
 | succ n ih =>
  obtain ⟨m, x, rfl⟩ : ∃ m x, l = m ++ [x] := by
   rcases snoc_cases l with h | h
   ·
    rw [h] at hn; simp at hn
   ·
    exact h
  have hlen : m.length = n := by simpa using hn
  have hll : (m ++ [x]).length = m.length + 1 := by simp
  have hwr : wrap64 (((m ++ [x]).length : Int) - 1) = (m.length : Int) := by rw [hll, w64 (by omega) (by omega)]; omega
  have hrd : rd (m ++ [x]) (m.length : Int) = x := by
   rw [rd_get _ _ (by rw [hll]; omega)]; simp
  refine Runs.suc ?_
  simp only [num_nat_trim.l0]
  rw [hwr, hrd]
  refine Runs.yes (by rw [hll]; omega) (Runs.yes (by omega) (Runs.yes (by rw [hll]; omega) ?_))
  have hx := hw x (by simp)
  by_cases h0 : x = 0
  ·
   refine Runs.yes h0 (Runs.yes (by rw [hll]; omega) ?_)
   rw [h0, nv_snoc_zero, Int.toNat_natCast, List.take_left']
   ·
    exact ih m hw.left hlen (by omega)
   ·
    rfl
  ·
   refine Runs.no h0 ?_
   refine (Runs.pure _).of ?_
   exact (lim_snoc (by decide) hw.left (by omega) hx.2).symm
theorem trim_f (l : List Int) (hw : Wf 4294967296 l) (hl : l.length ≤ 10000000) : Runs (fun k => num_nat_trim.f k l) (L (nv 4294967296 l)) := trim_runs l hw hl
theorem of_f (n : Nat) (h : n < 18446744073709551616) : Runs (fun k => num_of.f k (n : Int)) (L n) := by
 simp only [num_of.f]
 refine Runs.bind (trim_f _ ?_ (by simp)) ?_
 ·
  intro x hx
  simp only [List.mem_cons, List.not_mem_nil, or_false] at hx
  omega
 ·
  refine (Runs.pure _).of ?_
  congr 1
  simp only [nv]
  omega
theorem times_loop (l : List Int) (hw : Wf 4294967296 l) (hlen : l.length ≤ 1000000) (m : Nat) (hm : m < 4294967296) :
  ∀ (d i : Nat), i + d = l.length → ∀ (out : List Int) (c : Nat), out.length = l.length + 1 → Wf 4294967296 (out.take i) → c < 4294967296 →
  Runs (fun k => num_nat_times.l0 k l (m : Int) out (c : Int) l (l.length : Int) (i : Int)) (L (nv 4294967296 (out.take i) + 4294967296 ^ i * (c + m * nv 4294967296 (l.drop i)))) := by
 intro d
 induction d with
 | zero =>
  intro i hi out c ho hwo hc
  obtain rfl : i = l.length := by omega
  refine Runs.suc ?_
  simp only [num_nat_times.l0]
  refine Runs.no (by omega) (Runs.yes (by omega) (Runs.yes (by omega) ?_))
  rw [show ((c : Int) % 4294967296) = (c : Int) by omega, Int.toNat_natCast]
  have hset : out.set l.length (c : Int) = out.take l.length ++ [(c : Int)] := by
   have := take_set_succ out l.length (c : Int) (by omega)
   rw [← this, List.take_of_length_le (by rw [List.length_set]; omega)]
  rw [hset]
  refine Runs.bind (trim_f _ (hwo.append (Wf.one (by omega) (by omega))) (by simp; omega)) ((Runs.pure _).of ?_)
  rw [nv_append, nv_one, List.length_take, Nat.min_eq_left (by omega), List.drop_of_length_le (Nat.le_refl _)]
  simp [nv]
 | succ d ih =>
  intro i hi out c ho hwo hc
  have hil : i < l.length := by omega
  have hx := hw.get hil
  obtain ⟨y, hy⟩ := Int.eq_ofNat_of_zero_le hx.1
  have hy1 : y < 4294967296 := by omega
  have hym : y * m ≤ 4294967295 * 4294967295 := Nat.mul_le_mul (by omega) (by omega)
  refine Runs.suc ?_
  simp only [num_nat_times.l0]
  rw [rd_get l i hil, hy, u64w (n := (y : Int)) (by omega) (by omega), u64w (n := (m : Int)) (by omega) (by omega)]
  have e1 : (y : Int) * (m : Int) = ((y * m : Nat) : Int) := by simp
  rw [e1, u64w (n := ((y * m : Nat) : Int)) (by omega) (by omega), u64w (n := (c : Int) + ((y * m : Nat) : Int)) (by omega) (by omega)]
  have e2 : ((c : Int) + ((y * m : Nat) : Int)) % 4294967296 = (((c + y * m) % 4294967296 : Nat) : Int) := by omega
  have e3 : ((c : Int) + ((y * m : Nat) : Int)) / 4294967296 = (((c + y * m) / 4294967296 : Nat) : Int) := by omega
  rw [e2, e3, w64 (by omega) (by omega), Int.toNat_natCast]
  refine Runs.yes (by omega) (Runs.yes (by omega) (Runs.yes (by omega) (Runs.yes (by omega) ?_)))
  have hq : (c + y * m) % 4294967296 + 4294967296 * ((c + y * m) / 4294967296) = c + y * m := Nat.mod_add_div ..
  have hr : (c + y * m) % 4294967296 < 4294967296 := Nat.mod_lt _ (by decide)
  have hq2 : (c + y * m) / 4294967296 < 4294967296 := by omega
  generalize (c + y * m) % 4294967296 = r at *
  generalize (c + y * m) / 4294967296 = q at *
  have ht := take_set_succ out i (r : Int) (by omega)
  have := ih (i + 1) (by omega) (out.set i (r : Int)) q (by rw [List.length_set]; exact ho) (by rw [ht]; exact hwo.append (Wf.one (by omega) (by omega))) hq2
  refine Runs.of this ?_
  congr 1
  rw [ht, nv_append, nv_one, List.length_take, Nat.min_eq_left (by omega), nv_drop _ l i hil, hy, Int.toNat_natCast]
  simp only [Int.toNat_natCast]
  generalize nv 4294967296 (List.take i out) = N
  generalize nv 4294967296 (l.drop (i + 1)) = D
  rw [Nat.pow_succ]
  generalize 4294967296 ^ i = p
  grind
theorem times_f (a m p : Nat) (ha : Few a) (hm : m < 4294967296) (hp : p < 4294967296) : Runs (fun k => num_nat_times.f k (L a) (m : Int) (p : Int)) (L (a * m + p)) := by
 have ha' := ha
 unfold Few at ha'
 simp only [num_nat_times.f]
 rw [w64 (by omega) (by omega), u64w (n := (p : Int)) (by omega) (by omega)]
 have e : ((L a).length + 1 : Int).toNat = (L a).length + 1 := by omega
 rw [e]
 refine Runs.yes (by omega) (Runs.yes (by omega) ?_)
 refine Runs.of (times_loop (L a) (L_wf a) ha' m hm (L a).length 0 (by omega) _ p (by simp) (by rw [List.take_zero]; exact Wf.nil _) hp) ?_
 congr 1
 rw [List.take_zero, List.drop_zero, L_nv, nv]
 grind
theorem few_mono {a b : Nat} (h : a ≤ b) (hb : Few b) : Few a := by
 refine few_of (s := (L b).length) (Nat.lt_of_le_of_lt h ?_) hb
 exact lim_le (by decide) b
theorem tens_l1 (n : Nat) : ∀ (a : Nat), Few (a * 10 ^ n) → n ≤ 1000000 → Runs (fun k => num_nat_tens.l1 k (L a) (n : Int)) (L (a * 10 ^ n)) := by
 induction n with
 | zero =>
  intro a ha _
  refine Runs.suc ?_
  simp only [num_nat_tens.l1]
  exact Runs.no (by omega) ((Runs.pure _).of (by simp))
 | succ n ih =>
  intro a ha hn
  refine Runs.suc ?_
  simp only [num_nat_tens.l1]
  have hp : 0 < 10 ^ (n + 1) := Nat.pow_pos (by decide)
  refine Runs.yes (by omega) (Runs.bind (times_f a 10 0 (few_mono (Nat.le_mul_of_pos_right a hp) ha) (by decide) (by decide)) ?_)
  rw [w64 (by omega) (by omega), show ((n + 1 : Nat) : Int) - 1 = (n : Int) by omega]
  have e : a * 10 ^ (n + 1) = (a * 10 + 0) * 10 ^ n := by rw [Nat.pow_succ]; grind
  rw [e]
  exact ih (a * 10 + 0) (by rw [← e]; exact ha) (by omega)
theorem tens_l0 (q : Nat) : ∀ (a n : Nat), n / 9 = q → Few (a * 10 ^ n) → n ≤ 1000000 → Runs (fun k => num_nat_tens.l0 k (L a) (n : Int)) (L (a * 10 ^ n)) := by
 induction q with
 | zero =>
  intro a n hq ha hn
  refine Runs.suc ?_
  simp only [num_nat_tens.l0]
  exact Runs.no (by omega) (tens_l1 n a ha hn)
 | succ q ih =>
  intro a n hq ha hn
  refine Runs.suc ?_
  simp only [num_nat_tens.l0]
  obtain ⟨m, rfl⟩ : ∃ m, n = m + 9 := ⟨n - 9, by omega⟩
  have hp : 0 < 10 ^ (m + 9) := Nat.pow_pos (by decide)
  refine Runs.yes (by omega) (Runs.bind (times_f a 1000000000 0 (few_mono (Nat.le_mul_of_pos_right a hp) ha) (by decide) (by decide)) ?_)
  rw [w64 (by omega) (by omega), show ((m + 9 : Nat) : Int) - 9 = (m : Int) by omega]
  have e : a * 10 ^ (m + 9) = (a * 1000000000 + 0) * 10 ^ m := by rw [Nat.pow_add]; grind
  rw [e]
  exact ih _ m (by omega) (by rw [← e]; exact ha) (by omega)
theorem tens_f (a n : Nat) (h : Few (a * 10 ^ n)) (hn : n ≤ 1000000) : Runs (fun k => num_nat_tens.f k (L a) (n : Int)) (L (a * 10 ^ n)) := tens_l0 _ a n rfl h hn
end Go.Proofs.YtjlnfnfdibfniaaDoor.Pl
namespace Go.Proofs.YtjlnfnfdibfniaaDoor.Pl
open F Hd Go.RowKit Go.Proofs.YtjlnfnfdibfniaaDoorW.PrintWords Go.Proofs.YtjlnfnfdibfniaaDoorW.PrintMore
theorem bitLen_spec : ∀ (f x : Nat), x < 2 ^ f → x < 2 ^ Lib.bitLenAux f x ∧ (0 < x → 0 < Lib.bitLenAux f x ∧ 2 ^ (Lib.bitLenAux f x - 1) ≤ x) := by
 intro f
 induction f with
 | zero =>
  intro x h
  have : x = 0 := by simpa using h
  subst this; simp [Lib.bitLenAux]
 | succ f ih =>
  intro x h
  rw [Lib.bitLenAux]
  by_cases h0 : x = 0
  ·
   subst h0; simp
  ·
   rw [if_neg h0]
   have h2 : x / 2 < 2 ^ f := by rw [Nat.pow_succ] at h; omega
   obtain ⟨g1, g2⟩ := ih (x / 2) h2
   have hz : x / 2 = 0 → Lib.bitLenAux f (x / 2) = 0 := by
    intro h3
    rw [h3]
    cases f with
    | zero => rfl
    | succ f => rw [Lib.bitLenAux, if_pos rfl]
   generalize Lib.bitLenAux f (x / 2) = s at *
   refine ⟨?_, fun _ => ⟨by omega, ?_⟩⟩
   ·
    rw [Nat.add_comm 1 s, Nat.pow_succ]; omega
   ·
    rw [show 1 + s - 1 = s by omega]
    rcases Nat.eq_zero_or_pos (x / 2) with h3 | h3
    ·
     rw [hz h3]; simp; omega
    ·
     obtain ⟨g3, g4⟩ := g2 h3
     obtain ⟨t, rfl⟩ : ∃ t, s = t + 1 := ⟨s - 1, by omega⟩
     rw [Nat.add_sub_cancel] at g4
     rw [Nat.pow_succ]; omega
theorem size_f (n : Nat) (h : Few n) : ∃ s : Nat, (∀ r, num_nat_size.f (L n) = some r ↔ r = (s : Int)) ∧ n < 2 ^ s ∧ (0 < n → 0 < s ∧ 2 ^ (s - 1) ≤ n) ∧ s ≤ 32000000 := by
 unfold Few at h
 rcases Nat.eq_zero_or_pos n with h0 | h0
 ·
  refine ⟨0, ?_, by rw [h0]; simp, fun h => by omega, by omega⟩
  intro r
  rw [h0, L_zero]
  unfold num_nat_size.f
  rw [if_pos (by simp)]
  constructor
  ·
   intro e; injection e with e; rw [← e]; rfl
  ·
   intro e; rw [e]; rfl
 ·
  obtain ⟨l, x, e, hx0, hx1⟩ := lim_last (B := 4294967296) (by decide) n h0
  have e' : L n = l ++ [x] := e
  rw [e'] at h
  have hll : (l ++ [x]).length = l.length + 1 := by simp
  obtain ⟨y, rfl⟩ := Int.eq_ofNat_of_zero_le (Int.le_of_lt hx0)
  have hv : n = nv 4294967296 l + 4294967296 ^ l.length * y := by
   have := L_nv n
   rw [e', nv_append, nv_one, Int.toNat_natCast] at this
   exact this.symm
  have hl : nv 4294967296 l < 4294967296 ^ l.length := nv_lt (by decide) (by have := L_wf n; rw [e'] at this; exact this.left)
  have hp : 4294967296 ^ l.length = 2 ^ (32 * l.length) := by rw [Nat.pow_mul]
  rw [hp] at hv hl
  have hy0 : 0 < y := by omega
  have hy : y < 4294967296 := by omega
  obtain ⟨g1, g2⟩ := bitLen_spec 64 y (by omega)
  obtain ⟨g2, g3⟩ := g2 hy0
  have g4 : Lib.bitLenAux 64 y ≤ 32 := by
   rcases Nat.lt_or_ge 32 (Lib.bitLenAux 64 y) with h5 | h5
   ·
    have := Nat.pow_le_pow_right (n := 2) (by decide) (show 32 ≤ Lib.bitLenAux 64 y - 1 by omega)
    have e32 : 2 ^ 32 = 4294967296 := by decide
    omega
   ·
    exact h5
  refine ⟨32 * l.length + Lib.bitLenAux 64 y, ?_, ?_, fun _ => ⟨by omega, ?_⟩, by omega⟩
  ·
   intro r
   rw [e']
   unfold num_nat_size.f
   rw [w64 (n := ((l ++ [(y : Int)]).length : Int) - 1) (by omega) (by omega), show ((l ++ [(y : Int)]).length : Int) - 1 = (l.length : Int) by omega]
   rw [if_neg (by omega), if_pos (by omega), if_pos (by omega), rd_get _ _ (by omega)]
   rw [List.getElem_append_right (Nat.le_refl _)]
   simp only [Nat.sub_self, List.getElem_cons_zero]
   unfold bits_Len32.f
   rw [if_pos (by omega), Option.bind_some, Int.toNat_natCast, w64 (n := 32 * (l.length : Int)) (by omega) (by omega)]
   show some (wrap64 (32 * (l.length : Int) + (Lib.bitLenAux 64 y : Int))) = some r ↔ _
   rw [w64 (by omega) (by omega)]
   constructor
   ·
    intro e; injection e with e; omega
   ·
    intro e; rw [e]; congr 1
  ·
   rw [Nat.pow_add, hv]
   generalize 2 ^ (32 * l.length) = p at *
   have : p * (y + 1) ≤ p * 2 ^ Lib.bitLenAux 64 y := Nat.mul_le_mul_left p g1
   rw [Nat.mul_add] at this
   omega
  ·
   rw [show 32 * l.length + Lib.bitLenAux 64 y - 1 = 32 * l.length + (Lib.bitLenAux 64 y - 1) by omega, Nat.pow_add, hv]
   generalize 2 ^ (32 * l.length) = p at *
   have : p * 2 ^ (Lib.bitLenAux 64 y - 1) ≤ p * y := Nat.mul_le_mul_left p g3
   omega
theorem wraps_u32 (n : Int) (h0 : 0 ≤ n) (h1 : n < 2 ^ 32) : IntKind.u32.wrap n = n := by rw [IntKind.wrap_u32]; omega
theorem join32 (s w c : Nat) (hs : s < 32) (hc : c < 2 ^ s) : Go.bits .or .u32 (((w * 2 ^ s : Nat) : Int) % 4294967296) (c : Int) = ((w * 2 ^ s % 4294967296 + c : Nat) : Int) := by
 have h2 : (2 : Int) ^ 32 = 4294967296 := by decide
 have h3 : 2 ^ 32 = 2 ^ (32 - s) * 2 ^ s := by rw [← Nat.pow_add]; congr 1; omega
 have hle : 2 ^ s ≤ 2 ^ 31 := Nat.pow_le_pow_right (by decide) (by omega)
 have hm : w * 2 ^ s % 4294967296 = (w % 2 ^ (32 - s)) * 2 ^ s := by
  rw [show (4294967296 : Nat) = 2 ^ (32 - s) * 2 ^ s by rw [← h3], Nat.mul_mod_mul_right]
 have e : ((w * 2 ^ s : Nat) : Int) % 4294967296 = (((w % 2 ^ (32 - s)) * 2 ^ s : Nat) : Int) := by rw [← hm]; omega
 have hlt : (w % 2 ^ (32 - s)) * 2 ^ s < 4294967296 := by rw [← hm]; exact Nat.mod_lt _ (by decide)
 have hdv : (((w % 2 ^ (32 - s)) * 2 ^ s : Nat) : Int) % 2 ^ s = 0 := by
  have : ((2 : Int) ^ s) = ((2 ^ s : Nat) : Int) := by simp
  rw [this, ← Int.natCast_emod, Nat.mul_mod_left]; rfl
 have hcc : (c : Int) < 2 ^ s := by exact_mod_cast hc
 rw [e, bits_join .u32 32 (by decide) wraps_u32 s _ _ (by omega) hdv (by rw [h2]; omega) (by omega) hcc (by rw [h2]; omega), hm]
 omega
theorem up_loop (l : List Int) (hw : Wf 4294967296 l) (hlen : l.length ≤ 1000000) (n : Nat) :
  ∀ (d i : Nat), i + d = l.length → ∀ (out : List Int) (c : Nat), out.length ≤ 8000000 + i → Wf 4294967296 out → c < 2 ^ (n % 32) →
  Runs (fun k => num_nat_up.l0 k (n : Int) out (c : Int) l (l.length : Int) (i : Int)) (L (nv 4294967296 out + 4294967296 ^ out.length * (c + 2 ^ (n % 32) * nv 4294967296 (l.drop i)))) := by
 have hs : n % 32 < 32 := Nat.mod_lt _ (by decide)
 have hpl : 2 ^ (n % 32) ≤ 2 ^ 31 := Nat.pow_le_pow_right (by decide) (by omega)
 have ht : Int.tmod (n : Int) 32 = ((n % 32 : Nat) : Int) := by rw [Int.tmod_eq_emod_of_nonneg (by omega)]; omega
 generalize n % 32 = s at *
 intro d
 induction d with
 | zero =>
  intro i hi out c ho hwo hc
  obtain rfl : i = l.length := by omega
  refine Runs.suc ?_
  simp only [num_nat_up.l0]
  refine Runs.no (by omega) (Runs.yes (by omega) ?_)
  refine Runs.bind (trim_f _ (hwo.append (Wf.one (by omega) (by omega))) (by simp; omega)) ((Runs.pure _).of ?_)
  rw [nv_append, nv_one, List.drop_of_length_le (Nat.le_refl _)]
  simp [nv]
 | succ d ih =>
  intro i hi out c ho hwo hc
  have hil : i < l.length := by omega
  have hx := hw.get hil
  obtain ⟨y, hy⟩ := Int.eq_ofNat_of_zero_le hx.1
  have hy1 : y < 4294967296 := by omega
  have hyp : y * 2 ^ s < 4294967296 * 2 ^ s := Nat.mul_lt_mul_of_pos_right hy1 (Nat.two_pow_pos _)
  refine Runs.suc ?_
  simp only [num_nat_up.l0]
  have hsh : shl .u64 (y : Int) (s : Int) = ((y * 2 ^ s : Nat) : Int) := by
   unfold shl
   have e : min (s : Int).toNat IntKind.u64.bits = s := by rw [Int.toNat_natCast]; show min s 64 = s; omega
   rw [e]
   have e2 : (y : Int) * 2 ^ s = ((y * 2 ^ s : Nat) : Int) := by simp
   rw [e2]
   exact u64w (by omega) (by omega)
  rw [rd_get l i hil, hy, u64w (n := (y : Int)) (by omega) (by omega), ht, hsh, join32 s y c hs hc]
  have hq : y * 2 ^ s % 4294967296 + 4294967296 * (y * 2 ^ s / 4294967296) = y * 2 ^ s := Nat.mod_add_div ..
  have h3 : 4294967296 = 2 ^ (32 - s) * 2 ^ s := by rw [← Nat.pow_add, show 32 - s + s = 32 by omega]
  have hr : y * 2 ^ s % 4294967296 + c < 4294967296 := by
   have h4 : y * 2 ^ s % (2 ^ (32 - s) * 2 ^ s) = (y % 2 ^ (32 - s)) * 2 ^ s := Nat.mul_mod_mul_right ..
   rw [← h3] at h4
   have h5 : (y % 2 ^ (32 - s) + 1) * 2 ^ s ≤ 2 ^ (32 - s) * 2 ^ s := Nat.mul_le_mul_right _ (Nat.mod_lt _ (Nat.two_pow_pos _))
   rw [← h3, Nat.add_mul, Nat.one_mul] at h5
   omega
  have hq2 : y * 2 ^ s / 4294967296 < 2 ^ s := Nat.div_lt_of_lt_mul hyp
  have e3 : ((y * 2 ^ s : Nat) : Int) / 4294967296 % 4294967296 = ((y * 2 ^ s / 4294967296 : Nat) : Int) := by omega
  rw [e3, w64 (by omega) (by omega)]
  refine Runs.yes (by omega) (Runs.yes (by omega) (Runs.yes (by omega) (Runs.yes (by omega) (Runs.yes (by omega) ?_))))
  have := ih (i + 1) (by omega) (out ++ [((y * 2 ^ s % 4294967296 + c : Nat) : Int)]) (y * 2 ^ s / 4294967296) (by simp; omega) (hwo.append (Wf.one (by omega) (by omega))) hq2
  refine Runs.of this ?_
  congr 1
  rw [nv_append, nv_one, List.length_append, List.length_singleton, nv_drop _ l i hil, hy, Int.toNat_natCast]
  simp only [Int.toNat_natCast]
  generalize y * 2 ^ s / 4294967296 = q at *
  generalize y * 2 ^ s % 4294967296 = r at *
  generalize nv 4294967296 out = N
  generalize nv 4294967296 (l.drop (i + 1)) = D
  rw [Nat.pow_succ]
  generalize 4294967296 ^ out.length = p
  generalize 2 ^ s = t at *
  grind
theorem up_f (a n : Nat) (ha : Few a) (hn : n ≤ 100000000) : Runs (fun k => num_nat_up.f k (L a) (n : Int)) (L (a * 2 ^ n)) := by
 have ha' := ha
 unfold Few at ha'
 simp only [num_nat_up.f]
 have e1 : Int.tdiv (n : Int) 32 = ((n / 32 : Nat) : Int) := by rw [Int.tdiv_eq_ediv_of_nonneg (by omega)]; omega
 rw [e1, w64 (n := ((n / 32 : Nat) : Int)) (by omega) (by omega), w64 (n := ((n / 32 : Nat) : Int) + _) (by omega) (by omega), w64 (by omega) (by omega)]
 refine Runs.yes (by omega) (Runs.yes (by omega) (Runs.yes (by omega) ?_))
 rw [Int.toNat_natCast]
 refine Runs.of (up_loop (L a) (L_wf a) ha' n (L a).length 0 (by omega) _ 0 (by simp; omega) (Wf.zeros (by decide) _) (Nat.two_pow_pos _)) ?_
 congr 1
 rw [nv_zeros, List.length_replicate, List.drop_zero, L_nv]
 have : 2 ^ n = 4294967296 ^ (n / 32) * 2 ^ (n % 32) := by
  rw [show (4294967296 : Nat) = 2 ^ 32 by decide, ← Nat.pow_mul, ← Nat.pow_add]
  congr 1; omega
 rw [this]
 grind
def cmpN (a b : Nat) : Int := if a < b then -1 else if b < a then 1 else 0
theorem against_loop (a b : List Int) (ha : Wf 4294967296 a) (hb : Wf 4294967296 b) (hlen : a.length = b.length) (hl : a.length ≤ 1000000) :
  ∀ j, j ≤ a.length → Runs (fun k => num_nat_against.l0 k a b ((j : Int) - 1)) (cmpN (nv 4294967296 (a.take j)) (nv 4294967296 (b.take j))) := by
 intro j
 induction j with
 | zero =>
  intro _
  refine Runs.suc ?_
  simp only [num_nat_against.l0]
  exact Runs.no (by omega) ((Runs.pure _).of (by simp [nv, cmpN]))
 | succ j ih =>
  intro hj
  have h1 : j < a.length := by omega
  have h2 : j < b.length := by omega
  refine Runs.suc ?_
  simp only [num_nat_against.l0]
  rw [show ((j + 1 : Nat) : Int) - 1 = (j : Int) by omega, rd_get a j h1, rd_get b j h2, w64 (by omega) (by omega)]
  refine Runs.yes (by omega) (Runs.yes (by omega) (Runs.yes (by omega) (Runs.yes (by omega) ?_)))
  obtain ⟨x, hx⟩ := Int.eq_ofNat_of_zero_le (ha.get h1).1
  obtain ⟨y, hy⟩ := Int.eq_ofNat_of_zero_le (hb.get h2).1
  have g1 := nv_lt (B := 4294967296) (by decide) (l := a.take j) (fun z hz => ha z (List.mem_of_mem_take hz))
  have g2 := nv_lt (B := 4294967296) (by decide) (l := b.take j) (fun z hz => hb z (List.mem_of_mem_take hz))
  rw [List.length_take, Nat.min_eq_left (by omega)] at g1 g2
  rw [nv_take_succ _ a j h1, nv_take_succ _ b j h2, hx, hy, Int.toNat_natCast, Int.toNat_natCast]
  have ih := ih (by omega)
  generalize nv 4294967296 (a.take j) = N at *
  generalize nv 4294967296 (b.take j) = M at *
  generalize 4294967296 ^ j = p at *
  by_cases c1 : x < y
  ·
   refine Runs.yes (by omega) ((Runs.pure _).of ?_)
   have : p * (x + 1) ≤ p * y := Nat.mul_le_mul_left p c1
   rw [Nat.mul_add] at this
   unfold cmpN
   rw [if_pos (by omega)]
  ·
   refine Runs.no (by omega) ?_
   by_cases c2 : y < x
   ·
    refine Runs.yes (by omega) ((Runs.pure _).of ?_)
    have : p * (y + 1) ≤ p * x := Nat.mul_le_mul_left p c2
    rw [Nat.mul_add] at this
    unfold cmpN
    rw [if_neg (by omega), if_pos (by omega)]
   ·
    refine Runs.no (by omega) ?_
    have : x = y := by omega
    subst this
    refine ih.of ?_
    unfold cmpN
    generalize p * x = z
    by_cases c3 : N < M
    ·
     rw [if_pos c3, if_pos (by omega)]
    ·
     rw [if_neg c3, if_neg (show ¬ N + z < M + z by omega)]
     by_cases c4 : M < N
     ·
      rw [if_pos c4, if_pos (by omega)]
     ·
      rw [if_neg c4, if_neg (by omega)]
theorem lim_lt {B : Nat} (hB : 2 ≤ B) {a b : Nat} (h : (lim B a).length < (lim B b).length) : a < b := by
 rcases Nat.lt_or_ge a b with h1 | h1
 ·
  exact h1
 ·
  have := lim_len hB (lim B a).length b (Nat.lt_of_le_of_lt h1 (lim_le hB a))
  omega
theorem against_f (a b : Nat) (ha : Few a) : Runs (fun k => num_nat_against.f k (L a) (L b)) (cmpN a b) := by
 unfold Few at ha
 simp only [num_nat_against.f]
 by_cases h1 : (L a).length < (L b).length
 ·
  refine Runs.yes (by omega) ((Runs.pure _).of ?_)
  have := lim_lt (by decide) h1
  unfold cmpN; rw [if_pos this]
 ·
  refine Runs.no (by omega) ?_
  by_cases h2 : (L b).length < (L a).length
  ·
   refine Runs.yes (by omega) ((Runs.pure _).of ?_)
   have := lim_lt (by decide) h2
   unfold cmpN; rw [if_neg (by omega), if_pos this]
  ·
   refine Runs.no (by omega) ?_
   have he : (L a).length = (L b).length := by omega
   have := against_loop (L a) (L b) (L_wf a) (L_wf b) he ha (L a).length (Nat.le_refl _)
   rw [w64 (by omega) (by omega)]
   refine this.of ?_
   have e1 : (L a).take (L a).length = L a := List.take_length
   have e2 : (L b).take (L a).length = L b := by rw [he]; exact List.take_length
   rw [e1, e2, L_nv, L_nv]
theorem plus_l0 (l s : List Int) (hw : Wf 4294967296 l) (hws : Wf 4294967296 s) (hlen : l.length ≤ 1000001) (hsl : s.length ≤ l.length) :
  ∀ (d i : Nat), i + d = l.length → ∀ (out : List Int) (c : Nat), out.length = l.length + 1 → Wf 4294967296 (out.take i) → c < 2 →
  Runs (fun k => num_nat_plus.l0 k l s out (c : Int) l (l.length : Int) (i : Int)) (L (nv 4294967296 (out.take i) + 4294967296 ^ i * (c + nv 4294967296 (l.drop i) + nv 4294967296 (s.drop i)))) := by
 intro d
 induction d with
 | zero =>
  intro i hi out c ho hwo hc
  obtain rfl : i = l.length := by omega
  refine Runs.suc ?_
  simp only [num_nat_plus.l0]
  refine Runs.no (by omega) (Runs.yes (by omega) (Runs.yes (by omega) ?_))
  rw [show ((c : Int) % 4294967296) = (c : Int) by omega, Int.toNat_natCast]
  have hset : out.set l.length (c : Int) = out.take l.length ++ [(c : Int)] := by
   have := take_set_succ out l.length (c : Int) (by omega)
   rw [← this, List.take_of_length_le (by rw [List.length_set]; omega)]
  rw [hset]
  refine Runs.bind (trim_f _ (hwo.append (Wf.one (by omega) (by omega))) (by simp; omega)) ((Runs.pure _).of ?_)
  rw [nv_append, nv_one, List.length_take, Nat.min_eq_left (by omega), List.drop_of_length_le (Nat.le_refl _), List.drop_of_length_le hsl]
  simp [nv]
 | succ d ih =>
  intro i hi out c ho hwo hc
  have hil : i < l.length := by omega
  obtain ⟨y, hy⟩ := Int.eq_ofNat_of_zero_le (hw.get hil).1
  have hy1 : y < 4294967296 := by have := (hw.get hil).2; omega
  refine Runs.suc ?_
  simp only [num_nat_plus.l0]
  rw [rd_get l i hil, hy, u64w (n := (y : Int)) (by omega) (by omega), u64w (n := (c : Int) + (y : Int)) (by omega) (by omega), w64 (by omega) (by omega), Int.toNat_natCast]
  refine Runs.yes (by omega) (Runs.yes (by omega) (Runs.yes (by omega) ?_))
  by_cases his : i < s.length
  ·
   obtain ⟨z, hz⟩ := Int.eq_ofNat_of_zero_le (hws.get his).1
   have hz1 : z < 4294967296 := by have := (hws.get his).2; omega
   rw [rd_get s i his, hz, u64w (n := (z : Int)) (by omega) (by omega), u64w (n := (c : Int) + (y : Int) + (z : Int)) (by omega) (by omega)]
   refine Runs.yes (by omega) (Runs.yes (by omega) ?_)
   have e2 : ((c : Int) + (y : Int) + (z : Int)) % 4294967296 = (((c + y + z) % 4294967296 : Nat) : Int) := by omega
   have e3 : ((c : Int) + (y : Int) + (z : Int)) / 4294967296 = (((c + y + z) / 4294967296 : Nat) : Int) := by omega
   rw [e2, e3]
   have hq : (c + y + z) % 4294967296 + 4294967296 * ((c + y + z) / 4294967296) = c + y + z := Nat.mod_add_div ..
   have hr : (c + y + z) % 4294967296 < 4294967296 := Nat.mod_lt _ (by decide)
   have hq2 : (c + y + z) / 4294967296 < 2 := by omega
   generalize (c + y + z) % 4294967296 = r at *
   generalize (c + y + z) / 4294967296 = q at *
   have ht := take_set_succ out i (r : Int) (by omega)
   have := ih (i + 1) (by omega) (out.set i (r : Int)) q (by rw [List.length_set]; exact ho) (by rw [ht]; exact hwo.append (Wf.one (by omega) (by omega))) hq2
   refine Runs.of this ?_
   congr 1
   rw [ht, nv_append, nv_one, List.length_take, Nat.min_eq_left (by omega), nv_drop _ l i hil, nv_drop _ s i his, hy, hz]
   simp only [Int.toNat_natCast]
   generalize nv 4294967296 (List.take i out) = N
   generalize nv 4294967296 (l.drop (i + 1)) = D
   generalize nv 4294967296 (s.drop (i + 1)) = E
   rw [Nat.pow_succ]
   generalize 4294967296 ^ i = p
   grind
  ·
   refine Runs.no (by omega) (Runs.yes (by omega) ?_)
   have e2 : ((c : Int) + (y : Int)) % 4294967296 = (((c + y) % 4294967296 : Nat) : Int) := by omega
   have e3 : ((c : Int) + (y : Int)) / 4294967296 = (((c + y) / 4294967296 : Nat) : Int) := by omega
   rw [e2, e3]
   have hq : (c + y) % 4294967296 + 4294967296 * ((c + y) / 4294967296) = c + y := Nat.mod_add_div ..
   have hr : (c + y) % 4294967296 < 4294967296 := Nat.mod_lt _ (by decide)
   have hq2 : (c + y) / 4294967296 < 2 := by omega
   generalize (c + y) % 4294967296 = r at *
   generalize (c + y) / 4294967296 = q at *
   have ht := take_set_succ out i (r : Int) (by omega)
   have := ih (i + 1) (by omega) (out.set i (r : Int)) q (by rw [List.length_set]; exact ho) (by rw [ht]; exact hwo.append (Wf.one (by omega) (by omega))) hq2
   refine Runs.of this ?_
   congr 1
   rw [ht, nv_append, nv_one, List.length_take, Nat.min_eq_left (by omega), nv_drop _ l i hil, hy, List.drop_of_length_le (show s.length ≤ i + 1 by omega), List.drop_of_length_le (show s.length ≤ i by omega)]
   simp only [Int.toNat_natCast, nv]
   generalize nv 4294967296 (List.take i out) = N
   generalize nv 4294967296 (l.drop (i + 1)) = D
   rw [Nat.pow_succ]
   generalize 4294967296 ^ i = p
   grind
theorem plus_l101 (l s : List Int) (hw : Wf 4294967296 l) (hws : Wf 4294967296 s) (hlen : l.length ≤ 1000001) (hsl : s.length ≤ l.length) :
  ∀ (d i : Nat), i + d = l.length → ∀ (out : List Int) (c : Nat), out.length = l.length + 1 → Wf 4294967296 (out.take i) → c < 2 →
  Runs (fun k => num_nat_plus.l101 k l s out (c : Int) l (l.length : Int) (i : Int)) (L (nv 4294967296 (out.take i) + 4294967296 ^ i * (c + nv 4294967296 (l.drop i) + nv 4294967296 (s.drop i)))) := by
 intro d
 induction d with
 | zero =>
  intro i hi out c ho hwo hc
  obtain rfl : i = l.length := by omega
  refine Runs.suc ?_
  simp only [num_nat_plus.l101]
  refine Runs.no (by omega) (Runs.yes (by omega) (Runs.yes (by omega) ?_))
  rw [show ((c : Int) % 4294967296) = (c : Int) by omega, Int.toNat_natCast]
  have hset : out.set l.length (c : Int) = out.take l.length ++ [(c : Int)] := by
   have := take_set_succ out l.length (c : Int) (by omega)
   rw [← this, List.take_of_length_le (by rw [List.length_set]; omega)]
  rw [hset]
  refine Runs.bind (trim_f _ (hwo.append (Wf.one (by omega) (by omega))) (by simp; omega)) ((Runs.pure _).of ?_)
  rw [nv_append, nv_one, List.length_take, Nat.min_eq_left (by omega), List.drop_of_length_le (Nat.le_refl _), List.drop_of_length_le hsl]
  simp [nv]
 | succ d ih =>
  intro i hi out c ho hwo hc
  have hil : i < l.length := by omega
  obtain ⟨y, hy⟩ := Int.eq_ofNat_of_zero_le (hw.get hil).1
  have hy1 : y < 4294967296 := by have := (hw.get hil).2; omega
  refine Runs.suc ?_
  simp only [num_nat_plus.l101]
  rw [rd_get l i hil, hy, u64w (n := (y : Int)) (by omega) (by omega), u64w (n := (c : Int) + (y : Int)) (by omega) (by omega), w64 (by omega) (by omega), Int.toNat_natCast]
  refine Runs.yes (by omega) (Runs.yes (by omega) (Runs.yes (by omega) ?_))
  by_cases his : i < s.length
  ·
   obtain ⟨z, hz⟩ := Int.eq_ofNat_of_zero_le (hws.get his).1
   have hz1 : z < 4294967296 := by have := (hws.get his).2; omega
   rw [rd_get s i his, hz, u64w (n := (z : Int)) (by omega) (by omega), u64w (n := (c : Int) + (y : Int) + (z : Int)) (by omega) (by omega)]
   refine Runs.yes (by omega) (Runs.yes (by omega) ?_)
   have e2 : ((c : Int) + (y : Int) + (z : Int)) % 4294967296 = (((c + y + z) % 4294967296 : Nat) : Int) := by omega
   have e3 : ((c : Int) + (y : Int) + (z : Int)) / 4294967296 = (((c + y + z) / 4294967296 : Nat) : Int) := by omega
   rw [e2, e3]
   have hq : (c + y + z) % 4294967296 + 4294967296 * ((c + y + z) / 4294967296) = c + y + z := Nat.mod_add_div ..
   have hr : (c + y + z) % 4294967296 < 4294967296 := Nat.mod_lt _ (by decide)
   have hq2 : (c + y + z) / 4294967296 < 2 := by omega
   generalize (c + y + z) % 4294967296 = r at *
   generalize (c + y + z) / 4294967296 = q at *
   have ht := take_set_succ out i (r : Int) (by omega)
   have := ih (i + 1) (by omega) (out.set i (r : Int)) q (by rw [List.length_set]; exact ho) (by rw [ht]; exact hwo.append (Wf.one (by omega) (by omega))) hq2
   refine Runs.of this ?_
   congr 1
   rw [ht, nv_append, nv_one, List.length_take, Nat.min_eq_left (by omega), nv_drop _ l i hil, nv_drop _ s i his, hy, hz]
   simp only [Int.toNat_natCast]
   generalize nv 4294967296 (List.take i out) = N
   generalize nv 4294967296 (l.drop (i + 1)) = D
   generalize nv 4294967296 (s.drop (i + 1)) = E
   rw [Nat.pow_succ]
   generalize 4294967296 ^ i = p
   grind
  ·
   refine Runs.no (by omega) (Runs.yes (by omega) ?_)
   have e2 : ((c : Int) + (y : Int)) % 4294967296 = (((c + y) % 4294967296 : Nat) : Int) := by omega
   have e3 : ((c : Int) + (y : Int)) / 4294967296 = (((c + y) / 4294967296 : Nat) : Int) := by omega
   rw [e2, e3]
   have hq : (c + y) % 4294967296 + 4294967296 * ((c + y) / 4294967296) = c + y := Nat.mod_add_div ..
   have hr : (c + y) % 4294967296 < 4294967296 := Nat.mod_lt _ (by decide)
   have hq2 : (c + y) / 4294967296 < 2 := by omega
   generalize (c + y) % 4294967296 = r at *
   generalize (c + y) / 4294967296 = q at *
   have ht := take_set_succ out i (r : Int) (by omega)
   have := ih (i + 1) (by omega) (out.set i (r : Int)) q (by rw [List.length_set]; exact ho) (by rw [ht]; exact hwo.append (Wf.one (by omega) (by omega))) hq2
   refine Runs.of this ?_
   congr 1
   rw [ht, nv_append, nv_one, List.length_take, Nat.min_eq_left (by omega), nv_drop _ l i hil, hy, List.drop_of_length_le (show s.length ≤ i + 1 by omega), List.drop_of_length_le (show s.length ≤ i by omega)]
   simp only [Int.toNat_natCast, nv]
   generalize nv 4294967296 (List.take i out) = N
   generalize nv 4294967296 (l.drop (i + 1)) = D
   rw [Nat.pow_succ]
   generalize 4294967296 ^ i = p
   grind
theorem plus_f (a b : Nat) (ha : Few a) (hb : Few b) : Runs (fun k => num_nat_plus.f k (L a) (L b)) (L (a + b)) := by
 unfold Few at ha hb
 simp only [num_nat_plus.f]
 rw [w64 (n := ((L b).length : Int) + 1) (by omega) (by omega), w64 (n := ((L a).length : Int) + 1) (by omega) (by omega)]
 rw [show (((L b).length : Int) + 1).toNat = (L b).length + 1 by omega, show (((L a).length : Int) + 1).toNat = (L a).length + 1 by omega]
 by_cases h : (L a).length < (L b).length
 ·
  refine Runs.yes (by omega) (Runs.yes (by omega) (Runs.yes (by omega) ?_))
  refine (plus_l0 (L b) (L a) (L_wf b) (L_wf a) (by omega) (by omega) (L b).length 0 (by omega) _ 0 (by simp) (by rw [List.take_zero]; exact Wf.nil _) (by omega)).of ?_
  congr 1
  rw [List.take_zero, List.drop_zero, List.drop_zero, L_nv, L_nv, nv]; grind
 ·
  refine Runs.no (by omega) (Runs.yes (by omega) (Runs.yes (by omega) ?_))
  refine (plus_l101 (L a) (L b) (L_wf a) (L_wf b) (by omega) (by omega) (L a).length 0 (by omega) _ 0 (by simp) (by rw [List.take_zero]; exact Wf.nil _) (by omega)).of ?_
  congr 1
  rw [List.take_zero, List.drop_zero, List.drop_zero, L_nv, L_nv, nv]; grind
theorem less_digit (w b y : Nat) (hw : w < 4294967296) (hb : b < 2) (hy : y < 4294967296) :
  ∃ d q : Nat, IntKind.u64.wrap (IntKind.u64.wrap ((w : Int) - b) - y) % 4294967296 = (d : Int) ∧ IntKind.u64.wrap (IntKind.u64.wrap ((w : Int) - b) - y) / 9223372036854775808 = (q : Int) ∧ d < 4294967296 ∧ q < 2 ∧ w + 4294967296 * q = d + b + y := by
 rw [IntKind.wrap_u64, IntKind.wrap_u64]
 by_cases h : b + y ≤ w
 ·
  exact ⟨w - b - y, 0, by omega, by omega, by omega, by omega, by omega⟩
 ·
  exact ⟨w + 4294967296 - b - y, 1, by omega, by omega, by omega, by omega, by omega⟩
theorem less_digit0 (w b : Nat) (hw : w < 4294967296) (hb : b < 2) :
  ∃ d q : Nat, IntKind.u64.wrap ((w : Int) - b) % 4294967296 = (d : Int) ∧ IntKind.u64.wrap ((w : Int) - b) / 9223372036854775808 = (q : Int) ∧ d < 4294967296 ∧ q < 2 ∧ w + 4294967296 * q = d + b := by
 rw [IntKind.wrap_u64]
 by_cases h : b ≤ w
 ·
  exact ⟨w - b, 0, by omega, by omega, by omega, by omega, by omega⟩
 ·
  exact ⟨w + 4294967296 - b, 1, by omega, by omega, by omega, by omega, by omega⟩
theorem less_loop (l s : List Int) (hw : Wf 4294967296 l) (hws : Wf 4294967296 s) (hlen : l.length ≤ 1000000) :
  ∀ (d i : Nat), i + d = l.length → ∀ (out : List Int) (c : Nat), out.length = l.length → Wf 4294967296 (out.take i) → c < 2 → c + nv 4294967296 (s.drop i) ≤ nv 4294967296 (l.drop i) →
  Runs (fun k => num_nat_less.l0 k s out (c : Int) l (l.length : Int) (i : Int)) (L (nv 4294967296 (out.take i) + 4294967296 ^ i * (nv 4294967296 (l.drop i) - (c + nv 4294967296 (s.drop i))))) := by
 intro d
 induction d with
 | zero =>
  intro i hi out c ho hwo hc hle
  obtain rfl : i = l.length := by omega
  rw [List.drop_of_length_le (Nat.le_refl _)] at hle ⊢
  rw [nv] at hle ⊢
  refine Runs.suc ?_
  simp only [num_nat_less.l0]
  refine Runs.no (by omega) ?_
  have : out.take l.length = out := List.take_of_length_le (by omega)
  rw [this] at hwo ⊢
  exact Runs.bind (trim_f _ hwo (by omega)) ((Runs.pure _).of (by simp))
 | succ d ih =>
  intro i hi out c ho hwo hc hle
  have hil : i < l.length := by omega
  obtain ⟨w, hy⟩ := Int.eq_ofNat_of_zero_le (hw.get hil).1
  have hw1 : w < 4294967296 := by have := (hw.get hil).2; omega
  refine Runs.suc ?_
  simp only [num_nat_less.l0]
  rw [rd_get l i hil, hy, u64w (n := (w : Int)) (by omega) (by omega), w64 (by omega) (by omega), Int.toNat_natCast]
  refine Runs.yes (by omega) (Runs.yes (by omega) (Runs.yes (by omega) ?_))
  rw [nv_drop _ l i hil, hy, Int.toNat_natCast] at hle ⊢
  by_cases his : i < s.length
  ·
   obtain ⟨y, hz⟩ := Int.eq_ofNat_of_zero_le (hws.get his).1
   have hz1 : y < 4294967296 := by have := (hws.get his).2; omega
   rw [rd_get s i his, hz, u64w (n := (y : Int)) (by omega) (by omega)]
   obtain ⟨r, q, e2, e3, hr, hq2, hq⟩ := less_digit w c y hw1 hc hz1
   rw [e2, e3]
   refine Runs.yes (by omega) (Runs.yes (by omega) ?_)
   have ht := take_set_succ out i (r : Int) (by omega)
   rw [nv_drop _ s i his, hz, Int.toNat_natCast] at hle ⊢
   have := ih (i + 1) (by omega) (out.set i (r : Int)) q (by rw [List.length_set]; exact ho) (by rw [ht]; exact hwo.append (Wf.one (by omega) (by omega))) hq2 (by omega)
   refine Runs.of this ?_
   congr 1
   rw [ht, nv_append, nv_one, List.length_take, Nat.min_eq_left (by omega)]
   simp only [Int.toNat_natCast]
   generalize nv 4294967296 (List.take i out) = N
   generalize nv 4294967296 (l.drop (i + 1)) = D at *
   generalize nv 4294967296 (s.drop (i + 1)) = E at *
   rw [Nat.pow_succ]
   generalize 4294967296 ^ i = p
   obtain ⟨X, hX⟩ : ∃ X, D = X + (q + E) := ⟨D - (q + E), by omega⟩
   rw [show D - (q + E) = X by omega, show w + 4294967296 * D - (c + (y + 4294967296 * E)) = r + 4294967296 * X by omega]
   grind
  ·
   refine Runs.no (by omega) ?_
   obtain ⟨r, q, e2, e3, hr, hq2, hq⟩ := less_digit0 w c hw1 hc
   rw [e2, e3]
   refine Runs.yes (by omega) ?_
   have ht := take_set_succ out i (r : Int) (by omega)
   have hs1 : s.drop (i + 1) = [] := List.drop_of_length_le (by omega)
   rw [List.drop_of_length_le (show s.length ≤ i by omega), nv] at hle ⊢
   have := ih (i + 1) (by omega) (out.set i (r : Int)) q (by rw [List.length_set]; exact ho) (by rw [ht]; exact hwo.append (Wf.one (by omega) (by omega))) hq2 (by rw [hs1, nv]; omega)
   refine Runs.of this ?_
   congr 1
   rw [ht, nv_append, nv_one, List.length_take, Nat.min_eq_left (by omega), hs1, nv]
   simp only [Int.toNat_natCast]
   generalize nv 4294967296 (List.take i out) = N
   generalize nv 4294967296 (l.drop (i + 1)) = D at *
   rw [Nat.pow_succ]
   generalize 4294967296 ^ i = p
   obtain ⟨X, hX⟩ : ∃ X, D = X + q := ⟨D - q, by omega⟩
   rw [show D - (q + 0) = X by omega, show w + 4294967296 * D - (c + 0) = r + 4294967296 * X by omega]
   grind
theorem less_f (a b : Nat) (ha : Few a) (h : b ≤ a) : Runs (fun k => num_nat_less.f k (L a) (L b)) (L (a - b)) := by
 unfold Few at ha
 simp only [num_nat_less.f]
 rw [Int.toNat_natCast]
 refine Runs.yes (by omega) (Runs.yes (by omega) ?_)
 refine (less_loop (L a) (L b) (L_wf a) (L_wf b) ha (L a).length 0 (by omega) _ 0 (by simp) (by rw [List.take_zero]; exact Wf.nil _) (by omega) (by rw [List.drop_zero, List.drop_zero, L_nv, L_nv]; omega)).of ?_
 congr 1
 rw [List.take_zero, List.drop_zero, List.drop_zero, L_nv, L_nv, nv]
 simp
end Go.Proofs.YtjlnfnfdibfniaaDoor.Pl
namespace Go.Proofs.YtjlnfnfdibfniaaDoor.Pl
open F Hd Go.RowKit Go.Proofs.YtjlnfnfdibfniaaDoorW.PrintWords Go.Proofs.YtjlnfnfdibfniaaDoorW.PrintMore
def dnB (r b : Nat) (ev : Bool) : Bool := decide (r < b) || (decide (r = b) && ev)
def upB (r s a : Nat) (ev : Bool) : Bool := decide (s < r + a) || (decide (s = r + a) && ev)
def adjB (r s d : Nat) (down up : Bool) : Bool := up && (!down || decide (s < 2 * r) || (decide (s = 2 * r) && decide (d % 2 = 1)))
theorem cmpN_cases (a b : Nat) : a < b ∧ cmpN a b = -1 ∨ a = b ∧ cmpN a b = 0 ∨ b < a ∧ cmpN a b = 1 := by
 unfold cmpN
 rcases Nat.lt_trichotomy a b with h | h | h
 ·
  exact .inl ⟨h, if_pos h⟩
 ·
  exact .inr (.inl ⟨h, by rw [if_neg (by omega), if_neg (by omega)]⟩)
 ·
  exact .inr (.inr ⟨h, by rw [if_neg (by omega), if_pos h]⟩)
theorem sh_inner (s b a : Nat) (ev : Bool) (l : List Int) (x : Int) (R : List Int × Int) (hs : 0 < s) (B : Nat) (hB : Few B) : ∀ (q r d : Nat), r / s = q → r ≤ B → d + q ≤ 200 →
  Runs (fun k => num_shortest.l1 k (L (r % s)) (L s) (L b) (L a) ev l ((d + q : Nat) : Int) x) R → Runs (fun k => num_shortest.l1 k (L r) (L s) (L b) (L a) ev l (d : Int) x) R := by
 intro q
 induction q with
 | zero =>
  intro r d hq hr hd h
  have hlt : r < s := by
   rcases Nat.lt_or_ge r s with c | c
   ·
    exact c
   ·
    have := Nat.div_pos c hs; omega
  rw [Nat.mod_eq_of_lt hlt] at h
  exact h
 | succ q ih =>
  intro r d hq hr hd h
  have hge : s ≤ r := by
   rcases Nat.lt_or_ge r s with c | c
   ·
    rw [Nat.div_eq_of_lt c] at hq; omega
   ·
    exact c
  refine Runs.suc ?_
  simp only [num_shortest.l1]
  refine Runs.bind (against_f r s (few_mono hr hB)) ?_
  refine Runs.yes (by rcases cmpN_cases r s with ⟨h1, h2⟩ | ⟨h1, h2⟩ | ⟨h1, h2⟩ <;> omega) (Runs.bind (less_f r s (few_mono hr hB) hge) ?_)
  rw [show ((d : Int) + 1) % 256 = ((d + 1 : Nat) : Int) by omega]
  have hq2 : (r - s) / s = q := by
   have e : r = r - s + s := by omega
   have := Nat.add_div_right (r - s) hs
   rw [← e] at this
   omega
  refine ih (r - s) (d + 1) hq2 (by omega) (by omega) ?_
  have hm : (r - s) % s = r % s := by
   have e : r = r - s + s := by omega
   conv => rhs; rw [e, Nat.add_mod_right]
  rw [hm, show d + 1 + q = d + (q + 1) by omega]
  exact h
theorem sh_test (r s b a : Nat) (d : Int) (ev : Bool) (l : List Int) (x : Int) (R : List Int × Int) (hr : r < s) (hF : Few (s + a))
  (h : Runs (fun k => num_shortest.j2 k (L r) (L s) (L b) (L a) ev l d (dnB r b ev) (upB r s a ev) x) R) : Runs (fun k => num_shortest.l1 k (L r) (L s) (L b) (L a) ev l d x) R := by
 have hfr : Few r := few_mono (by omega) hF
 have hfa : Few a := few_mono (by omega) hF
 have hfra : Few (r + a) := few_mono (by omega) hF
 refine Runs.suc ?_
 simp only [num_shortest.l1]
 refine Runs.bind (against_f r s hfr) ?_
 have e0 : cmpN r s = -1 := by unfold cmpN; rw [if_pos hr]
 refine Runs.no (by rw [e0]; decide) (Runs.bind (against_f r b hfr) (Runs.bind (plus_f r a hfr hfa) ?_))
 refine Runs.bind (against_f (r + a) s hfra) ?_
 have eu : ∀ z, cmpN (r + a) s = z → (z = -1 → upB r s a ev = false) ∧ (z = 0 → upB r s a ev = ev) ∧ (z = 1 → upB r s a ev = true) := by
  intro z hz
  unfold upB
  rcases cmpN_cases (r + a) s with ⟨h1, h2⟩ | ⟨h1, h2⟩ | ⟨h1, h2⟩
  ·
   rw [decide_eq_false (show ¬ s < r + a by omega), decide_eq_false (show ¬ s = r + a by omega)]
   refine ⟨fun _ => by simp, fun h => by omega, fun h => by omega⟩
  ·
   rw [decide_eq_false (show ¬ s < r + a by omega), decide_eq_true h1.symm]
   refine ⟨fun h => by omega, fun _ => by simp, fun h => by omega⟩
  ·
   rw [decide_eq_true h1]
   refine ⟨fun h => by omega, fun h => by omega, fun _ => by simp⟩
 have ed : ∀ z, cmpN r b = z → (z = -1 → dnB r b ev = true) ∧ (z = 0 → dnB r b ev = ev) ∧ (z = 1 → dnB r b ev = false) := by
  intro z hz
  unfold dnB
  rcases cmpN_cases r b with ⟨h1, h2⟩ | ⟨h1, h2⟩ | ⟨h1, h2⟩
  ·
   rw [decide_eq_true h1]
   refine ⟨fun _ => by simp, fun h => by omega, fun h => by omega⟩
  ·
   rw [decide_eq_false (show ¬ r < b by omega), decide_eq_true h1]
   refine ⟨fun h => by omega, fun _ => by simp, fun h => by omega⟩
  ·
   rw [decide_eq_false (show ¬ r < b by omega), decide_eq_false (show ¬ r = b by omega)]
   refine ⟨fun h => by omega, fun h => by omega, fun _ => by simp⟩
 have cu : cmpN (r + a) s = -1 ∨ cmpN (r + a) s = 0 ∨ cmpN (r + a) s = 1 := by rcases cmpN_cases (r + a) s with h | h | h <;> simp [h.2]
 have cd : cmpN r b = -1 ∨ cmpN r b = 0 ∨ cmpN r b = 1 := by rcases cmpN_cases r b with h | h | h <;> simp [h.2]
 have up3 : ∀ D : Bool, D = dnB r b ev → Runs (fun k => if cmpN (r + a) s > 0 then num_shortest.j2 k (L r) (L s) (L b) (L a) ev l d D true x else if cmpN (r + a) s = 0 then num_shortest.j2 k (L r) (L s) (L b) (L a) ev l d D ev x else num_shortest.j2 k (L r) (L s) (L b) (L a) ev l d D false x) R := by
  intro D hD
  rw [hD]
  rcases cu with hu | hu | hu
  ·
   refine Runs.no (by omega) (Runs.no (by omega) ?_)
   rw [← (eu _ hu).1 rfl]; exact h
  ·
   refine Runs.no (by omega) (Runs.yes hu ?_)
   rw [(eu _ hu).2.1 rfl] at h; exact h
  ·
   refine Runs.yes (by omega) ?_
   rw [← (eu _ hu).2.2 rfl]; exact h
 rcases cd with hd | hd | hd
 ·
  exact Runs.yes (by omega) (up3 true ((ed _ hd).1 rfl).symm)
 ·
  exact Runs.no (by omega) (Runs.yes hd (up3 ev ((ed _ hd).2.1 rfl).symm))
 ·
  exact Runs.no (by omega) (Runs.no (by omega) (up3 false ((ed _ hd).2.2 rfl).symm))
theorem sh_skip (r s b a : Nat) (ev down : Bool) (x : Int) (R : List Int × Int) (hx : -100000 ≤ x) (hx1 : x ≤ 100000) (h : Runs (fun k => num_shortest.l0 k (L r) (L s) (L b) (L a) ev [] (x - 1)) R) :
  Runs (fun k => num_shortest.j2 k (L r) (L s) (L b) (L a) ev [] 48 down false x) R := by
 refine Runs.suc ?_
 simp only [num_shortest.j2]
 refine Runs.yes rfl (Runs.yes trivial (Runs.suc ?_))
 simp only [num_shortest.j3]
 rw [w64 (by omega) (by omega)]
 exact Runs.yes rfl h
theorem sh_go (r s b a : Nat) (ev : Bool) (l : List Int) (d x : Int) (R : List Int × Int) (hl : l.length ≤ 100000) (hn : ¬ (l = [] ∧ d = 48)) (h : Runs (fun k => num_shortest.l0 k (L r) (L s) (L b) (L a) ev (l ++ [d]) x) R) :
  Runs (fun k => num_shortest.j2 k (L r) (L s) (L b) (L a) ev l d false false x) R := by
 have j3 : Runs (fun k => num_shortest.j3 k (L r) (L s) (L b) (L a) ev l d false false false x) R := by
  refine Runs.suc ?_
  simp only [num_shortest.j3]
  refine Runs.no Bool.false_ne_true (Runs.no Bool.false_ne_true (Runs.suc ?_))
  simp only [num_shortest.j4]
  exact Runs.yes rfl (Runs.yes (by omega) h)
 refine Runs.suc ?_
 simp only [num_shortest.j2]
 by_cases h1 : l.length = 0
 ·
  refine Runs.yes (by omega) (Runs.no (fun h2 => hn ⟨List.length_eq_zero_iff.1 h1, h2⟩) j3)
 ·
  exact Runs.no (by omega) j3
theorem sh_stop (r s b a d : Nat) (ev down up : Bool) (l : List Int) (x : Int) (hl : l.length ≤ 100000) (hd : d ≤ 200) (hr : Few (r * 2)) (hs : down = true ∨ up = true) (hn : ¬ (l = [] ∧ d = 48 ∧ up = false)) :
  Runs (fun k => num_shortest.j2 k (L r) (L s) (L b) (L a) ev l (d : Int) down up x) (l ++ [((d + (adjB r s d down up).toNat : Nat) : Int)], x) := by
 have j4 : Runs (fun k => num_shortest.j4 k (L r) (L s) (L b) (L a) ev l (d : Int) down up false x) (l ++ [((d + (adjB r s d down up).toNat : Nat) : Int)], x) := by
  refine Runs.suc ?_
  simp only [num_shortest.j4]
  have hr1 : Few r := few_mono (by omega) hr
  have e1 := up_f r 1 hr1 (by decide)
  rw [Nat.pow_one] at e1
  refine Runs.no Bool.false_ne_true (Runs.bind e1 (Runs.bind (against_f (r * 2) s hr) ?_))
  have hm : Int.tmod (d : Int) 2 = ((d % 2 : Nat) : Int) := by rw [Int.tmod_eq_emod_of_nonneg (by omega)]; omega
  rw [hm, show ((d : Int) + 1) % 256 = ((d + 1 : Nat) : Int) by omega]
  have plain : ∀ e : Bool, e = false → Runs (fun _ => if l.length < 140737488355328 then some (l ++ [(d : Int)], x) else none) (l ++ [((d + e.toNat : Nat) : Int)], x) := by
   intro e he
   rw [he]
   exact Runs.yes (by omega) (Runs.pure _)
  have more : ∀ e : Bool, e = true → Runs (fun _ => if l.length < 140737488355328 then some (l ++ [((d + 1 : Nat) : Int)], x) else none) (l ++ [((d + e.toNat : Nat) : Int)], x) := by
   intro e he
   rw [he]
   exact Runs.yes (by omega) (Runs.pure _)
  unfold adjB
  cases up with
  | false => exact Runs.no Bool.false_ne_true (plain _ (by simp))
  | true =>
   refine Runs.yes rfl ?_
   cases down with
   | false => exact Runs.no Bool.false_ne_true (more _ (by simp))
   | true =>
    refine Runs.yes rfl ?_
    rcases cmpN_cases (r * 2) s with ⟨h1, h2⟩ | ⟨h1, h2⟩ | ⟨h1, h2⟩
    ·
     refine Runs.no (by omega) (Runs.no (by omega) (plain _ ?_))
     rw [decide_eq_false (show ¬ s < 2 * r by omega), decide_eq_false (show ¬ s = 2 * r by omega)]; rfl
    ·
     refine Runs.no (by omega) (Runs.yes h2 ?_)
     rw [decide_eq_false (show ¬ s < 2 * r by omega), decide_eq_true (show s = 2 * r by omega)]
     by_cases h3 : d % 2 = 1
     ·
      rw [decide_eq_true h3]; exact Runs.yes (by omega) (more _ rfl)
     ·
      rw [decide_eq_false h3]; exact Runs.no (by omega) (plain _ rfl)
    ·
     refine Runs.yes (by omega) (more _ ?_)
     rw [decide_eq_true (show s < 2 * r by omega)]; rfl
 have j3 : Runs (fun k => num_shortest.j3 k (L r) (L s) (L b) (L a) ev l (d : Int) down up false x) (l ++ [((d + (adjB r s d down up).toNat : Nat) : Int)], x) := by
  refine Runs.suc ?_
  simp only [num_shortest.j3]
  refine Runs.no Bool.false_ne_true ?_
  cases down with
  | true => exact Runs.yes rfl j4
  | false =>
   have : up = true := by rcases hs with h | h; cases h; exact h
   rw [this] at j4 ⊢
   exact Runs.no Bool.false_ne_true j4
 refine Runs.suc ?_
 simp only [num_shortest.j2]
 by_cases h1 : l.length = 0
 ·
  refine Runs.yes (by omega) ?_
  by_cases h2 : d = 48
  ·
   have : up = true := by
    cases up with
    | true => rfl
    | false => exact absurd ⟨List.length_eq_zero_iff.1 h1, h2, rfl⟩ hn
   rw [this] at j3 ⊢
   exact Runs.yes (by omega) j3
  ·
   exact Runs.no (by omega) j3
 ·
  exact Runs.no (by omega) j3
def dg : Nat → Nat → Nat → Nat → List Nat
 | 0, _, _, _ => []
 | J + 1, r, s, e => if J = 0 then [r * 10 / s + e] else r * 10 / s :: dg J (r * 10 % s) s e
def ints (l : List Nat) : List Int := l.map (fun q => ((48 + q : Nat) : Int))
def rem (r s i : Nat) : Nat := r * 10 ^ i % s
theorem rem_succ (r s i : Nat) : rem (r * 10 % s) s i = rem r s (i + 1) := by
 unfold rem
 rw [Nat.mod_mul_mod, Nat.pow_succ]
 congr 1; grind
theorem quo_succ (r s i : Nat) (hs : 0 < s) (hi : 0 < i) : (r * 10 ^ (i + 1) / s) % 10 = ((r * 10 % s) * 10 ^ i / s) % 10 := by
 have h1 : r * 10 ^ (i + 1) = (r * 10 % s) * 10 ^ i + s * (r * 10 / s * 10 ^ i) := by
  have := Nat.mod_add_div (r * 10) s
  rw [Nat.pow_succ]
  generalize r * 10 % s = u at *
  generalize r * 10 / s = v at *
  have h2 : r * (10 ^ i * 10) = (r * 10) * 10 ^ i := by grind
  rw [h2, ← this]; grind
 rw [h1, Nat.add_mul_div_left _ _ hs]
 obtain ⟨j, rfl⟩ : ∃ j, i = j + 1 := ⟨i - 1, by omega⟩
 rw [Nat.pow_succ 10 j]
 generalize (r * 10 % s) * (10 ^ j * 10) / s = u
 generalize r * 10 / s = v
 have : v * (10 ^ j * 10) = 10 * (v * 10 ^ j) := by grind
 rw [this]; omega
def dn (r s b i : Nat) (ev : Bool) : Bool := dnB (rem r s i) (b * 10 ^ i) ev
def up (r s a i : Nat) (ev : Bool) : Bool := upB (rem r s i) s (a * 10 ^ i) ev
def adj (r s b a i : Nat) (ev : Bool) : Nat := (adjB (rem r s i) s (r * 10 ^ i / s) (dn r s b i ev) (up r s a i ev)).toNat
theorem dn_succ (r s b i : Nat) (ev : Bool) : dn (r * 10 % s) s (b * 10) i ev = dn r s b (i + 1) ev := by
 unfold dn; rw [rem_succ, Nat.pow_succ]; congr 1; grind
theorem up_succ (r s a i : Nat) (ev : Bool) : up (r * 10 % s) s (a * 10) i ev = up r s a (i + 1) ev := by
 unfold up; rw [rem_succ, Nat.pow_succ]; congr 1; grind
theorem adjB_par (r s d d' : Nat) (down up : Bool) (h : d % 2 = d' % 2) : adjB r s d down up = adjB r s d' down up := by
 unfold adjB; rw [h]
theorem adj_succ (r s b a i : Nat) (ev : Bool) (hs : 0 < s) (hi : 0 < i) : adj (r * 10 % s) s (b * 10) (a * 10) i ev = adj r s b a (i + 1) ev := by
 unfold adj
 rw [rem_succ, dn_succ, up_succ]
 congr 1
 refine adjB_par _ _ _ _ _ _ ?_
 have := quo_succ r s i hs hi
 omega
theorem sh_run (s : Nat) (ev : Bool) (x : Int) (_hx : -100000 ≤ x) (_hx1 : x ≤ 100000) (hs : 0 < s) : ∀ (J r b a : Nat) (l : List Int), 1 ≤ J → r < s → (∀ i, 1 ≤ i → i < J → dn r s b i ev = false ∧ up r s a i ev = false) → (dn r s b J ev = true ∨ up r s a J ev = true) →
  (l ≠ [] ∨ r * 10 / s ≠ 0 ∨ J = 1 ∧ up r s a 1 ev = true) → l.length + J ≤ 100000 → Few (s * 20 + b * 10 ^ J + a * 10 ^ J) →
  Runs (fun k => num_shortest.l0 k (L r) (L s) (L b) (L a) ev l x) (l ++ ints (dg J r s (adj r s b a J ev)), x) := by
 intro J
 induction J with
 | zero => intro r b a l h; omega
 | succ J ih =>
  intro r b a l _ hr hno hyes hfirst hl hF
  have hp : 1 ≤ 10 ^ J := Nat.pow_pos (by decide)
  have hpp : 10 ^ (J + 1) = 10 ^ J * 10 := Nat.pow_succ ..
  have hb : b * 10 ≤ b * 10 ^ (J + 1) := by rw [hpp]; exact Nat.mul_le_mul_left _ (by omega)
  have ha : a * 10 ≤ a * 10 ^ (J + 1) := by rw [hpp]; exact Nat.mul_le_mul_left _ (by omega)
  have hq : r * 10 / s ≤ 9 := by
   have : r * 10 / s < 10 := Nat.div_lt_of_lt_mul (by omega)
   omega
  have hml : r * 10 % s < s := Nat.mod_lt _ hs
  refine Runs.suc ?_
  simp only [num_shortest.l0]
  have t1 := tens_f r 1 (by rw [Nat.pow_one]; exact few_mono (by omega) hF) (by decide)
  have t2 := tens_f b 1 (by rw [Nat.pow_one]; exact few_mono (by omega) hF) (by decide)
  have t3 := tens_f a 1 (by rw [Nat.pow_one]; exact few_mono (by omega) hF) (by decide)
  rw [Nat.pow_one] at t1 t2 t3
  refine Runs.bind t1 (Runs.bind t2 (Runs.bind t3 ?_))
  refine sh_inner s (b * 10) (a * 10) ev l x _ hs (r * 10) (few_mono (by omega) hF) (r * 10 / s) (r * 10) 48 rfl (Nat.le_refl _) (by omega) ?_
  refine sh_test (r * 10 % s) s (b * 10) (a * 10) _ ev l x _ hml (few_mono (by omega) hF) ?_
  have e1 : dnB (r * 10 % s) (b * 10) ev = dn r s b 1 ev := by unfold dn rem; rw [Nat.pow_one]
  have e2 : upB (r * 10 % s) s (a * 10) ev = up r s a 1 ev := by unfold up rem; rw [Nat.pow_one]
  rw [e1, e2]
  rcases Nat.eq_zero_or_pos J with hJ | hJ
  ·
   subst hJ
   have e3 : dg 1 r s (adj r s b a 1 ev) = [r * 10 / s + adj r s b a 1 ev] := rfl
   rw [Nat.zero_add] at hyes ⊢
   rw [e3]
   have := sh_stop (r * 10 % s) s (b * 10) (a * 10) (48 + r * 10 / s) ev (dn r s b 1 ev) (up r s a 1 ev) l x (by omega) (by omega) (few_mono (by omega) hF) hyes (by
    rintro ⟨g1, g2, g3⟩
    rcases hfirst with h | h | ⟨_, h⟩
    ·
     exact h g1
    ·
     omega
    ·
     rw [g3] at h; cases h)
   refine this.of ?_
   have e4 : adjB (r * 10 % s) s (48 + r * 10 / s) (dn r s b 1 ev) (up r s a 1 ev) = adjB (rem r s 1) s (r * 10 ^ 1 / s) (dn r s b 1 ev) (up r s a 1 ev) := by
    unfold rem
    rw [Nat.pow_one]
    exact adjB_par _ _ _ _ _ _ (by omega)
   rw [e4]
   unfold adj ints
   rw [List.map_singleton, Nat.add_assoc]
  ·
   obtain ⟨n1, n2⟩ := hno 1 (by omega) (by omega)
   rw [n1, n2]
   refine sh_go _ _ _ _ _ _ _ _ _ (by omega) ?_ ?_
   ·
    rintro ⟨g1, g2⟩
    rcases hfirst with h | h | ⟨h, _⟩
    ·
     exact h g1
    ·
     omega
    ·
     omega
   ·
    have ih := ih (r * 10 % s) (b * 10) (a * 10) (l ++ [((48 + r * 10 / s : Nat) : Int)]) (by omega) hml (fun i h1 h2 => by
     rw [dn_succ, up_succ]; exact hno (i + 1) (by omega) (by omega)) (by rw [dn_succ, up_succ]; exact hyes) (.inl (by simp)) (by rw [List.length_append, List.length_singleton]; omega) (by
      refine few_mono ?_ hF
      rw [hpp]
      have e5 : b * 10 * 10 ^ J = b * (10 ^ J * 10) := by grind
      have e6 : a * 10 * 10 ^ J = a * (10 ^ J * 10) := by grind
      omega)
    rw [adj_succ r s b a J ev hs hJ] at ih
    refine ih.of ?_
    have e7 : dg (J + 1) r s (adj r s b a (J + 1) ev) = r * 10 / s :: dg J (r * 10 % s) s (adj r s b a (J + 1) ev) := by
     rw [dg, if_neg (by omega)]
    rw [e7]
    unfold ints
    rw [List.map_cons, List.append_assoc]
    rfl
end Go.Proofs.YtjlnfnfdibfniaaDoor.Pl
namespace Go.Proofs.YtjlnfnfdibfniaaDoor.Pl
open Ieee
def rungVal (r : Nat) : Nat := if r < 2 ^ 52 then r else (2 ^ 52 + r % 2 ^ 52) * 2 ^ (r / 2 ^ 52 - 1)
theorem rungVal_succ (r : Nat) : rungVal r < rungVal (r + 1) := by
 unfold rungVal
 by_cases h1 : r + 1 < 2 ^ 52
 ·
  rw [if_pos h1, if_pos (by omega)]; omega
 ·
  rw [if_neg h1]
  by_cases h2 : r < 2 ^ 52
  ·
   rw [if_pos h2]
   have : r + 1 = 2 ^ 52 := by omega
   rw [this]; omega
  ·
   rw [if_neg h2]
   obtain ⟨q, hq⟩ : ∃ q, q = r / 2 ^ 52 := ⟨_, rfl⟩
   obtain ⟨s, hs⟩ : ∃ s, s = r % 2 ^ 52 := ⟨_, rfl⟩
   have hd : r = 2 ^ 52 * q + s := by rw [hq, hs]; exact (Nat.div_add_mod r (2 ^ 52)).symm
   have hs' : s < 2 ^ 52 := by rw [hs]; exact Nat.mod_lt _ (by decide)
   have hq' : 1 ≤ q := by omega
   rw [← hq, ← hs]
   by_cases h3 : s + 1 < 2 ^ 52
   ·
    have e1 : (r + 1) / 2 ^ 52 = q := by omega
    have e2 : (r + 1) % 2 ^ 52 = s + 1 := by omega
    rw [e1, e2]
    exact Nat.mul_lt_mul_of_pos_right (by omega) (Nat.two_pow_pos _)
   ·
    have e1 : (r + 1) / 2 ^ 52 = q + 1 := by omega
    have e2 : (r + 1) % 2 ^ 52 = 0 := by omega
    rw [e1, e2]
    have e3 : q + 1 - 1 = (q - 1) + 1 := by omega
    rw [e3, Nat.pow_succ]
    have hp := Nat.two_pow_pos (q - 1)
    calc (2 ^ 52 + s) * 2 ^ (q - 1) < (2 ^ 52 * 2) * 2 ^ (q - 1) := Nat.mul_lt_mul_of_pos_right (by omega) hp
     _ = (2 ^ 52 + 0) * (2 ^ (q - 1) * 2) := by rw [Nat.add_zero, Nat.mul_assoc, Nat.mul_comm 2]
theorem rungVal_lt {r t : Nat} (h : r < t) : rungVal r < rungVal t := by
 induction h with
 | refl => exact rungVal_succ r
 | step _ ih => exact Nat.lt_trans ih (rungVal_succ _)
theorem rungVal_lt_iff {r t : Nat} : rungVal r < rungVal t ↔ r < t := by
 constructor
 ·
  intro h
  rcases Nat.lt_trichotomy r t with h1 | h1 | h1
  ·
   exact h1
  ·
   subst h1; omega
  ·
   have := rungVal_lt h1; omega
 ·
  exact rungVal_lt
def srung (x : Nat) : Int := if x / 2 ^ 63 % 2 == 1 then -((x % 2 ^ 63 : Nat) : Int) else ((x % 2 ^ 63 : Nat) : Int)
def isNum (x : Nat) : Prop := x % 2 ^ 63 ≤ 2047 * 2 ^ 52
theorem weight : double.signWeight = 2 ^ 63 := rfl
theorem infR : double.infRung = 2047 * 2 ^ 52 := rfl
theorem bin : double.binade = 2 ^ 52 := rfl
theorem read_nan {y : Nat} (h : ¬ isNum y) : double.read y = .nan (y / 2 ^ 63 % 2 == 1) (y % 2 ^ 63 - 2047 * 2 ^ 52) := by
 unfold isNum at h
 have h1 : ¬ y % double.signWeight < double.binade := by rw [weight, bin]; omega
 have h2 : ¬ y % double.signWeight < double.infRung := by rw [weight, infR]; omega
 have h3 : ¬ y % double.signWeight = double.infRung := by rw [weight, infR]; omega
 unfold Format.read
 simp only []
 rw [if_neg h1, if_neg h2, if_neg h3, weight, infR]
theorem order_nan_left {x y : Nat} (h : ¬ isNum x) : double.order x y = none := by
 unfold Format.order
 rw [read_nan h]
 rfl
theorem order_nan_right {x y : Nat} (h : ¬ isNum y) : double.order x y = none := by
 unfold Format.order
 rw [read_nan h]
 cases double.read x <;> rfl
theorem read_num {x : Nat} (h : x % 2 ^ 63 < 2047 * 2 ^ 52) : ∃ m e : Nat, double.read x = .number (x / 2 ^ 63 % 2 == 1) m (double.leastPlace + (e : Int)) ∧ m * 2 ^ e = rungVal (x % 2 ^ 63) := by
 unfold rungVal
 by_cases h1 : x % 2 ^ 63 < 2 ^ 52
 ·
  have g1 : x % double.signWeight < double.binade := by rw [weight, bin]; exact h1
  refine ⟨x % 2 ^ 63, 0, ?_, by rw [if_pos h1]; omega⟩
  unfold Format.read
  simp only []
  rw [if_pos g1, weight, Int.natCast_zero, Int.add_zero]
 ·
  have g1 : ¬ x % double.signWeight < double.binade := by rw [weight, bin]; exact h1
  have g2 : x % double.signWeight < double.infRung := by rw [weight, infR]; exact h
  refine ⟨2 ^ 52 + x % 2 ^ 63 % 2 ^ 52, x % 2 ^ 63 / 2 ^ 52 - 1, ?_, by rw [if_neg h1]⟩
  unfold Format.read
  simp only []
  rw [if_neg g1, if_pos g2, weight, bin]
theorem read_inf {x : Nat} (h : x % 2 ^ 63 = 2047 * 2 ^ 52) : double.read x = .infinity (x / 2 ^ 63 % 2 == 1) := by
 have h1 : ¬ x % double.signWeight < double.binade := by rw [weight, bin]; omega
 have h2 : ¬ x % double.signWeight < double.infRung := by rw [weight, infR]; omega
 have h3 : x % double.signWeight = double.infRung := by rw [weight, infR]; omega
 unfold Format.read
 simp only []
 rw [if_neg h1, if_neg h2, if_pos h3, weight]
theorem compare_congr {a b c d : Int} (h1 : a < b ↔ c < d) (h2 : b < a ↔ d < c) : compare a b = compare c d := by
 simp only [compare, compareOfLessAndEq]
 by_cases e1 : a < b
 ·
  rw [if_pos e1, if_pos (h1.1 e1)]
 ·
  rw [if_neg e1, if_neg (fun h => e1 (h1.2 h))]
  by_cases e2 : b < a
  ·
   rw [if_neg (show ¬ a = b by omega), if_neg (show ¬ c = d by have := h2.1 e2; omega)]
  ·
   have h3 : ¬ d < c := fun h => e2 (h2.2 h)
   have h4 : ¬ c < d := fun h => e1 (h1.2 h)
   rw [if_pos (show a = b by omega), if_pos (show c = d by omega)]
theorem cmp_lt {a b : Int} (h : a < b) : compare a b = .lt := by simp only [compare, compareOfLessAndEq]; rw [if_pos h]
theorem cmp_gt {a b : Int} (h : b < a) : compare a b = .gt := by simp only [compare, compareOfLessAndEq]; rw [if_neg (by omega), if_neg (by omega)]
theorem cmp_eq {a b : Int} (h : a = b) : compare a b = .eq := by simp only [compare, compareOfLessAndEq]; rw [if_neg (by omega), if_pos h]
theorem cmp_lt_iff {a b : Int} : compare a b = .lt ↔ a < b := by
 rcases Int.lt_trichotomy a b with h | h | h
 ·
  simp [cmp_lt h, h]
 ·
  simp only [cmp_eq h]; constructor <;> intro h' <;> first | cases h' | omega
 ·
  simp only [cmp_gt h]; constructor <;> intro h' <;> first | cases h' | omega
theorem cmp_gt_iff {a b : Int} : compare a b = .gt ↔ b < a := by
 rcases Int.lt_trichotomy a b with h | h | h
 ·
  simp only [cmp_lt h]; constructor <;> intro h' <;> first | cases h' | omega
 ·
  simp only [cmp_eq h]; constructor <;> intro h' <;> first | cases h' | omega
 ·
  simp [cmp_gt h, h]
theorem cmp_eq_iff {a b : Int} : compare a b = .eq ↔ a = b := by
 rcases Int.lt_trichotomy a b with h | h | h
 ·
  rw [cmp_lt h]; exact ⟨(fun h' => nomatch h'), (fun h' => by omega)⟩
 ·
  rw [cmp_eq h]; exact ⟨fun _ => h, fun _ => rfl⟩
 ·
  rw [cmp_gt h]; exact ⟨(fun h' => nomatch h'), (fun h' => by omega)⟩
def sg (s : Bool) (v : Nat) : Int := if s then -(v : Int) else (v : Int)
theorem sg_scale (s t : Bool) (a b p : Nat) (hp : 0 < p) : (sg s a < sg t b ↔ sg s (a * p) < sg t (b * p)) := by
 have k1 : ∀ a b : Nat, a < b ↔ a * p < b * p := fun a b => (Nat.mul_lt_mul_right hp).symm
 have h1 := k1 a b
 have h2 := k1 b a
 have h3 := k1 0 a
 have h4 := k1 0 b
 rw [Nat.zero_mul] at h3 h4
 generalize a * p = a' at *
 generalize b * p = b' at *
 cases s <;> cases t <;> simp only [sg] <;> simp <;> omega
theorem sg_mono (s t : Bool) {r u : Nat} : (sg s (rungVal r) < sg t (rungVal u) ↔ sg s r < sg t u) := by
 have h1 := @rungVal_lt_iff r u
 have h2 := @rungVal_lt_iff u r
 have h3 := @rungVal_lt_iff 0 r
 have h4 := @rungVal_lt_iff 0 u
 have h0 : rungVal 0 = 0 := rfl
 rw [h0] at h3 h4
 generalize rungVal r = r' at *
 generalize rungVal u = u' at *
 cases s <;> cases t <;> simp only [sg] <;> simp <;> omega
theorem srung_eq (x : Nat) : srung x = sg (x / 2 ^ 63 % 2 == 1) (x % 2 ^ 63) := rfl
theorem signed_eq (s : Bool) (m u : Nat) : signed s m u = sg s (m * 2 ^ u) := by
 unfold signed sg
 rw [Nat.shiftLeft_eq]
theorem order_eq {x y : Nat} (hx : isNum x) (hy : isNum y) : double.order x y = some (compare (srung x) (srung y)) := by
 unfold isNum at hx hy
 unfold Format.order
 rw [srung_eq, srung_eq]
 by_cases ix : x % 2 ^ 63 = 2047 * 2 ^ 52
 ·
  rw [read_inf ix]
  by_cases iy : y % 2 ^ 63 = 2047 * 2 ^ 52
  ·
   rw [read_inf iy, ix, iy]
   cases (x / 2 ^ 63 % 2 == 1) <;> cases (y / 2 ^ 63 % 2 == 1) <;> rfl
  ·
   obtain ⟨m, e, hr, _⟩ := read_num (x := y) (by omega)
   rw [hr, ix]
   have hlt : y % 2 ^ 63 < 2047 * 2 ^ 52 := by omega
   generalize y % 2 ^ 63 = v at hlt
   cases (x / 2 ^ 63 % 2 == 1) <;> cases (y / 2 ^ 63 % 2 == 1) <;> first | exact congrArg some (cmp_lt (by simp only [sg]; simp; omega)).symm | exact congrArg some (cmp_gt (by simp only [sg]; simp; omega)).symm
 ·
  by_cases iy : y % 2 ^ 63 = 2047 * 2 ^ 52
  ·
   obtain ⟨m, e, hr, _⟩ := read_num (x := x) (by omega)
   rw [hr, read_inf iy, iy]
   have hlt : x % 2 ^ 63 < 2047 * 2 ^ 52 := by omega
   generalize x % 2 ^ 63 = v at hlt
   cases (x / 2 ^ 63 % 2 == 1) <;> cases (y / 2 ^ 63 % 2 == 1) <;> first | exact congrArg some (cmp_lt (by simp only [sg]; simp; omega)).symm | exact congrArg some (cmp_gt (by simp only [sg]; simp; omega)).symm
  ·
   obtain ⟨m, e, hr, hm⟩ := read_num (x := x) (by omega)
   obtain ⟨n, q, hs, hn⟩ := read_num (x := y) (by omega)
   rw [hr, hs]
   simp only [Datum.order]
   rw [signed_eq, signed_eq]
   refine congrArg some (compare_congr ?_ ?_)
   ·
    rw [← sg_mono (r := x % 2 ^ 63) (u := y % 2 ^ 63), ← hm, ← hn]
    rcases Nat.le_total e q with h | h
    ·
     have e1 : min (double.leastPlace + (e : Int)) (double.leastPlace + (q : Int)) = double.leastPlace + e := by omega
     rw [e1]
     have e2 : (double.leastPlace + (e : Int) - (double.leastPlace + e)).toNat = 0 := by omega
     have e3 : (double.leastPlace + (q : Int) - (double.leastPlace + e)).toNat = q - e := by omega
     rw [e2, e3]
     have hq : q = (q - e) + e := by omega
     rw [sg_scale _ _ _ _ (2 ^ e) (Nat.two_pow_pos _)]
     rw [Nat.mul_assoc, Nat.mul_assoc, ← Nat.pow_add, ← Nat.pow_add, Nat.zero_add, ← hq]
    ·
     have e1 : min (double.leastPlace + (e : Int)) (double.leastPlace + (q : Int)) = double.leastPlace + q := by omega
     rw [e1]
     have e2 : (double.leastPlace + (e : Int) - (double.leastPlace + q)).toNat = e - q := by omega
     have e3 : (double.leastPlace + (q : Int) - (double.leastPlace + q)).toNat = 0 := by omega
     rw [e2, e3]
     have hq : e = (e - q) + q := by omega
     rw [sg_scale _ _ _ _ (2 ^ q) (Nat.two_pow_pos _)]
     rw [Nat.mul_assoc, Nat.mul_assoc, ← Nat.pow_add, ← Nat.pow_add, Nat.zero_add, ← hq]
   ·
    rw [← sg_mono (r := y % 2 ^ 63) (u := x % 2 ^ 63), ← hm, ← hn]
    rcases Nat.le_total e q with h | h
    ·
     have e1 : min (double.leastPlace + (e : Int)) (double.leastPlace + (q : Int)) = double.leastPlace + e := by omega
     rw [e1]
     have e2 : (double.leastPlace + (e : Int) - (double.leastPlace + e)).toNat = 0 := by omega
     have e3 : (double.leastPlace + (q : Int) - (double.leastPlace + e)).toNat = q - e := by omega
     rw [e2, e3]
     have hq : q = (q - e) + e := by omega
     rw [sg_scale _ _ _ _ (2 ^ e) (Nat.two_pow_pos _)]
     rw [Nat.mul_assoc, Nat.mul_assoc, ← Nat.pow_add, ← Nat.pow_add, Nat.zero_add, ← hq]
    ·
     have e1 : min (double.leastPlace + (e : Int)) (double.leastPlace + (q : Int)) = double.leastPlace + q := by omega
     rw [e1]
     have e2 : (double.leastPlace + (e : Int) - (double.leastPlace + q)).toNat = e - q := by omega
     have e3 : (double.leastPlace + (q : Int) - (double.leastPlace + q)).toNat = 0 := by omega
     rw [e2, e3]
     have hq : e = (e - q) + q := by omega
     rw [sg_scale _ _ _ _ (2 ^ q) (Nat.two_pow_pos _)]
     rw [Nat.mul_assoc, Nat.mul_assoc, ← Nat.pow_add, ← Nat.pow_add, Nat.zero_add, ← hq]
theorem order_iff {x y : Nat} (c : Ordering) : (FloatKind.f64.format.order x y == some c) = true ↔ isNum x ∧ isNum y ∧ compare (srung x) (srung y) = c := by
 show (double.order x y == some c) = true ↔ _
 by_cases hx : isNum x
 ·
  by_cases hy : isNum y
  ·
   rw [order_eq hx hy]; simp [hx, hy]
  ·
   rw [order_nan_right hy]; simp [hy]
 ·
  rw [order_nan_left hx]; simp [hx]
theorem eq_iff {x y : Nat} : (FloatKind.f64.format.order x y == some Ordering.eq) = true ↔ isNum x ∧ isNum y ∧ srung x = srung y := by rw [order_iff, cmp_eq_iff]
theorem lt_iff {x y : Nat} : (FloatKind.f64.format.order x y == some Ordering.lt) = true ↔ isNum x ∧ isNum y ∧ srung x < srung y := by rw [order_iff, cmp_lt_iff]
theorem gt_iff {x y : Nat} : (FloatKind.f64.format.order x y == some Ordering.gt) = true ↔ isNum x ∧ isNum y ∧ srung y < srung x := by rw [order_iff, cmp_gt_iff]
end Go.Proofs.YtjlnfnfdibfniaaDoor.Pl
namespace Go.Proofs.YtjlnfnfdibfniaaDoor.Pl
def INF : Nat := 9218868437227405312
def mid (K : Nat) : Nat := rungVal K + rungVal (K + 1)
structure IsNear (N D K : Nat) : Prop where
 le : K ≤ INF
 lo : 0 < K → mid (K - 1) * D < 2 * N ∨ mid (K - 1) * D = 2 * N ∧ K % 2 = 0
 hi : K < INF → 2 * N < mid K * D ∨ 2 * N = mid K * D ∧ K % 2 = 0
theorem mid_lt {a b : Nat} (h : a < b) : mid a < mid b := by
 unfold mid
 have := rungVal_lt h
 have := rungVal_lt (show a + 1 < b + 1 by omega)
 omega
theorem mid_le {a b : Nat} (h : a ≤ b) : mid a ≤ mid b := by
 rcases Nat.lt_or_ge a b with h1 | h1
 ·
  exact Nat.le_of_lt (mid_lt h1)
 ·
  rw [show a = b by omega]; exact Nat.le_refl _
theorem IsNear.mono {N D N' D' K K' : Nat} (hD : 0 < D) (hD' : 0 < D') (h : IsNear N D K) (h' : IsNear N' D' K') (hle : N * D' ≤ N' * D) : K ≤ K' := by
 rcases Nat.lt_or_ge K' K with hlt | hge
 ·
  exfalso
  have h1 := h.lo (by omega)
  have h2 := h'.hi (by have := h.le; omega)
  have h3 : mid (K - 1) * D ≤ 2 * N := by omega
  have h4 : 2 * N' ≤ mid K' * D' := by omega
  have h5 : mid K' ≤ mid (K - 1) := mid_le (by omega)
  have a1 : mid (K - 1) * D * D' ≤ 2 * N * D' := Nat.mul_le_mul_right _ h3
  have a2 : 2 * N' * D ≤ mid K' * D' * D := Nat.mul_le_mul_right _ h4
  have a3 : mid K' * (D * D') ≤ mid (K - 1) * (D * D') := Nat.mul_le_mul_right _ h5
  have hp : 0 < D * D' := Nat.mul_pos hD hD'
  have e1 : mid (K - 1) * D * D' = mid (K - 1) * (D * D') := Nat.mul_assoc ..
  have e2 : mid K' * D' * D = mid K' * (D * D') := by rw [Nat.mul_assoc, Nat.mul_comm D']
  have e3 : 2 * N * D' = 2 * (N * D') := Nat.mul_assoc ..
  have e4 : 2 * N' * D = 2 * (N' * D) := Nat.mul_assoc ..
  have h6 : mid K' * (D * D') = mid (K - 1) * (D * D') := by omega
  have h7 : mid K' = mid (K - 1) := Nat.eq_of_mul_eq_mul_right hp h6
  have h8 : K' = K - 1 := by
   rcases Nat.lt_trichotomy K' (K - 1) with c | c | c
   ·
    have := mid_lt c; omega
   ·
    exact c
   ·
    omega
  have b1 : ¬ mid (K - 1) * D < 2 * N := by
   intro c
   have := (Nat.mul_lt_mul_right hD').2 c
   omega
  have b2 : ¬ 2 * N' < mid K' * D' := by
   intro c
   have := (Nat.mul_lt_mul_right hD).2 c
   omega
  rcases h1 with c | ⟨_, c⟩
  ·
   exact b1 c
  ·
   rcases h2 with g | ⟨_, g⟩
   ·
    exact b2 g
   ·
    omega
 ·
  exact hge
theorem IsNear.unique {N D N' D' K K' : Nat} (hD : 0 < D) (hD' : 0 < D') (h : IsNear N D K) (h' : IsNear N' D' K') (he : N * D' = N' * D) : K = K' :=
 Nat.le_antisymm (h.mono hD hD' h' (Nat.le_of_eq he)) (h'.mono hD' hD h (Nat.le_of_eq he.symm))
theorem near_of {N D K r : Nat} (h0 : rungVal K * D ≤ N) (h1 : N < rungVal (K + 1) * D) (hr : r = 0 ∧ (2 * N < mid K * D ∨ 2 * N = mid K * D ∧ K % 2 = 0) ∨ r = 1 ∧ (mid K * D < 2 * N ∨ mid K * D = 2 * N ∧ K % 2 = 1)) :
  IsNear N D (min (K + r) INF) := by
 have hD : 0 < D := by
  rcases Nat.eq_zero_or_pos D with h | h
  ·
   rw [h] at h1; omega
  ·
   exact h
 have low : ∀ J, 0 < J → J ≤ K → mid (J - 1) * D < 2 * N := by
  intro J hJ hJK
  have h2 : mid (J - 1) < 2 * rungVal K := by
   unfold mid
   have a := rungVal_lt (show J - 1 < J by omega)
   have b : rungVal J ≤ rungVal K := by
    rcases Nat.lt_or_ge J K with c | c
    ·
     exact Nat.le_of_lt (rungVal_lt c)
    ·
     rw [show J = K by omega]; exact Nat.le_refl _
   rw [show J - 1 + 1 = J by omega]; omega
  have h3 := (Nat.mul_lt_mul_right hD).2 h2
  rw [Nat.mul_assoc] at h3
  omega
 rcases hr with ⟨rfl, hr⟩ | ⟨rfl, hr⟩
 ·
  rcases Nat.lt_or_ge INF K with c | c
  ·
   rw [Nat.min_eq_right (by omega)]
   exact ⟨Nat.le_refl _, fun h => .inl (low INF h (by omega)), fun h => by omega⟩
  ·
   rw [Nat.min_eq_left (by omega)]
   exact ⟨by omega, fun h => .inl (low (K + 0) h (by omega)), fun _ => hr⟩
 ·
  rcases Nat.lt_or_ge K INF with c | c
  ·
   rw [Nat.min_eq_left (by omega)]
   refine ⟨by omega, fun _ => ?_, fun _ => .inl ?_⟩
   ·
    rw [Nat.add_sub_cancel]
    rcases hr with g | ⟨g, g'⟩
    ·
     exact .inl g
    ·
     exact .inr ⟨g, by omega⟩
   ·
    have h2 : 2 * rungVal (K + 1) < mid (K + 1) := by
     unfold mid
     have := rungVal_succ (K + 1)
     omega
    have h3 := (Nat.mul_lt_mul_right hD).2 h2
    rw [Nat.mul_assoc] at h3
    omega
  ·
   rw [Nat.min_eq_right (by omega)]
   exact ⟨Nat.le_refl _, fun h => .inl (low INF h c), fun h => by omega⟩
theorem rung_of {m E : Nat} (h : E = 0 ∨ 4503599627370496 ≤ m) (hm : m < 9007199254740992) : rungVal (E * 4503599627370496 + m) = m * 2 ^ E := by
 have e52 : (2 : Nat) ^ 52 = 4503599627370496 := by decide
 unfold rungVal
 rw [e52]
 by_cases h1 : m < 4503599627370496
 ·
  have : E = 0 := by omega
  subst this
  rw [if_pos (by omega)]; simp
 ·
  rw [if_neg (by omega)]
  have e1 : (E * 4503599627370496 + m) / 4503599627370496 - 1 = E := by omega
  have e2 : 4503599627370496 + (E * 4503599627370496 + m) % 4503599627370496 = m := by omega
  rw [e1, e2]
theorem rung_next {m E : Nat} (h : E = 0 ∨ 4503599627370496 ≤ m) (hm : m < 9007199254740992) : rungVal (E * 4503599627370496 + m + 1) = (m + 1) * 2 ^ E := by
 by_cases h1 : m + 1 < 9007199254740992
 ·
  have := rung_of (m := m + 1) (E := E) (by omega) h1
  rw [Nat.add_assoc]; exact this
 ·
  have : m + 1 = 9007199254740992 := by omega
  have h2 := rung_of (m := 4503599627370496) (E := E + 1) (by omega) (by omega)
  rw [show E * 4503599627370496 + m + 1 = (E + 1) * 4503599627370496 + 4503599627370496 by omega, h2, this, Nat.pow_succ]
  omega
def DecNear (dig : Nat) (x : Int) (K : Nat) : Prop := IsNear (dig * 10 ^ x.toNat * 2 ^ 1074) (10 ^ (-x).toNat) K
theorem DecNear.unique {dig : Nat} {x : Int} {K K' : Nat} (h : DecNear dig x K) (h' : DecNear dig x K') : K = K' :=
 IsNear.unique (Nat.pow_pos (by decide)) (Nat.pow_pos (by decide)) h h' rfl
theorem pow_join {a b c : Nat} (h : a + b = c) : 2 ^ c = 2 ^ a * 2 ^ b := by rw [← h, Nat.pow_add]
theorem mid_zero : mid 0 = 1 := by decide
theorem near_zero {N D : Nat} (h : 2 * N < D) : IsNear N D 0 := ⟨by decide, fun h => by omega, fun _ => .inl (by rw [mid_zero]; omega)⟩
theorem near_none {D : Nat} (h : 0 < D) : IsNear 0 D 0 := near_zero (by omega)
theorem pow_two {a b c d : Nat} (h : a + b = c + d) : 2 ^ a * 2 ^ b = 2 ^ c * 2 ^ d := by rw [← Nat.pow_add, ← Nat.pow_add, h]
theorem rung_inf : rungVal INF = 2 ^ 1024 * 2 ^ 1074 := by
 have := rung_of (m := 4503599627370496) (E := 2046) (by omega) (by omega)
 rw [show INF = 2046 * 4503599627370496 + 4503599627370496 by decide, this, show (4503599627370496 : Nat) = 2 ^ 52 by decide]
 exact pow_two (a := 52) (b := 2046) (c := 1024) (d := 1074) rfl
theorem near_inf {N D C : Nat} (e : rungVal INF = C) (hD : 0 < D) (h : C * D ≤ N) : IsNear N D INF := by
 refine ⟨Nat.le_refl _, fun _ => .inl ?_, fun h => by omega⟩
 have h1 : mid (INF - 1) < 2 * C := by
  rw [← e]
  unfold mid
  have := rungVal_succ (INF - 1)
  have e2 : INF - 1 + 1 = INF := by decide
  rw [e2] at this ⊢
  omega
 have h2 := (Nat.mul_lt_mul_right hD).2 h1
 rw [Nat.mul_assoc] at h2
 omega
theorem zero_aux {dig A B P T : Nat} (h3 : 2 * T ≤ B) (hT : 0 < T) (hd : dig < P) (h2 : P * B ≤ A) : 2 * (dig * T) < A := by
 have h4 : dig * (2 * T) ≤ dig * B := Nat.mul_le_mul_left _ h3
 have h5 : dig * B < P * B := Nat.mul_lt_mul_of_pos_right hd (by omega)
 rw [← Nat.mul_assoc, Nat.mul_comm dig 2, Nat.mul_assoc] at h4
 omega
theorem inf_aux {dig X A B P T V C : Nat} (h3 : V ≤ B) (h2 : B * A ≤ P * X) (hd : P ≤ dig) (hC : C = V * T) : C * A ≤ dig * X * T := by
 have h4 : P * X ≤ dig * X := Nat.mul_le_mul_right _ hd
 have h5 : V * A ≤ B * A := Nat.mul_le_mul_right _ h3
 have h7 := Nat.mul_le_mul_right T (Nat.le_trans h5 (Nat.le_trans h2 h4))
 refine Nat.le_trans (Nat.le_of_eq ?_) h7
 rw [hC, Nat.mul_assoc, Nat.mul_assoc, Nat.mul_comm T A]
theorem none_aux (A T : Nat) : 0 * A * T = 0 := by rw [Nat.zero_mul, Nat.zero_mul]
theorem dec_zero_small {dig n : Nat} {x : Int} (hd : dig < 10 ^ n) (h : (n : Int) + x ≤ -330) : DecNear dig x 0 := by
 unfold DecNear
 have hx : x.toNat = 0 := by omega
 rw [hx, Nat.pow_zero, Nat.mul_one]
 refine near_zero ?_
 have h1 : n + 330 ≤ (-x).toNat := by omega
 have h2 : (10 : Nat) ^ (n + 330) ≤ 10 ^ (-x).toNat := Nat.pow_le_pow_right (by decide) h1
 rw [Nat.pow_add] at h2
 exact zero_aux (by decide +kernel) (Nat.two_pow_pos 1074) hd h2
theorem dec_inf_great {dig n : Nat} {x : Int} (hd : 10 ^ n ≤ dig) (h : 309 ≤ (n : Int) + x) : DecNear dig x INF := by
 unfold DecNear
 have h1 : 309 + (-x).toNat ≤ n + x.toNat := by omega
 have h2 : (10 : Nat) ^ (309 + (-x).toNat) ≤ 10 ^ (n + x.toNat) := Nat.pow_le_pow_right (by decide) h1
 rw [Nat.pow_add, Nat.pow_add] at h2
 have h3 : 2 ^ 1024 ≤ 10 ^ 309 := by decide +kernel
 have hr := rung_inf
 generalize 2 ^ 1024 = V at *
 generalize 2 ^ 1074 = T at *
 exact near_inf hr (Nat.pow_pos (by decide)) (inf_aux h3 h2 hd rfl)
end Go.Proofs.YtjlnfnfdibfniaaDoor.Pl
namespace Go.Proofs.YtjlnfnfdibfniaaDoor.Pl
structure Sc (T K p q r s b a : Nat) : Prop where
 hT : 0 < T
 hs : 0 < s
 ha : 0 < a
 hb : 0 < b
 hbr : b < r
 hv : r * 10 ^ q * T = rungVal K * 10 ^ p * s
 hu : 2 * (r + a) * 10 ^ q * T = mid K * 10 ^ p * s
 hl : mid (K - 1) * 10 ^ p * s + 2 * b * 10 ^ q * T = 2 * r * 10 ^ q * T
theorem Sc.more {T K p q r s b a : Nat} (h : Sc T K p q r s b a) : Sc T K p (q + 1) r (s * 10) b a := by
 obtain ⟨h1, h2, h3, h4, h5, h6, h7, h8⟩ := h
 refine ⟨h1, by omega, h3, h4, h5, ?_, ?_, ?_⟩
 ·
  rw [Nat.pow_succ]; generalize 10 ^ q = Q at *; generalize 10 ^ p = P at *; grind
 ·
  rw [Nat.pow_succ]; generalize 10 ^ q = Q at *; generalize 10 ^ p = P at *; grind
 ·
  rw [Nat.pow_succ]; generalize 10 ^ q = Q at *; generalize 10 ^ p = P at *; grind
theorem Sc.less {T K p q r s b a : Nat} (h : Sc T K p q r s b a) : Sc T K (p + 1) q (r * 10) s (b * 10) (a * 10) := by
 obtain ⟨h1, h2, h3, h4, h5, h6, h7, h8⟩ := h
 refine ⟨h1, h2, by omega, by omega, by omega, ?_, ?_, ?_⟩
 ·
  rw [Nat.pow_succ]; generalize 10 ^ q = Q at *; generalize 10 ^ p = P at *; grind
 ·
  rw [Nat.pow_succ]; generalize 10 ^ q = Q at *; generalize 10 ^ p = P at *; grind
 ·
  rw [Nat.pow_succ]; generalize 10 ^ q = Q at *; generalize 10 ^ p = P at *; grind
theorem mul_lt_iff {a b c : Nat} (hc : 0 < c) : a * c < b * c ↔ a < b := ⟨fun h => Nat.lt_of_mul_lt_mul_right h, fun h => Nat.mul_lt_mul_of_pos_right h hc⟩
theorem mul_eq_iff {a b c : Nat} (hc : 0 < c) : a * c = b * c ↔ a = b := ⟨fun h => Nat.eq_of_mul_eq_mul_right hc h, fun h => by rw [h]⟩
theorem Sc.lo_iff {T K p q r s b a : Nat} (h : Sc T K p q r s b a) (J N A B : Nat) (hA : 0 < A) (hAB : 10 ^ q * B = 10 ^ p * 10 ^ J * A) :
  (mid (K - 1) * B < 2 * (N * A * T) ↔ 10 ^ J * r < N * s + 10 ^ J * b) ∧ (mid (K - 1) * B = 2 * (N * A * T) ↔ 10 ^ J * r = N * s + 10 ^ J * b) := by
 have hQ : 0 < 10 ^ q := Nat.pow_pos (by decide)
 have hl := h.hl
 have hC : 0 < s * 10 ^ q := Nat.mul_pos h.hs hQ
 have hD : 0 < 2 * A * 10 ^ q * T := Nat.mul_pos (Nat.mul_pos (by omega) hQ) h.hT
 have e1 : 2 * (N * A * T) * (s * 10 ^ q) = (N * s) * (2 * A * 10 ^ q * T) := by
  generalize 10 ^ q = Q; grind
 have e2 : mid (K - 1) * B * (s * 10 ^ q) + (10 ^ J * b) * (2 * A * 10 ^ q * T) = (10 ^ J * r) * (2 * A * 10 ^ q * T) := by
  have : mid (K - 1) * B * (s * 10 ^ q) = mid (K - 1) * s * (10 ^ q * B) := by generalize 10 ^ q = Q; grind
  rw [this, hAB]
  generalize 10 ^ q = Q at *; generalize 10 ^ p = P at *; generalize 10 ^ J = X at *
  generalize mid (K - 1) = m at *
  grind
 rw [← mul_lt_iff hC, e1, ← mul_eq_iff hC, e1]
 have e3 : (N * s + 10 ^ J * b) * (2 * A * 10 ^ q * T) = N * s * (2 * A * 10 ^ q * T) + 10 ^ J * b * (2 * A * 10 ^ q * T) := Nat.add_mul ..
 rw [← mul_lt_iff (a := 10 ^ J * r) hD, ← mul_eq_iff (a := 10 ^ J * r) hD, e3, ← e2]
 constructor
 ·
  constructor <;> intro h <;> omega
 ·
  constructor <;> intro h <;> omega
theorem Sc.hi_iff {T K p q r s b a : Nat} (h : Sc T K p q r s b a) (J N A B : Nat) (hA : 0 < A) (hAB : 10 ^ q * B = 10 ^ p * 10 ^ J * A) :
  (2 * (N * A * T) < mid K * B ↔ N * s < 10 ^ J * (r + a)) ∧ (2 * (N * A * T) = mid K * B ↔ N * s = 10 ^ J * (r + a)) := by
 have hQ : 0 < 10 ^ q := Nat.pow_pos (by decide)
 have hu := h.hu
 have hC : 0 < s * 10 ^ q := Nat.mul_pos h.hs hQ
 have hD : 0 < 2 * A * 10 ^ q * T := Nat.mul_pos (Nat.mul_pos (by omega) hQ) h.hT
 have e1 : 2 * (N * A * T) * (s * 10 ^ q) = (N * s) * (2 * A * 10 ^ q * T) := by
  generalize 10 ^ q = Q; grind
 have e2 : mid K * B * (s * 10 ^ q) = (10 ^ J * (r + a)) * (2 * A * 10 ^ q * T) := by
  have : mid K * B * (s * 10 ^ q) = mid K * s * (10 ^ q * B) := by generalize 10 ^ q = Q; grind
  rw [this, hAB]
  generalize 10 ^ q = Q at *; generalize 10 ^ p = P at *; generalize 10 ^ J = X at *
  generalize mid K = m at *
  grind
 rw [← mul_lt_iff hC, e1, e2, mul_lt_iff hD, ← mul_eq_iff hC, e1, e2, mul_eq_iff hD]
 exact ⟨Iff.rfl, Iff.rfl⟩
def RdK (K : Nat) (ev : Bool) (J N r s b a : Nat) : Prop := (10 ^ J * r < N * s + 10 ^ J * b ∨ 10 ^ J * r = N * s + 10 ^ J * b ∧ ev = true) ∧ (N * s < 10 ^ J * (r + a) ∨ N * s = 10 ^ J * (r + a) ∧ ev = true) ∧ 0 < K
theorem Sc.near_iff {T K p q r s b a : Nat} (h : Sc T K p q r s b a) (hK0 : 0 < K) (hK : K < INF) (J N A B : Nat) (hA : 0 < A) (hAB : 10 ^ q * B = 10 ^ p * 10 ^ J * A) (ev : Bool) (hev : ev = decide (K % 2 = 0)) :
  IsNear (N * A * T) B K ↔ RdK K ev J N r s b a := by
 obtain ⟨l1, l2⟩ := h.lo_iff J N A B hA hAB
 obtain ⟨u1, u2⟩ := h.hi_iff J N A B hA hAB
 have he : ev = true ↔ K % 2 = 0 := by rw [hev, decide_eq_true_eq]
 unfold RdK
 constructor
 ·
  intro g
  refine ⟨?_, ?_, hK0⟩
  ·
   rcases g.lo hK0 with g1 | ⟨g1, g2⟩
   ·
    exact .inl (l1.1 g1)
   ·
    exact .inr ⟨l2.1 g1, he.2 g2⟩
  ·
   rcases g.hi hK with g1 | ⟨g1, g2⟩
   ·
    exact .inl (u1.1 g1)
   ·
    exact .inr ⟨u2.1 g1, he.2 g2⟩
 ·
  rintro ⟨g1, g2, _⟩
  refine ⟨Nat.le_of_lt hK, fun _ => ?_, fun _ => ?_⟩
  ·
   rcases g1 with g1 | ⟨g1, g3⟩
   ·
    exact .inl (l1.2 g1)
   ·
    exact .inr ⟨l2.2 g1, he.1 g3⟩
  ·
   rcases g2 with g1 | ⟨g1, g3⟩
   ·
    exact .inl (u1.2 g1)
   ·
    exact .inr ⟨u2.2 g1, he.1 g3⟩
theorem dec_iff {K p q r s b a : Nat} (h : Sc (2 ^ 1074) K p q r s b a) (hK0 : 0 < K) (hK : K < INF) (J N : Nat) (ev : Bool) (hev : ev = decide (K % 2 = 0)) :
  DecNear N ((q : Int) - p - J) K ↔ RdK K ev J N r s b a := by
 unfold DecNear
 refine h.near_iff hK0 hK J N _ _ (Nat.pow_pos (by decide)) ?_ ev hev
 rw [← Nat.pow_add, ← Nat.pow_add, ← Nat.pow_add]
 congr 1
 omega
theorem start_sc (T K m E : Nat) (hT : 0 < T) (hK0 : 0 < K) (hm : m < 9007199254740992) (hEm : E = 0 ∨ 4503599627370496 ≤ m) (hKE : K = E * 4503599627370496 + m) (u w : Nat) (hw : 2 ^ u * T = 2 ^ E * 2 ^ w) :
  Sc T K 0 0 ((if m = 4503599627370496 ∧ 0 < E then 4 * m else 2 * m) * 2 ^ u) ((if m = 4503599627370496 ∧ 0 < E then 4 else 2) * 2 ^ w) (1 * 2 ^ u) ((if m = 4503599627370496 ∧ 0 < E then 2 else 1) * 2 ^ u) := by
 have hu : 0 < 2 ^ u := Nat.two_pow_pos u
 have hw0 : 0 < 2 ^ w := Nat.two_pow_pos w
 have hm0 : 0 < m := by omega
 have r0 : rungVal K = m * 2 ^ E := by rw [hKE]; exact rung_of hEm hm
 have r1 : rungVal (K + 1) = (m + 1) * 2 ^ E := by rw [hKE]; exact rung_next hEm hm
 have hmid : mid K = (2 * m + 1) * 2 ^ E := by unfold mid; rw [r0, r1]; grind
 by_cases c : m = 4503599627370496 ∧ 0 < E
 ·
  rw [if_pos c, if_pos c, if_pos c]
  obtain ⟨c1, c2⟩ := c
  obtain ⟨F, rfl⟩ : ∃ F, E = F + 1 := ⟨E - 1, by omega⟩
  have rm : rungVal (K - 1) = 9007199254740991 * 2 ^ F := by
   have : K - 1 = F * 4503599627370496 + 9007199254740991 := by omega
   rw [this]; exact rung_of (.inr (by omega)) (by omega)
  have hlo : mid (K - 1) = (9007199254740991 + 2 * m) * 2 ^ F := by
   unfold mid
   rw [show K - 1 + 1 = K by omega, rm, r0, Nat.pow_succ]; grind
  rw [Nat.pow_succ] at r0 hmid hw
  refine ⟨hT, Nat.mul_pos (by decide) hw0, Nat.mul_pos (by decide) hu, Nat.mul_pos (by decide) hu, ?_, ?_, ?_, ?_⟩
  ·
   rw [Nat.mul_comm 1, Nat.mul_comm (4 * m)]; exact Nat.mul_lt_mul_of_pos_left (by omega) hu
  ·
   rw [r0]; generalize 2 ^ u = U at *; generalize 2 ^ w = W at *; generalize 2 ^ F = G at *; grind
  ·
   rw [hmid]; generalize 2 ^ u = U at *; generalize 2 ^ w = W at *; generalize 2 ^ F = G at *; grind
  ·
   rw [hlo, c1]; generalize 2 ^ u = U at *; generalize 2 ^ w = W at *; generalize 2 ^ F = G at *; grind
 ·
  rw [if_neg c, if_neg c, if_neg c]
  have rm : rungVal (K - 1) = (m - 1) * 2 ^ E := by
   have h1 : K - 1 = E * 4503599627370496 + (m - 1) := by omega
   rw [h1]
   exact rung_of (by omega) (by omega)
  have hlo : mid (K - 1) = (2 * m - 1) * 2 ^ E := by
   unfold mid
   rw [show K - 1 + 1 = K by omega, rm, r0]
   obtain ⟨j, rfl⟩ : ∃ j, m = j + 1 := ⟨m - 1, by omega⟩
   rw [Nat.add_sub_cancel, show 2 * (j + 1) - 1 = 2 * j + 1 by omega]; grind
  refine ⟨hT, Nat.mul_pos (by decide) hw0, Nat.mul_pos (by decide) hu, Nat.mul_pos (by decide) hu, ?_, ?_, ?_, ?_⟩
  ·
   rw [Nat.mul_comm 1, Nat.mul_comm (2 * m)]; exact Nat.mul_lt_mul_of_pos_left (by omega) hu
  ·
   rw [r0]; generalize 2 ^ u = U at *; generalize 2 ^ w = W at *; generalize 2 ^ E = G at *; grind
  ·
   rw [hmid]; generalize 2 ^ u = U at *; generalize 2 ^ w = W at *; generalize 2 ^ E = G at *; grind
  ·
   rw [hlo]
   obtain ⟨j, rfl⟩ : ∃ j, m = j + 1 := ⟨m - 1, by omega⟩
   rw [show 2 * (j + 1) - 1 = 2 * j + 1 by omega]
   generalize 2 ^ u = U at *; generalize 2 ^ w = W at *; generalize 2 ^ E = G at *; grind
end Go.Proofs.YtjlnfnfdibfniaaDoor.Pl
namespace Go.Proofs.YtjlnfnfdibfniaaDoor.Pl
open Go.RowKit
def guess (n : Int) : Option Int := (FloatKind.f64.format.mul (floatOfInt .f64 n) 4599094314157230187).bind fun a => (Hd.math_Ceil.f a).bind fun b => floatToIntVal .f64 b .i64
def okG (n : Int) : Bool := match guess n with | some g => decide (-400 ≤ g ∧ g ≤ 400) | none => false
theorem guess_all : ∀ n : Fin 2400, okG ((n.val : Int) - 1200) = true := by decide +kernel
theorem guess_ok (n : Int) (h0 : -1200 ≤ n) (h1 : n < 1200) : ∃ a b g, FloatKind.f64.format.mul (floatOfInt .f64 n) 4599094314157230187 = some a ∧ Hd.math_Ceil.f a = some b ∧ floatToIntVal .f64 b .i64 = some g ∧ -400 ≤ g ∧ g ≤ 400 := by
 have := guess_all ⟨(n + 1200).toNat, by omega⟩
 have e : (((n + 1200).toNat : Nat) : Int) - 1200 = n := by omega
 simp only [e] at this
 unfold okG guess at this
 cases h2 : FloatKind.f64.format.mul (floatOfInt .f64 n) 4599094314157230187 with
 | none => rw [h2] at this; cases this
 | some a =>
  rw [h2, Option.bind_some] at this
  cases h3 : Hd.math_Ceil.f a with
  | none => rw [h3] at this; cases this
  | some b =>
   rw [h3, Option.bind_some] at this
   cases h4 : floatToIntVal .f64 b .i64 with
   | none => rw [h4] at this; cases this
   | some g =>
    rw [h4] at this
    have := of_decide_eq_true this
    exact ⟨a, b, g, rfl, h3, h4, this⟩
end Go.Proofs.YtjlnfnfdibfniaaDoor.Pl
namespace Go.Proofs.YtjlnfnfdibfniaaDoor.Pl
open Hd
def isDig (c : UInt8) : Bool := decide (48 ≤ c.toNat) && decide (c.toNat ≤ 57)
def val (l : List UInt8) : Nat := l.foldl (fun v c => 10 * v + (c.toNat - 48)) 0
theorem snoc_ind {α : Type} {P : List α → Prop} (h0 : P []) (h1 : ∀ l c, P l → P (l ++ [c])) (l : List α) : P l := by
 have h : ∀ r : List α, P r.reverse := by
  intro r
  induction r with
  | nil => exact h0
  | cons a r ih => rw [List.reverse_cons]; exact h1 _ _ ih
 have := h l.reverse
 rwa [List.reverse_reverse] at this
theorem val_snoc (l : List UInt8) (c : UInt8) : val (l ++ [c]) = 10 * val l + (c.toNat - 48) := by simp [val]
theorem val_lt (l : List UInt8) (h : ∀ c ∈ l, isDig c = true) : val l < 10 ^ l.length := by
 induction l using snoc_ind with
 | h0 => simp [val]
 | h1 l c ih =>
  have h1 := ih (fun c hc => h c (List.mem_append_left _ hc))
  have h2 := h c (List.mem_append_right _ (List.mem_singleton.2 rfl))
  simp only [isDig, Bool.and_eq_true, decide_eq_true_eq] at h2
  rw [val_snoc, List.length_append, List.length_singleton, Nat.pow_succ]
  omega
theorem dig_of (n : Nat) (h : n < 10) : (UInt8.ofNat (48 + n)).toNat = 48 + n := by
 rw [UInt8.toNat_ofNat']; omega
theorem dec_spec (n : Nat) (h : n < 10 ^ 20) : val (dec n) = n ∧ (∀ c ∈ dec n, isDig c = true) ∧ dec n ≠ [] ∧ (0 < n → ∀ c r, dec n = c :: r → c.toNat ≠ 48) := by
 induction n using Nat.strongRecOn with
 | _ n ih =>
  rw [dec_step n h]
  have hd := dig_of (n % 10) (Nat.mod_lt _ (by decide))
  unfold dec0
  by_cases h0 : n / 10 = 0
  ·
   rw [if_pos h0]
   refine ⟨?_, ?_, by simp, ?_⟩
   ·
    rw [val_snoc, hd]; simp [val]; omega
   ·
    intro c hc
    rw [List.nil_append, List.mem_singleton] at hc
    subst hc
    simp only [isDig, hd, Bool.and_eq_true, decide_eq_true_eq]; omega
   ·
    intro hn c r hr
    rw [List.nil_append, List.cons.injEq] at hr
    rw [← hr.1, hd]; omega
  ·
   rw [if_neg h0]
   obtain ⟨i1, i2, i3, i4⟩ := ih (n / 10) (by omega) (by omega)
   refine ⟨?_, ?_, by simp, ?_⟩
   ·
    rw [val_snoc, hd, i1]; omega
   ·
    intro c hc
    rcases List.mem_append.1 hc with hc | hc
    ·
     exact i2 c hc
    ·
     rw [List.mem_singleton] at hc
     subst hc
     simp only [isDig, hd, Bool.and_eq_true, decide_eq_true_eq]; omega
   ·
    intro hn c r hr
    cases hq : dec (n / 10) with
    | nil => exact absurd hq i3
    | cons a b =>
     rw [hq] at hr
     rw [List.cons_append, List.cons.injEq] at hr
     rw [← hr.1]
     exact i4 (by omega) a b hq
theorem decF_short : ∀ (f n e : Nat), n < 10 ^ (e + 1) → (decF f n).length ≤ e + 1
 | 0, _, _, _ => by simp [decF]
 | f + 1, n, 0, h => by
  rw [decF, if_pos (by omega)]; simp
 | f + 1, n, e + 1, h => by
  have h1 : n / 10 < 10 ^ (e + 1) := by rw [Nat.pow_succ] at h; omega
  have := decF_short f (n / 10) e h1
  rw [decF]
  split <;> simp <;> omega
theorem dec_short (n : Nat) (h : n ≤ 9223372036854775808) : (dec n).length ≤ 19 := decF_short 20 n 18 (by omega)
end Go.Proofs.YtjlnfnfdibfniaaDoor.Pl
namespace Go.Proofs.YtjlnfnfdibfniaaDoor.Pl
def sgn (l : List UInt8) : Bool × List UInt8 :=
 match l with
 | [] => (false, [])
 | c :: r => if c.toNat = 45 then (true, r) else if c.toNat = 43 then (false, r) else (false, c :: r)
def allDig (l : List UInt8) : Bool := l.all isDig
def digs (l : List UInt8) : List UInt8 × List UInt8 := (l.take (l.takeWhile isDig).length, l.drop (l.takeWhile isDig).length)
def expOf (l : List UInt8) : Option Int :=
 if (sgn l).2 = [] ∨ allDig (sgn l).2 = false then none else some (if (sgn l).1 = true then -(val (sgn l).2 : Int) else (val (sgn l).2 : Int))
def tailOf (ds : List UInt8) (x : Int) (l : List UInt8) : Option (List UInt8 × Int) :=
 if ds = [] then none else
 match l with
 | [] => some (ds, x)
 | c :: r => if c.toNat = 101 ∨ c.toNat = 69 then (expOf r).map (fun e => (ds, x + e)) else none
def dspec (l : List UInt8) : Option (List UInt8 × Int) :=
 match (digs l).2 with
 | [] => tailOf (digs l).1 0 []
 | c :: r => if c.toNat = 46 then tailOf ((digs l).1 ++ (digs r).1) (-((digs r).1.length : Int)) (digs r).2 else tailOf (digs l).1 0 (c :: r)
def lowc (c : UInt8) : UInt8 := if 65 ≤ c.toNat ∧ c.toNat ≤ 90 then UInt8.ofNat (c.toNat + 32) else c
def signBit (n : Bool) : Nat := if n = true then 9223372036854775808 else 0
def ParseTo (l : List UInt8) (b : Nat) (e : Int) : Prop :=
 if 400 < l.length then b = 0 ∧ e = 8 else
 if (sgn l).2.map lowc = [110, 97, 110] then b = 9221120237041090561 ∧ e = 0 else
 if (sgn l).2.map lowc = [105, 110, 102] ∨ (sgn l).2.map lowc = [105, 110, 102, 105, 110, 105, 116, 121] then b = INF + signBit (sgn l).1 ∧ e = 0 else
 match dspec (sgn l).2 with
 | none => b = 0 ∧ e = 8
 | some (ds, x) => e = 0 ∧ ∃ K, DecNear (val ds) x K ∧ b = K + signBit (sgn l).1
theorem ParseTo.unique {l : List UInt8} {b b' : Nat} {e e' : Int} (h : ParseTo l b e) (h' : ParseTo l b' e') : b = b' ∧ e = e' := by
 unfold ParseTo at h h'
 split at h
 ·
  rename_i c
  rw [if_pos c] at h'
  omega
 ·
  rename_i c
  rw [if_neg c] at h'
  split at h
  ·
   rename_i c
   rw [if_pos c] at h'
   omega
  ·
   rename_i c
   rw [if_neg c] at h'
   split at h
   ·
    rename_i c
    rw [if_pos c] at h'
    omega
   ·
    rename_i c
    rw [if_neg c] at h'
    cases hd : dspec (sgn l).2 with
    | none => rw [hd] at h h'; simp only at h h'; omega
    | some p =>
     obtain ⟨ds, x⟩ := p
     rw [hd] at h h'
     simp only at h h'
     obtain ⟨h1, K, h2, h3⟩ := h
     obtain ⟨g1, J, g2, g3⟩ := h'
     have := h2.unique g2
     exact ⟨by rw [h3, g3, this], by rw [h1, g1]⟩
def Ext (x x' : Int) : Prop := x' = x ∨ 90000 ≤ x ∧ 90000 ≤ x' ∨ x ≤ -90000 ∧ x' ≤ -90000
theorem DecNear.zero {x : Int} {K : Nat} (h : DecNear 0 x K) : K = 0 := by
 have h2 : DecNear 0 x 0 := by
  show IsNear _ _ 0
  rw [none_aux]
  exact near_none (Nat.pow_pos (by decide))
 exact h.unique h2
theorem dec_none (x : Int) : DecNear 0 x 0 := by
 show IsNear _ _ 0
 rw [none_aux]
 exact near_none (Nat.pow_pos (by decide))
theorem DecNear.ext {v n : Nat} {x x' : Int} {K : Nat} (hv : v < 10 ^ n) (hn : n ≤ 1000) (h : DecNear v x' K) (he : Ext x x') : DecNear v x K := by
 rcases he with rfl | ⟨h1, h2⟩ | ⟨h1, h2⟩
 ·
  exact h
 ·
  rcases Nat.eq_zero_or_pos v with rfl | h0
  ·
   rw [h.zero]; exact dec_none x
  ·
   have g : 10 ^ 0 ≤ v := by rw [Nat.pow_zero]; exact h0
   have a := dec_inf_great (n := 0) (x := x) g (by omega)
   have b := dec_inf_great (n := 0) (x := x') g (by omega)
   rw [h.unique b]; exact a
 ·
  have a := dec_zero_small (x := x) hv (by omega)
  have b := dec_zero_small (x := x') hv (by omega)
  rw [h.unique b]; exact a
theorem dspec_digs {l ds : List UInt8} {x : Int} (h : dspec l = some (ds, x)) : (∀ c ∈ ds, isDig c = true) ∧ ds.length ≤ l.length ∧ ds ≠ [] := by
 have hw : ∀ l : List UInt8, (∀ c ∈ (digs l).1, isDig c = true) ∧ (digs l).1.length + (digs l).2.length = l.length := by
  intro l
  unfold digs
  constructor
  ·
   intro c hc
   have : l.take (l.takeWhile isDig).length = l.takeWhile isDig := by
    have h1 := List.takeWhile_append_dropWhile (p := isDig) (l := l)
    conv => lhs; rw [← h1]
    rw [h1]
    conv => lhs; arg 2; rw [← h1]
    rw [List.take_left']; rfl
   simp only [this] at hc
   have key : ∀ m : List UInt8, ∀ c ∈ m.takeWhile isDig, isDig c = true := by
    intro m
    induction m with
    | nil => intro c hc; cases hc
    | cons a m ih =>
     intro c hc
     rw [List.takeWhile_cons] at hc
     split at hc
     ·
      rename_i ha
      rcases List.mem_cons.1 hc with rfl | hc
      ·
       exact ha
      ·
       exact ih c hc
     ·
      cases hc
   exact key l c hc
  ·
   rw [← List.length_append, List.take_append_drop]
 have ht : ∀ ds' x' m, tailOf ds' x' m = some (ds, x) → ds = ds' ∧ ds' ≠ [] := by
  intro ds' x' m hm
  unfold tailOf at hm
  split at hm
  ·
   cases hm
  ·
   rename_i hne
   refine ⟨?_, hne⟩
   split at hm
   ·
    injection hm with hm; injection hm with h1 h2; exact h1.symm
   ·
    split at hm
    ·
     rename_i r _
     cases he : expOf r with
     | none => rw [he] at hm; cases hm
     | some e => rw [he] at hm; simp only [Option.map_some, Option.some.injEq, Prod.mk.injEq] at hm; exact hm.1.symm
    ·
     cases hm
 have h1 := hw l
 unfold dspec at h
 split at h
 ·
  obtain ⟨rfl, h3⟩ := ht _ _ _ h
  exact ⟨h1.1, by omega, h3⟩
 ·
  rename_i c r hcr
  rw [hcr, List.length_cons] at h1
  split at h
  ·
   obtain ⟨rfl, h3⟩ := ht _ _ _ h
   have h2 := hw r
   refine ⟨?_, by rw [List.length_append]; omega, h3⟩
   intro c hc
   rcases List.mem_append.1 hc with hc | hc
   ·
    exact h1.1 c hc
   ·
    exact h2.1 c hc
  ·
   obtain ⟨rfl, h3⟩ := ht _ _ _ h
   exact ⟨h1.1, by omega, h3⟩
end Go.Proofs.YtjlnfnfdibfniaaDoor.Pl
namespace Go.Proofs.YtjlnfnfdibfniaaDoor.Pl
open F Hd Go.RowKit Go.Proofs.YtjlnfnfdibfniaaDoorW.PrintWords Go.Proofs.YtjlnfnfdibfniaaDoorW.PrintMore
theorem few2 {n m : Nat} (h : n < 2 ^ m) (hm : m ≤ 31000000) : Few n := by
 refine few_of (s := m / 32 + 1) (Nat.lt_of_lt_of_le h ?_) (by omega)
 rw [show (4294967296 : Nat) = 2 ^ 32 by decide, ← Nat.pow_mul]
 exact Nat.pow_le_pow_right (by decide) (by omega)
theorem least (P : Nat → Prop) (n : Nat) (h : P n) : ∃ m, m ≤ n ∧ P m ∧ ∀ i, i < m → ¬ P i := by
 induction n using Nat.strongRecOn with
 | ind n ih =>
  by_cases c : ∃ i, i < n ∧ P i
  ·
   obtain ⟨i, hi, hP⟩ := c
   obtain ⟨m, h1, h2, h3⟩ := ih i hi hP
   exact ⟨m, by omega, h2, h3⟩
  ·
   exact ⟨n, Nat.le_refl _, h, fun i hi hP => c ⟨i, hi, hP⟩⟩
structure DigAt (K : Nat) (ev : Bool) (J p q r s b a : Nat) : Prop where
 sc : Sc (2 ^ 1074) K p q r s b a
 lt : r < s
 top : r + a < s ∨ r + a = s ∧ ev = false
 pos : 1 ≤ J
 no : ∀ i, 1 ≤ i → i < J → dn r s b i ev = false ∧ up r s a i ev = false
 yes : dn r s b J ev = true ∨ up r s a J ev = true
 first : r * 10 / s ≠ 0 ∨ J = 1 ∧ up r s a 1 ev = true
theorem tens1 (a : Nat) (h : Few (a * 10)) : Runs (fun k => num_nat_tens.f k (L a) 1) (L (a * 10)) := by
 have := tens_f a 1 (by rw [Nat.pow_one]; exact h) (by decide)
 rw [Nat.pow_one] at this
 exact this
theorem skip_loop (T K : Nat) (ev : Bool) (s q S : Nat) (hS : s < 2 ^ S) (hS2 : S ≤ 1000000) (hq : q ≤ 10000) : ∀ (g r b a p : Nat), s ≤ r * 10 ^ g → p + g ≤ 20000 → Sc T K p q r s b a → r < s → (r + a < s ∨ r + a = s ∧ ev = false) →
  ∃ r' b' a' p', Sc T K p' q r' s b' a' ∧ r' < s ∧ (r' + a' < s ∨ r' + a' = s ∧ ev = false) ∧ (r' * 10 / s ≠ 0 ∨ up r' s a' 1 ev = true) ∧ p' ≤ p + g ∧
   ∀ R, Runs (fun k => num_shortest.l0 k (L r') (L s) (L b') (L a') ev [] ((q : Int) - p')) R → Runs (fun k => num_shortest.l0 k (L r) (L s) (L b) (L a) ev [] ((q : Int) - p)) R := by
 intro g
 induction g with
 | zero => intro r b a p h1 _ _ h2 _; rw [Nat.pow_zero, Nat.mul_one] at h1; omega
 | succ g ih =>
  intro r b a p h1 hpg hsc hlt htop
  by_cases c : r * 10 / s ≠ 0 ∨ up r s a 1 ev = true
  ·
   exact ⟨r, b, a, p, hsc, hlt, htop, c, by omega, fun R h => h⟩
  ·
   have c1 : r * 10 / s = 0 := by
    rcases Nat.eq_zero_or_pos (r * 10 / s) with h | h
    ·
     exact h
    ·
     exact absurd (.inl (by omega)) c
   have c2 : up r s a 1 ev = false := by
    cases h : up r s a 1 ev with
    | false => rfl
    | true => exact absurd (.inr h) c
   have hlt2 : r * 10 < s := by
    rcases Nat.lt_or_ge (r * 10) s with h | h
    ·
     exact h
    ·
     have := Nat.div_pos h hsc.hs; omega
   have hrem : rem r s 1 = r * 10 := by unfold rem; rw [Nat.pow_one, Nat.mod_eq_of_lt hlt2]
   have htop2 : r * 10 + a * 10 < s ∨ r * 10 + a * 10 = s ∧ ev = false := by
    unfold up upB at c2
    rw [hrem, Nat.pow_one, Bool.or_eq_false_iff] at c2
    obtain ⟨d1, d2⟩ := c2
    have d1 := of_decide_eq_false d1
    rcases Nat.lt_or_ge (r * 10 + a * 10) s with h | h
    ·
     exact .inl h
    ·
     right
     have : s = r * 10 + a * 10 := by omega
     rw [decide_eq_true this] at d2
     exact ⟨this.symm, by simpa using d2⟩
   have hp1 : r * 10 ^ (g + 1) = r * 10 * 10 ^ g := by rw [Nat.pow_succ]; grind
   obtain ⟨r', b', a', p', g1, g2, g3, g4, g5, g6⟩ := ih (r * 10) (b * 10) (a * 10) (p + 1) (by rw [← hp1]; exact h1) (by omega) hsc.less hlt2 htop2
   refine ⟨r', b', a', p', g1, g2, g3, g4, by omega, fun R h => ?_⟩
   have h := g6 R h
   have hbr := hsc.hbr
   have hfs : ∀ z, z ≤ s * 4 → Few z := fun z hz => few2 (m := S + 2) (by rw [Nat.pow_add]; omega) (by omega)
   refine Runs.suc ?_
   simp only [num_shortest.l0]
   refine Runs.bind (tens1 r (hfs _ (by omega))) (Runs.bind (tens1 b (hfs _ (by omega))) (Runs.bind (tens1 a (hfs _ (by omega))) ?_))
   refine sh_inner s (b * 10) (a * 10) ev [] _ _ hsc.hs (r * 10) (hfs _ (by omega)) (r * 10 / s) (r * 10) 48 rfl (Nat.le_refl _) (by omega) ?_
   rw [c1, Nat.mod_eq_of_lt hlt2]
   refine sh_test (r * 10) s (b * 10) (a * 10) _ ev [] _ _ hlt2 (hfs _ (by omega)) ?_
   have e2 : upB (r * 10) s (a * 10) ev = false := by rw [← c2]; unfold up; rw [hrem, Nat.pow_one]
   rw [e2]
   refine sh_skip _ _ _ _ _ _ _ _ (by omega) (by omega) ?_
   rw [show (q : Int) - p - 1 = (q : Int) - ((p + 1 : Nat) : Int) by omega]
   exact h
theorem top_f (r a s : Nat) (ev : Bool) (hF : Few (r + a)) : Runs (fun k => num_Digits_1.f k (L r) (L a) (L s) ev) (upB r s a ev) := by
 simp only [num_Digits_1.f]
 have hr : Few r := few_mono (by omega) hF
 have ha : Few a := few_mono (by omega) hF
 refine Runs.bind (plus_f r a hr ha) (Runs.bind (against_f (r + a) s hF) ((Runs.pure _).of ?_))
 unfold upB
 rcases cmpN_cases (r + a) s with ⟨h1, h2⟩ | ⟨h1, h2⟩ | ⟨h1, h2⟩
 ·
  rw [h2, decide_eq_false (show ¬ s < r + a by omega), decide_eq_false (show ¬ s = r + a by omega)]; rfl
 ·
  rw [h2, decide_eq_false (show ¬ s < r + a by omega), decide_eq_true h1.symm]; simp
 ·
  rw [h2, decide_eq_true h1]; rfl
theorem top_loop (T K : Nat) (ev : Bool) (r b a p S : Nat) (neg : Bool) (hra : r + a < 2 ^ S) (hS2 : S ≤ 100000) (hp : p ≤ 10000) : ∀ (g s q : Nat), r + a < s * 10 ^ g → q + g ≤ 20000 → s < 2 ^ (S + 4) → Sc T K p q r s b a →
  ∃ s' q', Sc T K p q' r s' b a ∧ (r + a < s' ∨ r + a = s' ∧ ev = false) ∧ s' < 2 ^ (S + 4) ∧ q' ≤ q + g ∧
   ∀ R : List Int × Int, Runs (fun k => num_shortest.f k (L r) (L s') (L b) (L a) ev ((q' : Int) - p)) R → Runs (fun k => num_Digits.l0 k neg (L b) ((q : Int) - p) (L r) (L s) (L a) ev) (strOfNums R.1, R.2, neg) := by
 have hF : Few (r + a) := few2 hra (by omega)
 have stop : ∀ (s q : Nat), upB r s a ev = false → ∀ R : List Int × Int, Runs (fun k => num_shortest.f k (L r) (L s) (L b) (L a) ev ((q : Int) - p)) R → Runs (fun k => num_Digits.l0 k neg (L b) ((q : Int) - p) (L r) (L s) (L a) ev) (strOfNums R.1, R.2, neg) := by
  intro s q hu R h
  have ht := top_f r a s ev hF
  rw [hu] at ht
  refine Runs.suc ?_
  simp only [num_Digits.l0]
  exact Runs.bind ht (Runs.no Bool.false_ne_true (Runs.bind h (Runs.pure _)))
 have nt : ∀ s, upB r s a ev = false → r + a < s ∨ r + a = s ∧ ev = false := by
  intro s hu
  unfold upB at hu
  rw [Bool.or_eq_false_iff] at hu
  obtain ⟨d1, d2⟩ := hu
  have d1 := of_decide_eq_false d1
  rcases Nat.lt_or_ge (r + a) s with h | h
  ·
   exact .inl h
  ·
   right
   have : s = r + a := by omega
   rw [decide_eq_true this] at d2
   exact ⟨this.symm, by simpa using d2⟩
 intro g
 induction g with
 | zero =>
  intro s q h1 _ h2 hsc
  rw [Nat.pow_zero, Nat.mul_one] at h1
  have hu : upB r s a ev = false := by
   unfold upB
   rw [decide_eq_false (show ¬ s < r + a by omega), decide_eq_false (show ¬ s = r + a by omega)]; rfl
  exact ⟨s, q, hsc, nt s hu, h2, by omega, stop s q hu⟩
 | succ g ih =>
  intro s q h1 hqg h2 hsc
  cases hu : upB r s a ev with
  | false => exact ⟨s, q, hsc, nt s hu, h2, by omega, stop s q hu⟩
  | true =>
   have hle : s ≤ r + a := by
    unfold upB at hu
    rw [Bool.or_eq_true, decide_eq_true_eq, Bool.and_eq_true, decide_eq_true_eq] at hu
    omega
   have hp1 : s * 10 ^ (g + 1) = s * 10 * 10 ^ g := by rw [Nat.pow_succ]; grind
   have hs10 : s * 10 < 2 ^ (S + 4) := by rw [Nat.pow_add]; omega
   obtain ⟨s', q', g1, g2, g3, g4, g5⟩ := ih (s * 10) (q + 1) (by rw [← hp1]; exact h1) (by omega) hs10 hsc.more
   refine ⟨s', q', g1, g2, g3, by omega, fun R h => ?_⟩
   have h := g5 R h
   have ht := top_f r a s ev hF
   rw [hu] at ht
   refine Runs.suc ?_
   simp only [num_Digits.l0]
   refine Runs.bind ht (Runs.yes rfl (Runs.bind (tens1 s (few2 hs10 (by omega))) ?_))
   rw [w64 (by omega) (by omega), show (q : Int) - p + 1 = ((q + 1 : Nat) : Int) - p by omega]
   exact h
theorem dig_core (K : Nat) (ev neg : Bool) (p q r s b a S : Nat) (hS : S ≤ 5000) (hra : r + a < 2 ^ S) (hs : s < 2 ^ (S + 4)) (hp : p ≤ 1000) (hq : q ≤ 1000) (hsc : Sc (2 ^ 1074) K p q r s b a) :
  ∃ J p' q' r' s' b' a', DigAt K ev J p' q' r' s' b' a' ∧ p' ≤ 10000 ∧ q' ≤ 10000 ∧
   Runs (fun k => num_Digits.l0 k neg (L b) ((q : Int) - p) (L r) (L s) (L a) ev) (strOfNums (ints (dg J r' s' (adj r' s' b' a' J ev))), (q' : Int) - p', neg) := by
 have big : ∀ n : Nat, 2 ^ n ≤ 10 ^ n := fun n => Nat.pow_le_pow_left (by decide) n
 have hs0 := hsc.hs
 obtain ⟨s1, q1, g1, g2, g3, g4, g5⟩ := top_loop (2 ^ 1074) K ev r b a p S neg hra (by omega) (by omega) S s q (by
  have := big S
  have h2 : 10 ^ S ≤ s * 10 ^ S := Nat.le_mul_of_pos_left _ hs0
  omega) (by omega) hs hsc
 have hr0 : 0 < r := by have := hsc.hbr; omega
 have hlt : r < s1 := by have := g1.ha; omega
 obtain ⟨r2, b2, a2, p2, k1, k2, k3, k4, k5, k6⟩ := skip_loop (2 ^ 1074) K ev s1 q1 (S + 4) g3 (by omega) (by omega) (S + 4) r b a p (by
  have := big (S + 4)
  have h2 : 10 ^ (S + 4) ≤ r * 10 ^ (S + 4) := Nat.le_mul_of_pos_left _ hr0
  omega) (by omega) g1 hlt g2
 have ha2 := k1.ha
 have hbr2 := k1.hbr
 obtain ⟨J, hJ1, hJ2, hJ3⟩ := least (fun i => 1 ≤ i ∧ (dn r2 s1 b2 i ev = true ∨ up r2 s1 a2 i ev = true)) (S + 4) (by
  refine ⟨by omega, .inr ?_⟩
  unfold up upB
  have h1 := big (S + 4)
  have h2 : 10 ^ (S + 4) ≤ a2 * 10 ^ (S + 4) := Nat.le_mul_of_pos_left _ ha2
  rw [decide_eq_true (show s1 < rem r2 s1 (S + 4) + a2 * 10 ^ (S + 4) by omega)]; rfl)
 have hno : ∀ i, 1 ≤ i → i < J → dn r2 s1 b2 i ev = false ∧ up r2 s1 a2 i ev = false := by
  intro i h1 h2
  have := hJ3 i h2
  cases hd : dn r2 s1 b2 i ev with
  | true => exact absurd ⟨h1, .inl hd⟩ this
  | false =>
   cases hu : up r2 s1 a2 i ev with
   | true => exact absurd ⟨h1, .inr hu⟩ this
   | false => exact ⟨rfl, rfl⟩
 have hfirst : r2 * 10 / s1 ≠ 0 ∨ J = 1 ∧ up r2 s1 a2 1 ev = true := by
  rcases k4 with h | h
  ·
   exact .inl h
  ·
   refine .inr ⟨?_, h⟩
   rcases Nat.lt_or_ge 1 J with c | c
   ·
    have := hno 1 (by omega) c
    rw [h] at this; cases this.2
   ·
    omega
 refine ⟨J, p2, q1, r2, s1, b2, a2, ⟨k1, k2, k3, hJ2.1, hno, hJ2.2, hfirst⟩, by omega, by omega, ?_⟩
 have hrun := sh_run s1 ev ((q1 : Int) - p2) (by omega) (by omega) k1.hs J r2 b2 a2 [] hJ2.1 k2 hno hJ2.2 (by
  rcases hfirst with h | h
  ·
   exact .inr (.inl h)
  ·
   exact .inr (.inr h)) (by simp; omega) (by
   have h10 : 10 ^ J ≤ 2 ^ (4 * J) := by rw [Nat.pow_mul]; exact Nat.pow_le_pow_left (by decide) J
   have hb : b2 * 10 ^ J ≤ s1 * 2 ^ (4 * J) := Nat.mul_le_mul (by omega) h10
   have ha : a2 * 10 ^ J ≤ s1 * 2 ^ (4 * J) := Nat.mul_le_mul (by omega) h10
   have hm : s1 * 2 ^ (4 * J) < 2 ^ (S + 4) * 2 ^ (4 * J) := Nat.mul_lt_mul_of_pos_right g3 (Nat.two_pow_pos _)
   rw [← Nat.pow_add] at hm
   have hm2 : 2 ^ (S + 4 + 4 * J) ≤ 2 ^ (S + 4 + 4 * (S + 4)) := Nat.pow_le_pow_right (by decide) (by omega)
   have hm3 : 2 ^ (S + 4) ≤ 2 ^ (S + 4 + 4 * (S + 4)) := Nat.pow_le_pow_right (by decide) (by omega)
   refine few2 (m := S + 4 + 4 * (S + 4) + 6) ?_ (by omega)
   rw [Nat.pow_add 2 (S + 4 + 4 * (S + 4))]
   generalize 2 ^ (S + 4 + 4 * (S + 4)) = Z at *
   omega)
 rw [List.nil_append] at hrun
 refine g5 (ints (dg J r2 s1 (adj r2 s1 b2 a2 J ev)), (q1 : Int) - p2) ?_
 simp only [num_shortest.f]
 exact k6 _ hrun
end Go.Proofs.YtjlnfnfdibfniaaDoor.Pl
namespace Go.Proofs.YtjlnfnfdibfniaaDoor.Pl
open F Hd Go.RowKit Go.Proofs.YtjlnfnfdibfniaaDoorW.PrintWords Go.Proofs.YtjlnfnfdibfniaaDoorW.PrintMore
theorem wr64 (n : Int) (h0 : 0 ≤ n) (h1 : n < 2 ^ 64) : IntKind.u64.wrap n = n := by rw [IntKind.wrap_u64]; omega
theorem srung_sign (K : Nat) (neg : Bool) (hK : K < 9223372036854775808) : srung (K + signBit neg) = if neg = true then -(K : Int) else (K : Int) := by
 unfold srung signBit
 have e63 : (2 : Nat) ^ 63 = 9223372036854775808 := by decide
 rw [e63]
 cases neg with
 | true =>
  rw [if_pos rfl, if_pos rfl]
  have h1 : (K + 9223372036854775808) / 9223372036854775808 % 2 = 1 := by omega
  have h2 : (K + 9223372036854775808) % 9223372036854775808 = K := by omega
  rw [h1, h2]; rfl
 | false =>
  rw [if_neg Bool.false_ne_true, if_neg Bool.false_ne_true, Nat.add_zero]
  have h1 : K / 9223372036854775808 % 2 = 0 := by omega
  have h2 : K % 9223372036854775808 = K := by omega
  rw [h1, h2]; rfl
theorem isNum_sign (K : Nat) (neg : Bool) (hK : K ≤ INF) : isNum (K + signBit neg) := by
 have hI : INF = 9218868437227405312 := rfl
 unfold isNum signBit
 have e63 : (2 : Nat) ^ 63 = 9223372036854775808 := by decide
 have e52 : 2047 * (2 : Nat) ^ 52 = 9218868437227405312 := by decide
 rw [e63, e52]
 cases neg with
 | true => rw [if_pos rfl]; omega
 | false => rw [if_neg Bool.false_ne_true]; omega
theorem signbit_f (K : Nat) (neg : Bool) (hK : K < 9223372036854775808) : math_Signbit.f (K + signBit neg) = some neg := by
 unfold math_Signbit.f signBit
 cases neg with
 | true =>
  rw [if_pos rfl]
  congr 1
  refine decide_eq_true ?_
  unfold wrap64; omega
 | false =>
  rw [if_neg Bool.false_ne_true]
  congr 1
  refine decide_eq_false ?_
  unfold wrap64; omega
theorem abs_f (K : Nat) (neg : Bool) (hK : K < 9223372036854775808) : math_Abs.f (K + signBit neg) = some K := by
 unfold math_Abs.f
 have hlt : K + signBit neg < 18446744073709551616 := by unfold signBit; split <;> omega
 have h := u64_andNot_nat (K + signBit neg) 9223372036854775808 hlt (by decide)
 have e : ((9223372036854775808 : Nat) : Int) = 9223372036854775808 := rfl
 rw [e] at h
 rw [h, Int.toNat_natCast]
 have e2 : (18446744073709551615 - 9223372036854775808 : Nat) = 2 ^ 63 - 1 := by decide
 rw [e2, Nat.and_two_pow_sub_one_eq_mod]
 congr 1
 unfold signBit
 have e63 : (2 : Nat) ^ 63 = 9223372036854775808 := by decide
 rw [e63]
 split <;> omega
theorem nan_no {x : Nat} (h : isNum x) : math_IsNaN.f x = some false := by
 unfold math_IsNaN.f
 have : (FloatKind.f64.format.order x x == some Ordering.eq) = true := eq_iff.2 ⟨h, h, rfl⟩
 rw [bne, this]; rfl
theorem inf_no (K : Nat) (neg : Bool) (hK : K < INF) : math_IsInf.f (K + signBit neg) 0 = some false := by
 have hI : INF = 9218868437227405312 := rfl
 unfold math_IsInf.f
 rw [if_pos rfl, abs_f K neg (by omega), Option.bind_some]
 congr 1
 rw [Bool.eq_false_iff]
 intro h
 obtain ⟨_, _, h3⟩ := gt_iff.1 h
 have h0 : srung 9218868437227405311 = 9218868437227405311 := rfl
 have h1 := srung_sign K false (by omega)
 rw [show K + signBit false = K from rfl, if_neg Bool.false_ne_true] at h1
 rw [h0, h1] at h3
 omega
theorem zero_no (K : Nat) (neg : Bool) (h0 : 0 < K) (hK : K ≤ INF) : (FloatKind.f64.format.order (K + signBit neg) 0 == some Ordering.eq) = false := by
 have hI : INF = 9218868437227405312 := rfl
 rw [Bool.eq_false_iff]
 intro h
 obtain ⟨_, _, h3⟩ := eq_iff.1 h
 have h1 := srung_sign K neg (by omega)
 have h2 : srung 0 = 0 := rfl
 rw [h1, h2] at h3
 split at h3 <;> omega
theorem parts_f (K : Nat) (neg : Bool) (h : K < INF) : ∃ m E : Nat, num_parts.f (K + signBit neg) = some ((m : Int), (E : Int) - 1074) ∧ m < 9007199254740992 ∧ (E = 0 ∨ 4503599627370496 ≤ m) ∧ K = E * 4503599627370496 + m ∧ E ≤ 2045 := by
 have hI : INF = 9218868437227405312 := rfl
 obtain ⟨X, hX⟩ : ∃ X, X = K + signBit neg := ⟨_, rfl⟩
 have hX2 : X = K ∨ X = K + 9223372036854775808 := by rw [hX]; unfold signBit; split <;> omega
 rw [← hX]
 have e1 : Go.bits .and .u64 ((X : Int) / 4503599627370496) 2047 = ((K / 4503599627370496 : Nat) : Int) := by
  have := bits_mask .u64 64 (by decide) wr64 11 (by decide) ((X : Int) / 4503599627370496) (by omega) (by omega)
  have e : (2 : Int) ^ 11 = 2048 := by decide
  rw [e] at this
  rw [show (2047 : Int) = 2048 - 1 by decide, this]; omega
 have e2 : Go.bits .and .u64 (X : Int) 4503599627370495 = ((K % 4503599627370496 : Nat) : Int) := by
  have := bits_mask .u64 64 (by decide) wr64 52 (by decide) (X : Int) (by omega) (by omega)
  have e : (2 : Int) ^ 52 = 4503599627370496 := by decide
  rw [e] at this
  rw [show (4503599627370495 : Int) = 4503599627370496 - 1 by decide, this]; omega
 have e3 : Go.bits .or .u64 ((K % 4503599627370496 : Nat) : Int) 4503599627370496 = ((4503599627370496 + K % 4503599627370496 : Nat) : Int) := by
  have h := (bits_nat .u64 64 (by decide) wr64 (K % 4503599627370496) 4503599627370496 (by omega) (by omega)).2
  have e : ((4503599627370496 : Nat) : Int) = 4503599627370496 := rfl
  rw [e] at h
  rw [h, Nat.or_comm]
  have h2 := Nat.two_pow_add_eq_or_of_lt (i := 52) (b := K % 4503599627370496) (by omega) 1
  rw [Nat.mul_one] at h2
  have e5 : (2 : Nat) ^ 52 = 4503599627370496 := by decide
  rw [e5] at h2
  rw [← h2]
 unfold num_parts.f
 rw [e1, e2, e3, w64 (n := ((K / 4503599627370496 : Nat) : Int)) (by omega) (by omega), w64 (n := ((K / 4503599627370496 : Nat) : Int) + -1074) (by omega) (by omega), w64 (n := ((K / 4503599627370496 : Nat) : Int) + -1074 - 1) (by omega) (by omega)]
 by_cases h0 : K / 4503599627370496 = 0
 ·
  rw [if_pos (by omega)]
  refine ⟨K % 4503599627370496, 0, rfl, by omega, .inl rfl, by omega, by omega⟩
 ·
  rw [if_neg (by omega)]
  refine ⟨4503599627370496 + K % 4503599627370496, K / 4503599627370496 - 1, ?_, by omega, .inr (by omega), by omega, by omega⟩
  congr 2
  omega
theorem Sc.more_n {T K p q r s b a : Nat} (h : Sc T K p q r s b a) (n : Nat) : Sc T K p (q + n) r (s * 10 ^ n) b a := by
 induction n with
 | zero => rw [Nat.pow_zero, Nat.mul_one]; exact h
 | succ n ih =>
  have := ih.more
  rwa [show s * 10 ^ n * 10 = s * 10 ^ (n + 1) by rw [Nat.pow_succ]; exact Nat.mul_assoc .., show q + n + 1 = q + (n + 1) by omega] at this
theorem Sc.less_n {T K p q r s b a : Nat} (h : Sc T K p q r s b a) (n : Nat) : Sc T K (p + n) q (r * 10 ^ n) s (b * 10 ^ n) (a * 10 ^ n) := by
 induction n with
 | zero => rw [Nat.pow_zero, Nat.mul_one, Nat.mul_one, Nat.mul_one]; exact h
 | succ n ih =>
  have := ih.less
  rwa [show r * 10 ^ n * 10 = r * 10 ^ (n + 1) by rw [Nat.pow_succ]; exact Nat.mul_assoc .., show b * 10 ^ n * 10 = b * 10 ^ (n + 1) by rw [Nat.pow_succ]; exact Nat.mul_assoc .., show a * 10 ^ n * 10 = a * 10 ^ (n + 1) by rw [Nat.pow_succ]; exact Nat.mul_assoc .., show p + n + 1 = p + (n + 1) by omega] at this
theorem ten_two (n k : Nat) (h : 4 * n ≤ k) : 10 ^ n ≤ 2 ^ k := by
 refine Nat.le_trans (Nat.pow_le_pow_left (show 10 ≤ 2 ^ 4 by decide) n) ?_
 rw [← Nat.pow_mul]
 exact Nat.pow_le_pow_right (by decide) h
theorem dig_j3 (K m r s b a : Nat) (neg : Bool) (hr : r < 2 ^ 1100) (ha : a ≤ r) (hs : s < 2 ^ 1100) (hKm : K % 2 = m % 2) (hm : m < 9007199254740992) (hsc : Sc (2 ^ 1074) K 0 0 r s b a) :
  ∃ J p q r' s' b' a', DigAt K (decide (K % 2 = 0)) J p q r' s' b' a' ∧ p ≤ 10000 ∧ q ≤ 10000 ∧
   Runs (fun k => num_Digits.j3 k neg (m : Int) (L b) (L r) (L s) (L a)) (strOfNums (ints (dg J r' s' (adj r' s' b' a' J (decide (K % 2 = 0))))), (q : Int) - p, neg) := by
 have hr0 : 0 < r := by have := hsc.hbr; omega
 have hs0 := hsc.hs
 obtain ⟨x, ex, x1, x2, x3⟩ := size_f r (few2 hr (by decide))
 obtain ⟨y, ey, y1, y2, y3⟩ := size_f s (few2 hs (by decide))
 obtain ⟨x2, x4⟩ := x2 hr0
 obtain ⟨y2, y4⟩ := y2 hs0
 have hx : x ≤ 1100 := by
  rcases Nat.lt_or_ge 1100 x with c | c
  ·
   have := Nat.pow_le_pow_right (n := 2) (by decide) (show 1100 ≤ x - 1 by omega)
   exact absurd (Nat.lt_of_lt_of_le hr (Nat.le_trans this x4)) (Nat.lt_irrefl _)
  ·
   exact c
 have hy : y ≤ 1100 := by
  rcases Nat.lt_or_ge 1100 y with c | c
  ·
   have := Nat.pow_le_pow_right (n := 2) (by decide) (show 1100 ≤ y - 1 by omega)
   exact absurd (Nat.lt_of_lt_of_le hs (Nat.le_trans this y4)) (Nat.lt_irrefl _)
  ·
   exact c
 obtain ⟨A, B, g, ga, gb, gg, g0, g1⟩ := guess_ok ((x : Int) - y - 1) (by omega) (by omega)
 have hev : ((Int.tmod (m : Int) 2) == 0) = decide (K % 2 = 0) := by
  have e : Int.tmod (m : Int) 2 = ((m % 2 : Nat) : Int) := by rw [Int.tmod_eq_emod_of_nonneg (by omega)]; omega
  rw [e]
  by_cases c : K % 2 = 0
  ·
   rw [decide_eq_true c, beq_iff_eq]; omega
  ·
   rw [decide_eq_false c, beq_eq_false_iff_ne]; omega
 have p10 : ∀ n : Nat, n ≤ 400 → 10 ^ n ≤ 2 ^ 1600 := fun n hn => ten_two n 1600 (by omega)
 have up10 : ∀ z n : Nat, z < 2 ^ 1100 → n ≤ 400 → z * 10 ^ n < 2 ^ 2700 := by
  intro z n hz hn
  have h1 := p10 n hn
  rw [pow_join (a := 1100) (b := 1600) (c := 2700) rfl]
  have h0 : 0 < 2 ^ 1600 := Nat.two_pow_pos 1600
  generalize 2 ^ 1600 = Z at *
  generalize 2 ^ 1100 = Y at *
  exact Nat.lt_of_le_of_lt (Nat.mul_le_mul_left z h1) (Nat.mul_lt_mul_of_pos_right hz h0)
 have grow : ∀ z k l : Nat, z < 2 ^ k → k ≤ l → z < 2 ^ l := fun z k l h1 h2 => Nat.lt_of_lt_of_le h1 (Nat.pow_le_pow_right (by decide) h2)
 obtain ⟨S, hS⟩ : ∃ S, S = 2701 := ⟨_, rfl⟩
 have hsz : ∀ (n c : Nat), (∀ r, num_nat_size.f (L n) = some r ↔ r = (c : Int)) → num_nat_size.f (L n) = some (c : Int) := fun n c h => (h _).2 rfl
 have two : ∀ z w : Nat, z < 2 ^ 2700 → w ≤ z → z + w < 2 ^ S := by
  intro z w h1 h2
  rw [hS, pow_join (a := 2700) (b := 1) (c := 2701) rfl, Nat.pow_one]
  generalize 2 ^ 2700 = Z at *
  omega
 by_cases hg : g ≥ 0
 ·
  obtain ⟨n, rfl⟩ := Int.eq_ofNat_of_zero_le hg
  have hn : n ≤ 400 := by omega
  have hsn := up10 s n hs hn
  obtain ⟨J, p', q', r', s', b', a', d1, d2, d3, d4⟩ := dig_core K (decide (K % 2 = 0)) neg 0 (0 + n) r (s * 10 ^ n) b a S (by omega) (two r a (grow r 1100 2700 hr (by decide)) ha) (grow _ 2700 (S + 4) hsn (by omega)) (by omega) (by omega) (hsc.more_n n)
  refine ⟨J, p', q', r', s', b', a', d1, d2, d3, Runs.suc ?_⟩
  simp only [num_Digits.j3, hsz r x ex, hsz s y ey, Option.bind_some]
  rw [w64 (n := (x : Int) - y) (by omega) (by omega), w64 (n := (x : Int) - y - 1) (by omega) (by omega), ga, hev]
  refine Runs.bind (Runs.pure _) (Runs.bind (gb ▸ Runs.pure _) (Runs.bind (gg ▸ Runs.pure _) (Runs.yes hg (Runs.bind (tens_f s n (few2 hsn (by decide)) (by omega)) (Runs.suc ?_)))))
  simp only [num_Digits.j4]
  rw [show ((0 + n : Nat) : Int) - ((0 : Nat) : Int) = (n : Int) by omega] at d4
  exact d4
 ·
  obtain ⟨n, hn⟩ : ∃ n : Nat, (n : Int) = -g := ⟨(-g).toNat, by omega⟩
  have hn4 : n ≤ 400 := by omega
  have hrn := up10 r n hr hn4
  have hb2 := hsc.hbr
  have hbn := up10 b n (Nat.lt_trans hb2 hr) hn4
  have han := up10 a n (Nat.lt_of_le_of_lt ha hr) hn4
  obtain ⟨J, p', q', r', s', b', a', d1, d2, d3, d4⟩ := dig_core K (decide (K % 2 = 0)) neg (0 + n) 0 (r * 10 ^ n) s (b * 10 ^ n) (a * 10 ^ n) S (by omega) (two _ _ hrn (Nat.mul_le_mul_right _ ha)) (grow s 1100 (S + 4) hs (by omega)) (by omega) (by omega) (hsc.less_n n)
  refine ⟨J, p', q', r', s', b', a', d1, d2, d3, Runs.suc ?_⟩
  simp only [num_Digits.j3, hsz r x ex, hsz s y ey, Option.bind_some]
  rw [w64 (n := (x : Int) - y) (by omega) (by omega), w64 (n := (x : Int) - y - 1) (by omega) (by omega), ga, hev]
  refine Runs.bind (Runs.pure _) (Runs.bind (gb ▸ Runs.pure _) (Runs.bind (gg ▸ Runs.pure _) (Runs.no hg ?_)))
  show Runs (fun k => (num_nat_tens.f k (L r) (wrap64 (-g))).bind fun t274 => (num_nat_tens.f k (L b) (wrap64 (-g))).bind fun t277 => (num_nat_tens.f k (L a) (wrap64 (-g))).bind fun t280 => num_Digits.j4 k neg t277 g t274 (L s) t280 (decide (K % 2 = 0))) _
  rw [w64 (n := -g) (by omega) (by omega), ← hn]
  refine (Runs.bind (tens_f r n (few2 hrn (by decide)) (by omega)) (Runs.bind (tens_f b n (few2 hbn (by decide)) (by omega)) (Runs.bind (tens_f a n (few2 han (by decide)) (by omega)) (Runs.suc ?_))))
  simp only [num_Digits.j4]
  rw [show ((0 : Nat) : Int) - ((0 + n : Nat) : Int) = g by omega] at d4
  exact d4
theorem lt_two (z M : Nat) (h : z ≤ 4) (hM : 3 ≤ M) : z < 2 ^ M :=
 Nat.lt_of_le_of_lt h (Nat.lt_of_lt_of_le (show 4 < 2 ^ 3 by decide) (Nat.pow_le_pow_right (by decide) hM))
theorem grow_two (z k M : Nat) (h : z < 2 ^ k) (hM : k ≤ M) : z < 2 ^ M := Nat.lt_of_lt_of_le h (Nat.pow_le_pow_right (by decide) hM)
theorem small_two (z n k M : Nat) (hz : z < 2 ^ k) (h : n + k ≤ M) : z * 2 ^ n < 2 ^ M := by
 have h1 : z * 2 ^ n < 2 ^ k * 2 ^ n := Nat.mul_lt_mul_of_pos_right hz (Nat.two_pow_pos n)
 rw [← Nat.pow_add] at h1
 exact Nat.lt_of_lt_of_le h1 (Nat.pow_le_pow_right (by decide) (by omega))
theorem digits_num (K : Nat) (neg : Bool) (h0 : 0 < K) (hK : K < INF) :
  ∃ J p q r s b a, DigAt K (decide (K % 2 = 0)) J p q r s b a ∧ p ≤ 10000 ∧ q ≤ 10000 ∧
   Runs (fun k => num_Digits.f k (K + signBit neg)) (strOfNums (ints (dg J r s (adj r s b a J (decide (K % 2 = 0))))), (q : Int) - p, neg) := by
 have hI : INF = 9218868437227405312 := rfl
 obtain ⟨m, E, hp, hm, hEm, hKE, hE⟩ := parts_f K neg hK
 have hpar : K % 2 = m % 2 := by omega
 have hj2 : ∀ r1 s1 a1 : Nat, r1 < 2 ^ 56 → s1 ≤ 4 → 1 ≤ s1 → 1 ≤ a1 → a1 ≤ 2 → a1 ≤ r1 → r1 = (if m = 4503599627370496 ∧ 0 < E then 4 * m else 2 * m) → s1 = (if m = 4503599627370496 ∧ 0 < E then 4 else 2) → a1 = (if m = 4503599627370496 ∧ 0 < E then 2 else 1) →
   ∃ J p q r s b a, DigAt K (decide (K % 2 = 0)) J p q r s b a ∧ p ≤ 10000 ∧ q ≤ 10000 ∧
    Runs (fun k => num_Digits.j2 k neg (m : Int) ((E : Int) - 1074) (L 1) (L r1) (L s1) (L a1)) (strOfNums (ints (dg J r s (adj r s b a J (decide (K % 2 = 0))))), (q : Int) - p, neg) := by
  intro r1 s1 a1 hr1 hs1 hs0 ha0 ha1 har er es ea
  have small2 := fun z n k (hz : z < 2 ^ k) (h : n + k ≤ 1100) => small_two z n k 1100 hz h
  have fewS : ∀ z : Nat, z < 2 ^ 60 → Few z := fun z hz => few2 hz (by decide)
  by_cases he : (E : Int) - 1074 ≥ 0
  ·
   obtain ⟨n, hn⟩ : ∃ n : Nat, (n : Int) = (E : Int) - 1074 := ⟨((E : Int) - 1074).toNat, by omega⟩
   have hsc := start_sc (2 ^ 1074) K m E (Nat.two_pow_pos 1074) h0 hm hEm hKE n 0 (pow_two (a := n) (b := 1074) (c := E) (d := 0) (by omega))
   rw [← er, ← es, ← ea] at hsc
   rw [Nat.pow_zero, Nat.mul_one] at hsc
   obtain ⟨J, p, q, r, s, b, a, d1, d2, d3, d4⟩ := dig_j3 K m (r1 * 2 ^ n) s1 (1 * 2 ^ n) (a1 * 2 ^ n) neg (small2 r1 n 56 hr1 (by omega)) (Nat.mul_le_mul_right _ har) (lt_two s1 1100 hs1 (by decide)) hpar hm hsc
   refine ⟨J, p, q, r, s, b, a, d1, d2, d3, Runs.suc ?_⟩
   simp only [num_Digits.j2]
   rw [← hn]
   exact Runs.yes (by omega) (Runs.bind (up_f r1 n (fewS _ (by omega)) (by omega)) (Runs.bind (up_f 1 n (fewS _ (by omega)) (by omega)) (Runs.bind (up_f a1 n (fewS _ (by omega)) (by omega)) d4)))
  ·
   obtain ⟨n, hn⟩ : ∃ n : Nat, (n : Int) = -((E : Int) - 1074) := ⟨(-((E : Int) - 1074)).toNat, by omega⟩
   have hsc := start_sc (2 ^ 1074) K m E (Nat.two_pow_pos 1074) h0 hm hEm hKE 0 n (pow_two (a := 0) (b := 1074) (c := E) (d := n) (by omega))
   rw [← er, ← es, ← ea] at hsc
   rw [Nat.pow_zero, Nat.mul_one, Nat.mul_one, Nat.mul_one] at hsc
   obtain ⟨J, p, q, r, s, b, a, d1, d2, d3, d4⟩ := dig_j3 K m r1 (s1 * 2 ^ n) 1 a1 neg (grow_two r1 56 1100 hr1 (by decide)) har (small2 s1 n 3 (by omega) (by omega)) hpar hm hsc
   refine ⟨J, p, q, r, s, b, a, d1, d2, d3, Runs.suc ?_⟩
   simp only [num_Digits.j2]
   rw [w64 (by omega) (by omega), ← hn]
   exact Runs.no he (Runs.bind (up_f s1 n (fewS _ (by omega)) (by omega)) d4)
 have hm0 : 0 < m := by omega
 have hall : ∃ J p q r s b a, DigAt K (decide (K % 2 = 0)) J p q r s b a ∧ p ≤ 10000 ∧ q ≤ 10000 ∧
   Runs (fun k => num_Digits.j0 k (K + signBit neg) neg false) (strOfNums (ints (dg J r s (adj r s b a J (decide (K % 2 = 0))))), (q : Int) - p, neg) := by
  have pre : ∀ R, Runs (fun k => if (m : Int) = 4503599627370496 then (num_Digits.j1 k neg (m : Int) ((E : Int) - 1074) (L 1) (decide ((E : Int) - 1074 > (-1074))) (L (2 * m)) (L 2) (L 1)) else (num_Digits.j1 k neg (m : Int) ((E : Int) - 1074) (L 1) false (L (2 * m)) (L 2) (L 1))) R → Runs (fun k => num_Digits.j0 k (K + signBit neg) neg false) R := by
   intro R h
   refine Runs.suc ?_
   simp only [num_Digits.j0]
   rw [hp]
   refine Runs.no (by decide) (Runs.bind (Runs.pure _) ?_)
   show Runs (fun k => (num_of.f k (IntKind.u64.wrap (2 * (m : Int)))).bind _) R
   rw [u64w (by omega) (by omega), show 2 * (m : Int) = ((2 * m : Nat) : Int) by omega]
   exact Runs.bind (of_f (2 * m) (by omega)) (Runs.bind (of_f 2 (by decide)) (Runs.bind (of_f 1 (by decide)) (Runs.bind (of_f 1 (by decide)) h)))
  by_cases c : m = 4503599627370496 ∧ 0 < E
  ·
   obtain ⟨J, p, q, r, s, b, a, d1, d2, d3, d4⟩ := hj2 (4 * m) 4 2 (by omega) (by omega) (by omega) (by omega) (by omega) (by omega) (by rw [if_pos c]) (by rw [if_pos c]) (by rw [if_pos c])
   refine ⟨J, p, q, r, s, b, a, d1, d2, d3, pre _ (Runs.yes (by omega) (Runs.suc ?_))⟩
   simp only [num_Digits.j1]
   rw [u64w (by omega) (by omega), show 4 * (m : Int) = ((4 * m : Nat) : Int) by omega]
   refine Runs.yes (decide_eq_true (by omega)) ?_
   exact Runs.bind (of_f (4 * m) (by omega)) (Runs.bind (of_f 4 (by decide)) (Runs.bind (of_f 2 (by decide)) d4))
  ·
   obtain ⟨J, p, q, r, s, b, a, d1, d2, d3, d4⟩ := hj2 (2 * m) 2 1 (by omega) (by omega) (by omega) (by omega) (by omega) (by omega) (by rw [if_neg c]) (by rw [if_neg c]) (by rw [if_neg c])
   have j1 : Runs (fun k => num_Digits.j1 k neg (m : Int) ((E : Int) - 1074) (L 1) false (L (2 * m)) (L 2) (L 1)) (strOfNums (ints (dg J r s (adj r s b a J (decide (K % 2 = 0))))), (q : Int) - p, neg) := by
    refine Runs.suc ?_
    simp only [num_Digits.j1]
    exact Runs.no (by decide) d4
   refine ⟨J, p, q, r, s, b, a, d1, d2, d3, pre _ ?_⟩
   by_cases c2 : m = 4503599627370496
   ·
    refine Runs.yes (by omega) ?_
    rw [decide_eq_false (show ¬ ((E : Int) - 1074 > -1074) by omega)]
    exact j1
   ·
    exact Runs.no (by omega) j1
 obtain ⟨J, p, q, r, s, b, a, d1, d2, d3, d4⟩ := hall
 refine ⟨J, p, q, r, s, b, a, d1, d2, d3, ?_⟩
 simp only [num_Digits.f]
 rw [signbit_f K neg (by omega), zero_no K neg h0 (by omega), nan_no (isNum_sign K neg (by omega)), inf_no K neg hK]
 exact Runs.bind (Runs.pure _) (Runs.no Bool.false_ne_true (Runs.bind (Runs.pure _) (Runs.no Bool.false_ne_true (Runs.bind (Runs.pure _) d4))))
end Go.Proofs.YtjlnfnfdibfniaaDoor.Pl
namespace Go.Proofs.YtjlnfnfdibfniaaDoor.Pl
open F Hd Go.RowKit Go.Proofs.YtjlnfnfdibfniaaDoorW.PrintWords Go.Proofs.YtjlnfnfdibfniaaDoorW.PrintMore
theorem near_bits {N D a b q t m rest E r : Nat} (h1 : q * (D * 2 ^ a) ≤ N * 2 ^ b) (h2 : N * 2 ^ b < (q + 1) * (D * 2 ^ a)) (ht : 1 ≤ t) (hE : E + b = a + t)
  (hq : q = 2 ^ t * m + rest) (hrest : rest < 2 ^ t) (hm : m < 9007199254740992) (hEm : E = 0 ∨ 4503599627370496 ≤ m)
  (hr : r = 1 ∧ (2 ^ (t - 1) < rest ∨ rest = 2 ^ (t - 1) ∧ (q * (D * 2 ^ a) < N * 2 ^ b ∨ m % 2 = 1)) ∨ r = 0 ∧ (rest < 2 ^ (t - 1) ∨ rest = 2 ^ (t - 1) ∧ q * (D * 2 ^ a) = N * 2 ^ b ∧ m % 2 = 0)) :
  IsNear N D (min (E * 4503599627370496 + m + r) INF) := by
 have hPQ : 2 ^ E * 2 ^ b = 2 ^ a * 2 ^ t := by rw [← Nat.pow_add, ← Nat.pow_add, hE]
 have hT : 2 ^ t = 2 * 2 ^ (t - 1) := by rw [← Nat.pow_succ']; congr 1; omega
 have e0 := rung_of hEm hm
 have e1 := rung_next hEm hm
 have hQ : 0 < 2 ^ b := Nat.two_pow_pos b
 have hpar : (E * 4503599627370496 + m) % 2 = m % 2 := by omega
 have emid : mid (E * 4503599627370496 + m) * D * 2 ^ b = 2 * (2 ^ t * m * (D * 2 ^ a)) + 2 * (2 ^ (t - 1) * (D * 2 ^ a)) := by
  unfold mid
  rw [e0, e1]
  generalize 2 ^ E = P at *
  generalize 2 ^ b = Q at *
  generalize 2 ^ a = A at *
  generalize 2 ^ t = T at *
  generalize 2 ^ (t - 1) = h at *
  grind
 have elow : m * 2 ^ E * D * 2 ^ b = 2 ^ t * m * (D * 2 ^ a) := by
  generalize 2 ^ E = P at *
  generalize 2 ^ b = Q at *
  generalize 2 ^ a = A at *
  generalize 2 ^ t = T at *
  grind
 have ehigh : (m + 1) * 2 ^ E * D * 2 ^ b = 2 ^ t * m * (D * 2 ^ a) + 2 ^ t * (D * 2 ^ a) := by
  generalize 2 ^ E = P at *
  generalize 2 ^ b = Q at *
  generalize 2 ^ a = A at *
  generalize 2 ^ t = T at *
  grind
 have k1 : q * (D * 2 ^ a) = 2 ^ t * m * (D * 2 ^ a) + rest * (D * 2 ^ a) := by rw [hq, Nat.add_mul]
 have k2 : (q + 1) * (D * 2 ^ a) = q * (D * 2 ^ a) + D * 2 ^ a := by rw [Nat.add_mul, Nat.one_mul]
 have k3 : rest * (D * 2 ^ a) + D * 2 ^ a ≤ 2 ^ t * (D * 2 ^ a) := by
  have := Nat.mul_le_mul_right (D * 2 ^ a) (show rest + 1 ≤ 2 ^ t from hrest)
  rwa [Nat.add_mul, Nat.one_mul] at this
 have k4 : ∀ x y : Nat, x < y → x * (D * 2 ^ a) + D * 2 ^ a ≤ y * (D * 2 ^ a) := by
  intro x y h
  have := Nat.mul_le_mul_right (D * 2 ^ a) (show x + 1 ≤ y from h)
  rwa [Nat.add_mul, Nat.one_mul] at this
 have k5 := k4 rest (2 ^ (t - 1))
 have k6 := k4 (2 ^ (t - 1)) rest
 rw [k2, k1] at h2
 rw [k1] at h1 hr
 have hA : 0 < D * 2 ^ a := by omega
 generalize 2 ^ t * m * (D * 2 ^ a) = U at *
 generalize hR : rest * (D * 2 ^ a) = R at *
 generalize hH : 2 ^ (t - 1) * (D * 2 ^ a) = H at *
 generalize 2 ^ t * (D * 2 ^ a) = TT at *
 generalize D * 2 ^ a = A at *
 have eRH : rest = 2 ^ (t - 1) → R = H := fun h => by rw [← hR, ← hH, h]
 refine near_of ?_ ?_ ?_
 ·
  rw [e0]
  refine Nat.le_of_mul_le_mul_right (c := 2 ^ b) ?_ hQ
  rw [elow]; omega
 ·
  rw [e1]
  refine Nat.lt_of_mul_lt_mul_right (a := 2 ^ b) ?_
  rw [ehigh]; omega
 ·
  have lt1 : ∀ x y : Nat, x * 2 ^ b < y * 2 ^ b → x < y := fun x y h => Nat.lt_of_mul_lt_mul_right (a := 2 ^ b) h
  have eq1 : ∀ x y : Nat, x * 2 ^ b = y * 2 ^ b → x = y := fun x y h => Nat.eq_of_mul_eq_mul_right hQ h
  have e2 : 2 * N * 2 ^ b = 2 * (N * 2 ^ b) := Nat.mul_assoc ..
  rw [hpar]
  rcases hr with ⟨rfl, h⟩ | ⟨rfl, h⟩
  ·
   refine .inr ⟨rfl, ?_⟩
   rcases h with h | ⟨h, h'⟩
   ·
    refine .inl (lt1 _ _ ?_)
    rw [emid, e2]; have := k6 h; omega
   ·
    have := eRH h
    rcases h' with h' | h'
    ·
     refine .inl (lt1 _ _ ?_)
     rw [emid, e2]; omega
    ·
     rcases Nat.lt_or_ge (U + R) (N * 2 ^ b) with c | c
     ·
      refine .inl (lt1 _ _ ?_)
      rw [emid, e2]; omega
     ·
      refine .inr ⟨eq1 _ _ ?_, h'⟩
      rw [emid, e2]; omega
  ·
   refine .inl ⟨rfl, ?_⟩
   rcases h with h | ⟨h, h', h''⟩
   ·
    refine .inl (lt1 _ _ ?_)
    rw [emid, e2]; have := k5 h; omega
   ·
    have := eRH h
    refine .inr ⟨eq1 _ _ ?_, h''⟩
    rw [emid, e2]; omega
theorem wraps_u64 (n : Int) (h0 : 0 ≤ n) (h1 : n < 2 ^ 64) : IntKind.u64.wrap n = n := by rw [IntKind.wrap_u64]; omega
theorem near_j2 (M : Nat) (E : Nat) (x : Int) (hx : x = (E : Int) - 1074) (hE : E ≤ 1000000) (hM : M < 9007199254740992) (hEM : E = 0 ∨ 4503599627370496 ≤ M) :
  Runs (fun k => num_nearest.j2 k x (M : Int)) ((min (E * 4503599627370496 + M) INF : Nat) : Int) := by
 refine Runs.suc ?_
 simp only [num_nearest.j2]
 have hI : INF = 9218868437227405312 := rfl
 by_cases h1 : x > 971
 ·
  refine Runs.yes h1 ((Runs.pure _).of ?_)
  omega
 ·
  refine Runs.no h1 ?_
  by_cases h2 : M < 4503599627370496
  ·
   refine Runs.yes (by omega) ((Runs.pure _).of ?_)
   omega
  ·
   refine Runs.no (by omega) ((Runs.pure _).of ?_)
   have e1 : Go.bits .and .u64 (M : Int) 4503599627370495 = ((M - 4503599627370496 : Nat) : Int) := by
    have := bits_mask .u64 64 (by decide) wraps_u64 52 (by decide) (M : Int) (by omega) (by omega)
    have e : (2 : Int) ^ 52 = 4503599627370496 := by decide
    rw [e] at this
    rw [show (4503599627370495 : Int) = 4503599627370496 - 1 by decide, this]; omega
   rw [e1, w64 (n := x - -1074) (by omega) (by omega), w64 (by omega) (by omega), u64w (n := x - -1074 + 1) (by omega) (by omega), u64w (by omega) (by omega)]
   have e52 : (2 : Int) ^ 52 = 4503599627370496 := by decide
   have e64 : (2 : Int) ^ 64 = 18446744073709551616 := by decide
   rw [bits_join .u64 64 (by decide) wraps_u64 52 _ _ (by omega) (by rw [e52]; omega) (by rw [e64]; omega) (by omega) (by rw [e52]; omega) (by rw [e64]; omega)]
   omega
theorem near_j1 (M : Nat) (E t : Nat) (x : Int) (hx : x + t = (E : Int) - 1074) (_ht : t ≤ 100000) (hE : E ≤ 100000) (hM : M ≤ 9007199254740992) (hEM : E = 0 ∨ 4503599627370496 ≤ M) :
  Runs (fun k => num_nearest.j1 k x (t : Int) (M : Int)) ((min (E * 4503599627370496 + M) INF : Nat) : Int) := by
 refine Runs.suc ?_
 simp only [num_nearest.j1]
 rw [w64 (n := x + t) (by omega) (by omega), w64 (by omega) (by omega)]
 by_cases h1 : M = 9007199254740992
 ·
  refine Runs.yes (by omega) ?_
  refine (near_j2 4503599627370496 (E + 1) _ (by omega) (by omega) (by omega) (by omega)).of ?_
  omega
 ·
  refine Runs.no (by omega) ?_
  exact near_j2 M E _ hx (by omega) (by omega) hEM
theorem near_j0 (m r : Nat) (E t : Nat) (x : Int) (hx : x + t = (E : Int) - 1074) (ht : t ≤ 100000) (hE : E ≤ 100000) (hM : m < 9007199254740992) (hEM : E = 0 ∨ 4503599627370496 ≤ m) (f : Bool) (hf : r = if f = true then 1 else 0) :
  Runs (fun k => num_nearest.j0 k x (t : Int) (m : Int) f) ((min (E * 4503599627370496 + m + r) INF : Nat) : Int) := by
 refine Runs.suc ?_
 simp only [num_nearest.j0]
 rw [u64w (by omega) (by omega)]
 cases f with
 | true =>
  rw [if_pos rfl] at hf
  refine Runs.yes rfl ?_
  have := near_j1 (m + 1) E t x hx ht hE (by omega) (by omega)
  rw [hf, Nat.add_assoc]; exact this
 | false =>
  rw [if_neg Bool.false_ne_true] at hf
  refine Runs.no Bool.false_ne_true ?_
  rw [hf, Nat.add_zero]
  exact near_j1 m E t x hx ht hE (by omega) hEM
theorem nearest_f (q : Nat) (e : Int) (more : Bool) (N D a b : Nat) (hq0 : 2 ^ 54 ≤ q) (hq1 : q < 2 ^ 60) (he : (a : Int) - b = e + 1074) (ha : a ≤ 50000) (hb : b ≤ 50000)
  (h1 : q * (D * 2 ^ a) ≤ N * 2 ^ b) (h2 : N * 2 ^ b < (q + 1) * (D * 2 ^ a)) (hm : more = decide (q * (D * 2 ^ a) < N * 2 ^ b)) :
  ∃ K : Nat, IsNear N D K ∧ Runs (fun k => num_nearest.f k (q : Int) e more) (K : Int) := by
 obtain ⟨g1, g2⟩ := bitLen_spec 64 q (by omega)
 obtain ⟨g2, g3⟩ := g2 (by omega)
 obtain ⟨s, hs⟩ : ∃ s, s = Lib.bitLenAux 64 q := ⟨_, rfl⟩
 rw [← hs] at g1 g2 g3
 have hs0 : 55 ≤ s := by
  rcases Nat.lt_or_ge s 55 with c | c
  ·
   have := Nat.pow_le_pow_right (n := 2) (by decide) (show s ≤ 54 by omega); omega
  ·
   exact c
 have hs1 : s ≤ 60 := by
  rcases Nat.lt_or_ge 60 s with c | c
  ·
   have := Nat.pow_le_pow_right (n := 2) (by decide) (show 60 ≤ s - 1 by omega); omega
  ·
   exact c
 obtain ⟨t, ht⟩ : ∃ t : Nat, (t : Int) = mx ((s : Int) - 53) (-1074 - e) := ⟨(mx ((s : Int) - 53) (-1074 - e)).toNat, by unfold mx; split <;> omega⟩
 have hmx := ht
 unfold mx at hmx
 obtain ⟨E, hE⟩ : ∃ E : Nat, E + b = a + t := ⟨a + t - b, by split at hmx <;> omega⟩
 have ht1 : s ≤ 53 + t := by split at hmx <;> omega
 have hEt : E = 0 ∧ s < 53 + t ∨ s = 53 + t := by split at hmx <;> omega
 have ht2 : 2 ≤ t := by omega
 have ht3 : t ≤ 60000 := by split at hmx <;> omega
 have hl : Lib.bitLen q = s := hs.symm
 have hT : 0 < 2 ^ t := Nat.two_pow_pos t
 have hdm : q = 2 ^ t * (q / 2 ^ t) + q % 2 ^ t := (Nat.div_add_mod q (2 ^ t)).symm
 have hrl : q % 2 ^ t < 2 ^ t := Nat.mod_lt _ hT
 have hm53 : q / 2 ^ t < 9007199254740992 := by
  refine Nat.div_lt_of_lt_mul ?_
  have := Nat.pow_le_pow_right (n := 2) (by decide) ht1
  rw [Nat.pow_add, show (2 : Nat) ^ 53 = 9007199254740992 by decide] at this
  rw [Nat.mul_comm]; omega
 have hEm : E = 0 ∨ 4503599627370496 ≤ q / 2 ^ t := by
  rcases hEt with c | c
  ·
   exact .inl c.1
  ·
   refine .inr ((Nat.le_div_iff_mul_le hT).2 ?_)
   rw [show (4503599627370496 : Nat) = 2 ^ 52 by decide, ← Nat.pow_add, show 52 + t = s - 1 by omega]
   exact g3
 have hx : e + t = (E : Int) - 1074 := by omega
 have core := fun r hr => near_bits (r := r) h1 h2 (by omega) hE hdm hrl hm53 hEm hr
 have mod2 : ((q / 2 ^ t : Nat) : Int).tmod 2 = ((q / 2 ^ t % 2 : Nat) : Int) := by rw [Int.tmod_eq_emod_of_nonneg (Int.natCast_nonneg _)]; exact (Int.natCast_emod ..).symm
 simp only [num_nearest.f]
 have eL : bits_Len64.f (q : Int) = some (s : Int) := by
  unfold bits_Len64.f
  rw [if_pos (by omega), Int.toNat_natCast, hl]
 rw [eL]
 simp only [Option.bind_some]
 rw [w64 (n := (s : Int) - 52) (by omega) (by omega), w64 (n := (s : Int) - 52 - 1) (by omega) (by omega), w64 (n := -1074 - e) (by omega) (by omega), show (s : Int) - 52 - 1 = (s : Int) - 53 by omega, ← ht]
 by_cases hbig : t > 63
 ·
  refine ⟨_, core 0 (.inr ⟨rfl, ?_⟩), ?_⟩
  ·
   have hqs : q < 2 ^ 60 := hq1
   have : 2 ^ 60 ≤ 2 ^ (t - 1) := Nat.pow_le_pow_right (by decide) (by omega)
   left
   exact Nat.lt_of_le_of_lt (Nat.mod_le _ _) (by omega)
  ·
   refine Runs.yes (by omega) ((Runs.pure _).of ?_)
   have : q / 2 ^ t = 0 := by
    refine Nat.div_eq_of_lt ?_
    have : 2 ^ 60 ≤ 2 ^ t := Nat.pow_le_pow_right (by decide) (by omega)
    omega
   rw [this]
   have : E = 0 := by omega
   subst this
   rfl
 ·
  have ht63 : t ≤ 63 := by omega
  have hT64 : 2 ^ t ≤ 2 ^ 63 := Nat.pow_le_pow_right (by decide) ht63
  have hTh : 2 ^ (t - 1) ≤ 2 ^ 63 := Nat.pow_le_pow_right (by decide) (by omega)
  rw [w64 (n := (t : Int) - 1) (by omega) (by omega), show (t : Int) - 1 = ((t - 1 : Nat) : Int) by omega]
  have sh1 : ∀ j : Nat, j ≤ 63 → shl .u64 1 (j : Int) = ((2 ^ j : Nat) : Int) := by
   intro j hj
   unfold shl
   have e : min (j : Int).toNat IntKind.u64.bits = j := by rw [Int.toNat_natCast]; show min j 64 = j; omega
   rw [e, Int.one_mul]
   have e2 : (2 : Int) ^ j = ((2 ^ j : Nat) : Int) := by simp
   have := Nat.pow_le_pow_right (n := 2) (by decide) hj
   rw [e2]
   generalize 2 ^ j = z at *
   exact u64w (by omega) (by omega)
  have shr1 : shr .u64 (q : Int) (t : Int) = ((q / 2 ^ t : Nat) : Int) := by
   unfold shr
   have e : min (t : Int).toNat IntKind.u64.bits = t := by rw [Int.toNat_natCast]; show min t 64 = t; omega
   rw [e]; simp
  have msk : Go.bits .and .u64 (q : Int) (((2 ^ t : Nat) : Int) - 1) = ((q % 2 ^ t : Nat) : Int) := by
   have := bits_mask .u64 64 (by decide) wraps_u64 t (by omega) (q : Int) (by omega) (by omega)
   have e : ((2 : Int) ^ t) = ((2 ^ t : Nat) : Int) := by simp
   rw [e] at this
   rw [this]; exact (Int.natCast_emod ..).symm
  rw [sh1 t ht63, sh1 (t - 1) (by omega), shr1, u64w (n := ((2 ^ t : Nat) : Int) - 1) (by omega) (by omega), msk]
  have hE5 : E ≤ 100000 := by omega
  have j0 := fun r f hf => near_j0 (q / 2 ^ t) r E t e hx (by omega) hE5 hm53 hEm f hf
  rw [mod2]
  by_cases c1 : 2 ^ (t - 1) < q % 2 ^ t
  ·
   refine ⟨_, core 1 (.inl ⟨rfl, .inl c1⟩), ?_⟩
   exact Runs.no (by omega) (Runs.yes (by omega) (Runs.yes (by omega) (Runs.yes (by omega) (j0 1 true rfl))))
  ·
   by_cases c2 : q % 2 ^ t = 2 ^ (t - 1)
   ·
    cases hmore : more with
    | true =>
     rw [hmore] at hm
     have := of_decide_eq_true hm.symm
     refine ⟨_, core 1 (.inl ⟨rfl, .inr ⟨c2, .inl this⟩⟩), ?_⟩
     exact Runs.no (by omega) (Runs.yes (by omega) (Runs.yes (by omega) (Runs.no (by omega) (Runs.yes (by omega) (Runs.yes rfl (j0 1 true rfl))))))
    | false =>
     rw [hmore] at hm
     have := of_decide_eq_false hm.symm
     by_cases c3 : q / 2 ^ t % 2 = 1
     ·
      refine ⟨_, core 1 (.inl ⟨rfl, .inr ⟨c2, .inr c3⟩⟩), ?_⟩
      refine Runs.no (by omega) (Runs.yes (by omega) (Runs.yes (by omega) (Runs.no (by omega) (Runs.yes (by omega) (Runs.no Bool.false_ne_true (j0 1 _ ?_))))))
      rw [c3]; rfl
     ·
      refine ⟨_, core 0 (.inr ⟨rfl, .inr ⟨c2, by omega, by omega⟩⟩), ?_⟩
      refine Runs.no (by omega) (Runs.yes (by omega) (Runs.yes (by omega) (Runs.no (by omega) (Runs.yes (by omega) (Runs.no Bool.false_ne_true (j0 0 _ ?_))))))
      rw [show q / 2 ^ t % 2 = 0 by omega]; rfl
   ·
    refine ⟨_, core 0 (.inr ⟨rfl, .inl (by omega)⟩), ?_⟩
    exact Runs.no (by omega) (Runs.yes (by omega) (Runs.yes (by omega) (Runs.no (by omega) (Runs.no (by omega) (j0 0 false rfl)))))
end Go.Proofs.YtjlnfnfdibfniaaDoor.Pl
namespace Go.Proofs.YtjlnfnfdibfniaaDoor.Pl
open F Hd Go.RowKit Go.Proofs.YtjlnfnfdibfniaaDoorW.PrintWords Go.Proofs.YtjlnfnfdibfniaaDoorW.PrintMore
theorem extract_upto (s : ByteArray) (i : Nat) : (s.extract 0 i).data.toList = s.data.toList.take i := by
 rw [ByteArray.data_extract, Array.toList_extract]; simp
theorem extract_from (s : ByteArray) (a : Nat) : (s.extract a s.size).data.toList = s.data.toList.drop a := by
 rw [ByteArray.data_extract, Array.toList_extract]
 have : s.size = s.data.toList.length := by rw [Array.length_toList]; rfl
 rw [List.extract_eq_take_drop, this, List.take_of_length_le (by rw [List.length_drop]; omega)]
theorem len_data (s : ByteArray) : s.data.toList.length = s.size := by rw [Array.length_toList]; rfl
theorem bytes_ext {a b : ByteArray} (h : a.data.toList = b.data.toList) : a = b := by
 cases a; cases b; simp at h; simp [h]
theorem bt_get (s : ByteArray) (i : Nat) (h : i < s.data.toList.length) : bt s (i : Int) = (s.data.toList[i].toNat : Int) := by
 have h' : i < s.size := by rw [← len_data]; exact h
 unfold bt
 simp only [Int.toNat_natCast]
 rw [dif_pos h']
 simp [ByteArray.getElem_eq_getElem_data]
theorem digit_f (c : UInt8) : num_digit.f (c.toNat : Int) = some (isDig c) := by
 unfold num_digit.f isDig
 by_cases h : 48 ≤ c.toNat
 ·
  rw [if_pos (by omega)]
  have : decide ((c.toNat : Int) ≤ 57) = decide (c.toNat ≤ 57) := decide_eq_decide.2 (by omega)
  simp [h, this]
 ·
  rw [if_neg (by omega)]; simp [h]
theorem run_l0 (s : ByteArray) (hs : s.size ≤ 140737488351232) : ∀ (d i : Nat), i + d = s.data.toList.length → ∀ k, d < k → num_run.l0 k s (i : Int) = some (((i + ((s.data.toList.drop i).takeWhile isDig).length : Nat)) : Int) := by
 intro d
 induction d with
 | zero =>
  intro i hi k hk
  obtain ⟨k, rfl⟩ : ∃ k', k = k' + 1 := ⟨k - 1, by omega⟩
  rw [num_run.l0, if_neg (by rw [← len_data]; omega), List.drop_of_length_le (by omega)]
  simp
 | succ d ih =>
  intro i hi k hk
  obtain ⟨k, rfl⟩ : ∃ k', k = k' + 1 := ⟨k - 1, by omega⟩
  have hl : i < s.data.toList.length := by omega
  rw [num_run.l0, if_pos (by rw [← len_data]; omega), if_pos (by omega), bt_get s i hl, digit_f, Option.bind_some, List.drop_eq_getElem_cons hl, List.takeWhile_cons]
  have hlen := len_data s
  cases hd : isDig s.data.toList[i] with
  | true =>
   have hw : wrap64 ((i : Int) + 1) = ((i + 1 : Nat) : Int) := by rw [w64 (by omega) (by omega)]; omega
   rw [if_pos rfl, if_pos rfl, hw, ih (i + 1) (by omega) k (by omega), List.length_cons]
   congr 1; omega
  | false => rw [if_neg (by decide), if_neg (by decide)]; simp
theorem run_f (s : ByteArray) (hs : s.size ≤ 140737488351232) (k : Nat) (hk : s.size < k) : num_run.f k s = some ((s.data.toList.takeWhile isDig).length : Int) := by
 unfold num_run.f
 have := run_l0 s hs s.data.toList.length 0 (by omega) k (by rw [len_data]; exact hk)
 simpa using this
theorem takeWhile_all (l : List UInt8) : (l.takeWhile isDig).length = l.length ↔ ∀ c ∈ l, isDig c = true := by
 induction l with
 | nil => simp
 | cons a l ih =>
  rw [List.takeWhile_cons]
  cases h : isDig a with
  | true => simp [ih, h]
  | false => simp [h]
theorem sub48 (c : UInt8) (h : isDig c = true) : ((c.toNat : Int) - 48) % 256 = ((c.toNat - 48 : Nat) : Int) ∧ c.toNat - 48 ≤ 9 := by
 simp only [isDig, Bool.and_eq_true, decide_eq_true_eq] at h
 omega
end Go.Proofs.YtjlnfnfdibfniaaDoor.Pl
namespace Go.Proofs.YtjlnfnfdibfniaaDoor.Pl
open F Hd Go.RowKit Go.Proofs.YtjlnfnfdibfniaaDoorW.PrintWords Go.Proofs.YtjlnfnfdibfniaaDoorW.PrintMore
theorem few_two {n m : Nat} (h : n < 2 ^ m) (hm : m ≤ 31000000) : Few n := by
 refine few_of (s := m / 32 + 1) (Nat.lt_of_lt_of_le h ?_) (by omega)
 rw [show (4294967296 : Nat) = 2 ^ 32 by decide, ← Nat.pow_mul]
 exact Nat.pow_le_pow_right (by decide) (by omega)
theorem L_len (r : Nat) : decide ((0 : Nat) < (L r).length) = decide (0 < r) := by
 rcases Nat.eq_zero_or_pos r with h | h
 ·
  rw [h, L_zero]; rfl
 ·
  obtain ⟨l, x, e, _, _⟩ := lim_last (B := 4294967296) (by decide) r h
  have : 0 < (L r).length := by unfold L; rw [e]; simp
  rw [decide_eq_true this, decide_eq_true h]
theorem bits_l1 (s : Nat) (x7 : Int) (hs : Few (s * 2 ^ 58)) (K : Int) : ∀ j : Nat, j ≤ 58 → ∀ r q : Nat, Few r → r < s * 2 ^ j → q % 2 ^ j = 0 → q + 2 ^ j ≤ 2 ^ 58 →
  Runs (fun k => num_nearest.f k ((q + r / s : Nat) : Int) (wrap64 (-x7)) (decide (0 < r % s))) K → Runs (fun k => num_decimal_bits.l1 k (L r) (L s) x7 (q : Int) ((j : Int) - 1)) K := by
 intro j
 induction j with
 | zero =>
  intro _ r q hr hlt _ _ hK
  rw [Nat.pow_zero, Nat.mul_one] at hlt
  rw [Nat.div_eq_of_lt hlt, Nat.mod_eq_of_lt hlt, Nat.add_zero] at hK
  refine Runs.suc ?_
  simp only [num_decimal_bits.l1]
  refine Runs.no (by omega) ?_
  have e : decide ((0 : Int) < ((L r).length : Int)) = decide (0 < r) := by
   rw [← L_len r]; exact decide_eq_decide.2 (by omega)
  simp only [L_len]
  exact Runs.bind hK (Runs.pure _)
 | succ j ih =>
  intro hj r q hr hlt hq hqb hK
  refine Runs.suc ?_
  simp only [num_decimal_bits.l1]
  rw [show ((j + 1 : Nat) : Int) - 1 = (j : Int) by omega, w64 (n := (j : Int) - 1) (by omega) (by omega)]
  have hp : 2 ^ (j + 1) = 2 * 2 ^ j := by rw [Nat.pow_succ, Nat.mul_comm]
  have hp58 : 2 ^ (j + 1) ≤ 2 ^ 58 := Nat.pow_le_pow_right (by decide) hj
  have hst : s * 2 ^ j ≤ s * 2 ^ 58 := Nat.mul_le_mul_left _ (by omega)
  have hs1 : Few s := few_mono (Nat.le_mul_of_pos_right s (Nat.two_pow_pos 58)) hs
  refine Runs.yes (by omega) (Runs.bind (up_f s j hs1 (by omega)) (Runs.bind (against_f r (s * 2 ^ j) hr) ?_))
  have hq2 : q % 2 ^ j = 0 := by
   have h1 : 2 ^ j ∣ 2 ^ (j + 1) := ⟨2, by rw [hp]; exact Nat.mul_comm ..⟩
   exact Nat.mod_eq_zero_of_dvd (Nat.dvd_trans h1 (Nat.dvd_of_mod_eq_zero hq))
  by_cases hc : s * 2 ^ j ≤ r
  ·
   refine Runs.yes (by unfold cmpN; rw [if_neg (by omega)]; split <;> omega) (Runs.bind (less_f r (s * 2 ^ j) hr hc) ?_)
   refine Runs.yes (by omega) ?_
   have hsh : shl .u64 1 (j : Int) = ((2 ^ j : Nat) : Int) := by
    unfold shl
    have e : min (j : Int).toNat IntKind.u64.bits = j := by rw [Int.toNat_natCast]; show min j 64 = j; omega
    rw [e, Int.one_mul]
    have e2 : (2 : Int) ^ j = ((2 ^ j : Nat) : Int) := by simp
    rw [e2]
    generalize 2 ^ j = z at *
    exact u64w (by omega) (by omega)
   have hor : Go.bits .or .u64 (q : Int) ((2 ^ j : Nat) : Int) = ((q + 2 ^ j : Nat) : Int) := by
    have e64 : (2 : Int) ^ 64 = 18446744073709551616 := by decide
    have ej : ((2 : Int) ^ (j + 1)) = ((2 ^ (j + 1) : Nat) : Int) := by simp
    have hlt2 : 2 ^ j < 2 ^ (j + 1) := by have := Nat.two_pow_pos j; omega
    rw [bits_join .u64 64 (by decide) wraps_u64 (j + 1) (q : Int) _ (by omega) (by rw [ej, ← Int.natCast_emod, hq]; rfl) (by rw [e64]; omega) (Int.natCast_nonneg _) (by rw [ej]; exact Int.ofNat_lt.2 hlt2) (by rw [e64]; generalize 2 ^ j = z at *; omega)]
    exact (Int.natCast_add ..).symm
   rw [hsh, hor]
   have hs0 : 0 < s := by
    rcases Nat.eq_zero_or_pos s with h | h
    ·
     rw [h] at hlt; simp at hlt
    ·
     exact h
   have e1 : r = r - s * 2 ^ j + s * 2 ^ j := by omega
   have hdiv : r / s = (r - s * 2 ^ j) / s + 2 ^ j := by
    rw [e1, Nat.add_mul_div_left _ _ hs0, ← e1]
   have hmod : r % s = (r - s * 2 ^ j) % s := by
    rw [e1, Nat.add_mul_mod_self_left, ← e1]
   have hlt3 : r - s * 2 ^ j < s * 2 ^ j := by
    rw [hp, show s * (2 * 2 ^ j) = 2 * (s * 2 ^ j) by rw [Nat.mul_left_comm]] at hlt
    omega
   refine ih (by omega) (r - s * 2 ^ j) (q + 2 ^ j) (few_mono (Nat.sub_le ..) hr) hlt3 ?_ (by omega) ?_
   ·
    rw [Nat.add_mod, hq2, Nat.mod_self]; simp
   ·
    rw [← hmod, Nat.add_assoc, Nat.add_comm (2 ^ j), ← hdiv]; exact hK
  ·
   refine Runs.no (by unfold cmpN; rw [if_pos (by omega)]; omega) ?_
   exact ih (by omega) r q hr (by omega) hq2 (by omega) hK
theorem eq_aux1 (x s T Q : Nat) : x * (s * (T * Q)) = x * (s * Q) * T := by grind
theorem eq_aux2 (y r T : Nat) : y * (r * T * 1) = y * r * T := by grind
theorem eq_aux3 (y r T Q : Nat) : y * (r * T * Q) = y * (r * Q) * T := by grind
theorem bits_j2 (r s S : Nat) (hr0 : 0 < r) (hs0 : 0 < s) (hr : r < 2 ^ S) (hs : s < 2 ^ S) (hS : S ≤ 20000) :
  ∃ K : Nat, IsNear (r * 2 ^ 1074) s K ∧ Runs (fun k => num_decimal_bits.j2 k (L r) (L s)) (K : Int) := by
 obtain ⟨a, ea, a1, a2, a3⟩ := size_f r (few_two hr (by omega))
 obtain ⟨b, eb, b1, b2, b3⟩ := size_f s (few_two hs (by omega))
 obtain ⟨a2, a4⟩ := a2 hr0
 obtain ⟨b2, b4⟩ := b2 hs0
 have haS : a ≤ S := by
  rcases Nat.lt_or_ge S a with c | c
  ·
   have := Nat.pow_le_pow_right (n := 2) (by decide) (show S ≤ a - 1 by omega); omega
  ·
   exact c
 have hbS : b ≤ S := by
  rcases Nat.lt_or_ge S b with c | c
  ·
   have := Nat.pow_le_pow_right (n := 2) (by decide) (show S ≤ b - 1 by omega); omega
  ·
   exact c
 have main : ∀ (r1 s1 A B : Nat) (sh : Int), (A : Int) - B = 1074 - sh → A ≤ 50000 → B ≤ 50000 → -30000 ≤ sh → sh ≤ 30000 → (∃ S2, r1 < 2 ^ S2 ∧ s1 < 2 ^ S2 ∧ S2 ≤ 60000) → s1 * 2 ^ 55 ≤ r1 → r1 < s1 * 2 ^ 57 → (∀ x y : Nat, x * s1 ≤ y * r1 ↔ x * (s * 2 ^ A) ≤ y * (r * 2 ^ 1074 * 2 ^ B)) → (∀ x y : Nat, x * s1 < y * r1 ↔ x * (s * 2 ^ A) < y * (r * 2 ^ 1074 * 2 ^ B)) →
   ∃ K : Nat, IsNear (r * 2 ^ 1074) s K ∧ Runs (fun k => num_decimal_bits.j3 k (L r1) (L s1) sh) (K : Int) := by
  intro r1 s1 A B sh hAB hA hB hsh0 hsh1 hS2 hlo hhi hle hlt
  obtain ⟨S2, hr1, hs1, hS2⟩ := hS2
  have hs10 : 0 < s1 := by
   rcases Nat.eq_zero_or_pos s1 with h | h
   ·
    rw [h] at hhi; simp at hhi
   ·
    exact h
  have hq0 : 2 ^ 55 ≤ r1 / s1 := (Nat.le_div_iff_mul_le hs10).2 (by rw [Nat.mul_comm]; exact hlo)
  have hq1 : r1 / s1 < 2 ^ 57 := Nat.div_lt_of_lt_mul hhi
  have hdm := Nat.div_add_mod r1 s1
  have hml := Nat.mod_lt r1 hs10
  have c1 : r1 / s1 * (s * 2 ^ A) ≤ r * 2 ^ 1074 * 2 ^ B := by
   have := (hle (r1 / s1) 1).1 (by rw [Nat.one_mul]; exact Nat.div_mul_le_self ..)
   rwa [Nat.one_mul] at this
  have c2 : r * 2 ^ 1074 * 2 ^ B < (r1 / s1 + 1) * (s * 2 ^ A) := by
   have h : ¬ (r1 / s1 + 1) * s1 ≤ 1 * r1 := by
    rw [Nat.one_mul, Nat.add_mul, Nat.one_mul, Nat.mul_comm (r1 / s1)]; omega
   have := Nat.lt_of_not_le (fun g => h ((hle (r1 / s1 + 1) 1).2 g))
   rwa [Nat.one_mul] at this
  have c3 : decide (0 < r1 % s1) = decide (r1 / s1 * (s * 2 ^ A) < r * 2 ^ 1074 * 2 ^ B) := by
   have h := hlt (r1 / s1) 1
   rw [Nat.one_mul, Nat.one_mul] at h
   refine decide_eq_decide.2 (Iff.trans ?_ h)
   rw [Nat.mul_comm (r1 / s1)]; omega
  obtain ⟨K, hK, hrun⟩ := nearest_f (r1 / s1) (-sh) (decide (0 < r1 % s1)) (r * 2 ^ 1074) s A B (by omega) (by omega) (by omega) hA hB c1 c2 c3
  refine ⟨K, hK, Runs.suc ?_⟩
  simp only [num_decimal_bits.j3]
  have hfr : Few r1 := few_two hr1 (by omega)
  have hfs : Few (s1 * 2 ^ 58) := few_two (m := S2 + 58) (by rw [Nat.pow_add]; exact Nat.mul_lt_mul_of_pos_right hs1 (Nat.two_pow_pos 58)) (by omega)
  have hhi2 : r1 < s1 * 2 ^ 58 := Nat.lt_of_lt_of_le hhi (Nat.mul_le_mul_left _ (by decide))
  refine bits_l1 s1 sh hfs (K : Int) 58 (Nat.le_refl _) r1 0 hfr hhi2 (Nat.zero_mod _) (by decide) ?_
  rw [Nat.zero_add, w64 (by omega) (by omega)]
  exact hrun
 have hsz : ∀ (n c : Nat), (∀ r, num_nat_size.f (L n) = some r ↔ r = (c : Int)) → num_nat_size.f (L n) = some (c : Int) := fun n c h => (h _).2 rfl
 have e1 := hsz r a ea
 have e2 := hsz s b eb
 have hsh : wrap64 (56 - (wrap64 ((a : Int) - (b : Int)))) = 56 - ((a : Int) - b) := by rw [w64 (n := (a : Int) - b) (by omega) (by omega), w64 (by omega) (by omega)]
 have ha1 : 2 ^ a = 2 * 2 ^ (a - 1) := by rw [← Nat.pow_succ']; congr 1; omega
 have hb1 : 2 ^ b = 2 * 2 ^ (b - 1) := by rw [← Nat.pow_succ']; congr 1; omega
 by_cases hc : (a : Int) - b ≤ 56
 ·
  obtain ⟨n, hn⟩ : ∃ n : Nat, (n : Int) = 56 - ((a : Int) - b) := ⟨(56 - ((a : Int) - b)).toNat, by omega⟩
  have hr1 : r * 2 ^ n < 2 ^ (S + S + 100) := by
   have h1 : r * 2 ^ n < 2 ^ S * 2 ^ n := Nat.mul_lt_mul_of_pos_right hr (Nat.two_pow_pos n)
   rw [← Nat.pow_add] at h1
   exact Nat.lt_of_lt_of_le h1 (Nat.pow_le_pow_right (by decide) (by omega))
  have hs1 : s < 2 ^ (S + S + 100) := Nat.lt_of_lt_of_le hs (Nat.pow_le_pow_right (by decide) (by omega))
  have hlo : s * 2 ^ 55 ≤ r * 2 ^ n := by
   have h1 : s * 2 ^ 55 ≤ 2 ^ b * 2 ^ 55 := Nat.mul_le_mul_right _ (Nat.le_of_lt b1)
   have h2 : 2 ^ (a - 1) * 2 ^ n ≤ r * 2 ^ n := Nat.mul_le_mul_right _ a4
   rw [← Nat.pow_add] at h1 h2
   rw [show b + 55 = a - 1 + n by omega] at h1
   exact Nat.le_trans h1 h2
  have hhi : r * 2 ^ n < s * 2 ^ 57 := by
   have h1 : r * 2 ^ n < 2 ^ a * 2 ^ n := Nat.mul_lt_mul_of_pos_right a1 (Nat.two_pow_pos n)
   have h2 : 2 ^ (b - 1) * 2 ^ 57 ≤ s * 2 ^ 57 := Nat.mul_le_mul_right _ b4
   rw [← Nat.pow_add] at h1 h2
   rw [show a + n = b - 1 + 57 by omega] at h1
   exact Nat.lt_of_lt_of_le h1 h2
  have hT : 0 < 2 ^ 1074 := Nat.two_pow_pos 1074
  have eq1 : ∀ x y : Nat, x * (s * 2 ^ 1074) = x * s * 2 ^ 1074 ∧ y * (r * 2 ^ 1074 * 2 ^ n) = y * (r * 2 ^ n) * 2 ^ 1074 := by
   intro x y
   generalize 2 ^ 1074 = T
   exact ⟨(Nat.mul_assoc ..).symm, eq_aux3 y r T (2 ^ n)⟩
  obtain ⟨K, hK, hrun⟩ := main (r * 2 ^ n) s 1074 n (n : Int) (by omega) (by decide) (by omega) (by omega) (by omega) ⟨_, hr1, hs1, by omega⟩ hlo hhi
   (fun x y => by rw [(eq1 x y).1, (eq1 x y).2]; exact ⟨fun h => Nat.mul_le_mul_right _ h, fun h => Nat.le_of_mul_le_mul_right h hT⟩)
   (fun x y => by rw [(eq1 x y).1, (eq1 x y).2]; exact ⟨fun h => Nat.mul_lt_mul_of_pos_right h hT, fun h => Nat.lt_of_mul_lt_mul_right h⟩)
  refine ⟨K, hK, Runs.suc ?_⟩
  simp only [num_decimal_bits.j2, e1, e2, Option.bind_some]
  rw [hsh, ← hn]
  exact Runs.yes (by omega) (Runs.bind (up_f r n (few_two hr (by omega)) (by omega)) hrun)
 ·
  obtain ⟨n, hn⟩ : ∃ n : Nat, (n : Int) = ((a : Int) - b) - 56 := ⟨(((a : Int) - b) - 56).toNat, by omega⟩
  have hr1 : r < 2 ^ (S + S + 100) := Nat.lt_of_lt_of_le hr (Nat.pow_le_pow_right (by decide) (by omega))
  have hs1 : s * 2 ^ n < 2 ^ (S + S + 100) := by
   have h1 : s * 2 ^ n < 2 ^ S * 2 ^ n := Nat.mul_lt_mul_of_pos_right hs (Nat.two_pow_pos n)
   rw [← Nat.pow_add] at h1
   exact Nat.lt_of_lt_of_le h1 (Nat.pow_le_pow_right (by decide) (by omega))
  have hlo : s * 2 ^ n * 2 ^ 55 ≤ r := by
   have h1 : s * (2 ^ n * 2 ^ 55) ≤ 2 ^ b * (2 ^ n * 2 ^ 55) := Nat.mul_le_mul_right _ (Nat.le_of_lt b1)
   rw [← Nat.mul_assoc, ← Nat.pow_add, ← Nat.pow_add] at h1
   rw [show b + (n + 55) = a - 1 by omega] at h1
   exact Nat.le_trans h1 a4
  have hhi : r < s * 2 ^ n * 2 ^ 57 := by
   have h2 : 2 ^ (b - 1) * (2 ^ n * 2 ^ 57) ≤ s * (2 ^ n * 2 ^ 57) := Nat.mul_le_mul_right _ b4
   rw [← Nat.mul_assoc s, ← Nat.pow_add, ← Nat.pow_add] at h2
   rw [show b - 1 + (n + 57) = a by omega] at h2
   exact Nat.lt_of_lt_of_le a1 h2
  have hT : 0 < 2 ^ 1074 := Nat.two_pow_pos 1074
  have eq1 : ∀ x y : Nat, x * (s * 2 ^ (1074 + n)) = x * (s * 2 ^ n) * 2 ^ 1074 ∧ y * (r * 2 ^ 1074 * 2 ^ 0) = y * r * 2 ^ 1074 := by
   intro x y
   rw [Nat.pow_add 2 1074 n, Nat.pow_zero]
   generalize 2 ^ 1074 = T
   exact ⟨eq_aux1 x s T (2 ^ n), eq_aux2 y r T⟩
  obtain ⟨K, hK, hrun⟩ := main r (s * 2 ^ n) (1074 + n) 0 (-(n : Int)) (by omega) (by omega) (by omega) (by omega) (by omega) ⟨_, hr1, hs1, by omega⟩ hlo hhi
   (fun x y => by rw [(eq1 x y).1, (eq1 x y).2]; exact ⟨fun h => Nat.mul_le_mul_right _ h, fun h => Nat.le_of_mul_le_mul_right h hT⟩)
   (fun x y => by rw [(eq1 x y).1, (eq1 x y).2]; exact ⟨fun h => Nat.mul_lt_mul_of_pos_right h hT, fun h => Nat.lt_of_mul_lt_mul_right h⟩)
  refine ⟨K, hK, Runs.suc ?_⟩
  simp only [num_decimal_bits.j2, e1, e2, Option.bind_some]
  rw [hsh, show 56 - ((a : Int) - b) = -(n : Int) by omega]
  refine Runs.no (by omega) ?_
  rw [w64 (n := - -(n : Int)) (by omega) (by omega), Int.neg_neg]
  exact Runs.bind (up_f s n (few_two hs (by omega)) (by omega)) hrun
end Go.Proofs.YtjlnfnfdibfniaaDoor.Pl
namespace Go.Proofs.YtjlnfnfdibfniaaDoor.Pl
open F Hd Go.RowKit Go.Proofs.YtjlnfnfdibfniaaDoorW.PrintWords Go.Proofs.YtjlnfnfdibfniaaDoorW.PrintMore
def mk (l : List UInt8) : ByteArray := ⟨l.toArray⟩
theorem mk_data (l : List UInt8) : (mk l).data.toList = l := by simp [mk]
theorem mk_size (l : List UInt8) : (mk l).size = l.length := by rw [← len_data, mk_data]
theorem mk_list (l : List UInt8) : (mk l).toList = l := by rw [ByteArray.toList_eq, mk_data]
theorem mk_upto (l : List UInt8) (i : Nat) : (mk l).extract 0 i = mk (l.take i) := bytes_ext (by rw [extract_upto, mk_data, mk_data])
theorem mk_from (l : List UInt8) (i : Nat) : (mk l).extract i l.length = mk (l.drop i) := bytes_ext (by rw [← mk_size l, extract_from, mk_data, mk_data])
theorem mk_part (l : List UInt8) (i j : Nat) : (mk l).extract i j = mk ((l.drop i).take (j - i)) := bytes_ext (by
 rw [ByteArray.data_extract, Array.toList_extract, List.extract_eq_take_drop, mk_data, mk_data])
theorem mk_append (a b : List UInt8) : mk a ++ mk b = mk (a ++ b) := bytes_ext (by rw [mk_data]; simp [ByteArray.data_append, mk])
theorem mk_bt (l : List UInt8) (i : Nat) (h : i < l.length) : bt (mk l) (i : Int) = (l[i].toNat : Int) := by
 rw [bt_get (mk l) i (by rw [mk_data]; exact h)]; simp [mk_data]
theorem mk_bt0 (c : UInt8) (r : List UInt8) : bt (mk (c :: r)) 0 = (c.toNat : Int) := mk_bt (c :: r) 0 (by simp)
theorem val_append (a b : List UInt8) : val (a ++ b) = val a * 10 ^ b.length + val b := by
 induction b using snoc_ind with
 | h0 => simp [val]
 | h1 l c ih =>
  rw [← List.append_assoc, val_snoc, val_snoc, ih, List.length_append, List.length_singleton, Nat.pow_succ]
  grind
theorem val_cons_le (c : UInt8) (r : List UInt8) (h : 49 ≤ c.toNat) : 10 ^ r.length ≤ val (c :: r) := by
 have := val_append [c] r
 rw [List.singleton_append] at this
 rw [this]
 have h1 : 1 ≤ val [c] := by simp [val]; omega
 have := Nat.mul_le_mul_right (10 ^ r.length) h1
 omega
theorem pow10_lt (n : Nat) : 10 ^ n < 2 ^ (4 * n + 1) := by
 have : 10 ^ n ≤ 16 ^ n := Nat.pow_le_pow_left (by decide) n
 have e : (16 : Nat) ^ n = 2 ^ (4 * n) := by rw [Nat.pow_mul]
 have := Nat.two_pow_pos (4 * n)
 rw [Nat.pow_succ]; omega
theorem bits_end (v : Nat) (x : Int) (n : Nat) (hv0 : 0 < v) (hv : v < 10 ^ n) (hn : n ≤ 1000) (h1 : -330 ≤ (n : Int) + x) (h2 : (n : Int) + x ≤ 310) (sz : Int) (s : ByteArray) (_hsz : sz = (s.size : Int)) :
  ∃ K : Nat, DecNear v x K ∧ Runs (fun k => num_decimal_bits.l0 k (L v) sz sz s x) (K : Int) := by
 obtain ⟨S, hS⟩ : ∃ S, S = 6001 := ⟨_, rfl⟩
 have l1 : v * 10 ^ x.toNat < 2 ^ S := by
  have h3 : v * 10 ^ x.toNat < 10 ^ n * 10 ^ x.toNat := Nat.mul_lt_mul_of_pos_right hv (Nat.pow_pos (by decide))
  rw [← Nat.pow_add] at h3
  have h4 := pow10_lt (n + x.toNat)
  have h5 : 2 ^ (4 * (n + x.toNat) + 1) ≤ 2 ^ S := Nat.pow_le_pow_right (by decide) (by omega)
  exact Nat.lt_of_lt_of_le (Nat.lt_trans h3 h4) h5
 have l2 : 10 ^ (-x).toNat < 2 ^ S := by
  have h4 := pow10_lt (-x).toNat
  have h5 : 2 ^ (4 * (-x).toNat + 1) ≤ 2 ^ S := Nat.pow_le_pow_right (by decide) (by omega)
  exact Nat.lt_of_lt_of_le h4 h5
 obtain ⟨K, hK, hrun⟩ := bits_j2 (v * 10 ^ x.toNat) (10 ^ (-x).toNat) S (Nat.mul_pos hv0 (Nat.pow_pos (by decide))) (Nat.pow_pos (by decide)) l1 l2 (by omega)
 refine ⟨K, hK, Runs.suc ?_⟩
 simp only [num_decimal_bits.l0]
 refine Runs.no (by omega) (Runs.bind (of_f 1 (by decide)) ?_)
 by_cases hx : x ≥ 0
 ·
  refine Runs.yes hx ?_
  have e : (-x).toNat = 0 := by omega
  rw [e, Nat.pow_zero] at hrun
  have ex : x = (x.toNat : Int) := by omega
  rw [ex]
  have := tens_f v x.toNat (few_two l1 (by omega)) (by omega)
  refine Runs.bind this ?_
  exact hrun
 ·
  refine Runs.no hx ?_
  have e : x.toNat = 0 := by omega
  rw [e, Nat.pow_zero, Nat.mul_one] at hrun
  rw [w64 (by omega) (by omega)]
  have ex : -x = ((-x).toNat : Int) := by omega
  rw [ex]
  have := tens_f 1 (-x).toNat (by rw [Nat.one_mul]; exact few_two l2 (by omega)) (by omega)
  rw [Nat.one_mul] at this
  exact Runs.bind this hrun
theorem bits_l0 (l : List UInt8) (hd : ∀ c ∈ l, isDig c = true) (hlen : l.length ≤ 1000) (x : Int) (K : Int) (hK : Runs (fun k => num_decimal_bits.l0 k (L (val l)) (l.length : Int) (l.length : Int) (mk l) x) K) :
  ∀ d i, i + d = l.length → Runs (fun k => num_decimal_bits.l0 k (L (val (l.take i))) (l.length : Int) (i : Int) (mk l) x) K := by
 intro d
 induction d with
 | zero =>
  intro i hi
  obtain rfl : i = l.length := by omega
  rw [List.take_length]; exact hK
 | succ d ih =>
  intro i hi
  have hil : i < l.length := by omega
  refine Runs.suc ?_
  simp only [num_decimal_bits.l0]
  obtain ⟨e1, e2⟩ := sub48 l[i] (hd _ (List.getElem_mem hil))
  rw [mk_size, mk_bt l i hil, e1, w64 (by omega) (by omega)]
  have hv := val_lt (l.take i) (fun c hc => hd c (List.mem_of_mem_take hc))
  rw [List.length_take, Nat.min_eq_left (by omega)] at hv
  have hf : Few (val (l.take i)) := few_two (Nat.lt_trans hv (pow10_lt i)) (by omega)
  refine Runs.yes (by omega) (Runs.yes (by omega) (Runs.yes (by omega) (Runs.bind (times_f _ 10 (l[i].toNat - 48) hf (by decide) (by omega)) ?_)))
  have := ih (i + 1) (by omega)
  rw [List.take_succ_eq_append_getElem hil, val_snoc, Nat.mul_comm] at this
  exact this
theorem bits_f (l : List UInt8) (x : Int) (hd : ∀ c ∈ l, isDig c = true) (hz : ∀ c r, l = c :: r → 49 ≤ c.toNat) (hlen : l.length ≤ 1000) (hx0 : -1000000 ≤ x) (hx1 : x ≤ 1000000) :
  ∃ K : Nat, DecNear (val l) x K ∧ Runs (fun k => num_decimal_bits.f k (mk l) x) (K : Int) := by
 simp only [num_decimal_bits.f]
 rw [mk_list, mk_size, w64 (by omega) (by omega)]
 have hv := val_lt l hd
 rcases l with _ | ⟨c, r⟩
 ·
  refine ⟨0, ?_, Runs.yes rfl (Runs.suc ?_)⟩
  ·
   show IsNear (0 * _ * _) _ 0
   rw [none_aux]
   exact near_none (Nat.pow_pos (by decide))
  ·
   simp only [num_decimal_bits.j0]
   exact Runs.yes trivial (Runs.pure _)
 ·
  have hv0 := val_cons_le c r (hz c r rfl)
  have hp : 0 < 10 ^ r.length := Nat.pow_pos (by decide)
  have hl : (c :: r).length = r.length + 1 := rfl
  by_cases h1 : ((c :: r).length : Int) + x < -330
  ·
   refine ⟨0, dec_zero_small hv (by omega), Runs.no (by simp) (Runs.suc ?_)⟩
   simp only [num_decimal_bits.j0]
   exact Runs.yes (decide_eq_true h1) (Runs.pure _)
  ·
   by_cases h2 : ((c :: r).length : Int) + x > 310
   ·
    refine ⟨INF, dec_inf_great hv0 (by omega), Runs.no (by simp) (Runs.suc ?_)⟩
    simp only [num_decimal_bits.j0]
    exact Runs.no (by simpa using h1) (Runs.yes h2 (Runs.pure _))
   ·
    obtain ⟨K, hK, hrun⟩ := bits_end (val (c :: r)) x (c :: r).length (by omega) hv hlen (by omega) (by omega) ((c :: r).length : Int) (mk (c :: r)) (by rw [mk_size])
    refine ⟨K, hK, Runs.no (by simp) (Runs.suc ?_)⟩
    simp only [num_decimal_bits.j0]
    refine Runs.no (by simpa using h1) (Runs.no h2 ?_)
    rw [mk_size]
    have := bits_l0 (c :: r) hd hlen x (K : Int) hrun (c :: r).length 0 (by omega)
    rw [List.take_zero] at this
    rw [← L_zero]
    exact this
end Go.Proofs.YtjlnfnfdibfniaaDoor.Pl
namespace Go.Proofs.YtjlnfnfdibfniaaDoor.Pl
open F Hd Go.RowKit Go.Proofs.YtjlnfnfdibfniaaDoorW.PrintWords Go.Proofs.YtjlnfnfdibfniaaDoorW.PrintMore
theorem quo_rem (r s i : Nat) : r * 10 ^ i / s * s + rem r s i = r * 10 ^ i := by
 unfold rem
 rw [Nat.mul_comm]; exact Nat.div_add_mod ..
theorem dn_iff {K : Nat} {ev : Bool} {r s b a i : Nat} (hK : 0 < K) (ha : 0 < a) : dn r s b i ev = true ↔ RdK K ev i (r * 10 ^ i / s) r s b a := by
 have h := quo_rem r s i
 have hp : 0 < 10 ^ i := Nat.pow_pos (by decide)
 have h1 : 0 < 10 ^ i * a := Nat.mul_pos hp ha
 unfold dn dnB RdK
 rw [Bool.or_eq_true, decide_eq_true_eq, Bool.and_eq_true, decide_eq_true_eq, Nat.mul_add, Nat.mul_comm b, Nat.mul_comm (10 ^ i) r]
 generalize r * 10 ^ i / s * s = u at *
 generalize rem r s i = v at *
 generalize 10 ^ i * b = w at *
 generalize 10 ^ i * a = z at *
 constructor
 ·
  rintro (g | ⟨g, g2⟩)
  ·
   exact ⟨.inl (by omega), .inl (by omega), hK⟩
  ·
   exact ⟨.inr ⟨by omega, g2⟩, .inl (by omega), hK⟩
 ·
  rintro ⟨g | ⟨g, g2⟩, _, _⟩
  ·
   exact .inl (by omega)
  ·
   exact .inr ⟨by omega, g2⟩
theorem up_iff {K : Nat} {ev : Bool} {r s b a i : Nat} (hK : 0 < K) (hs : 0 < s) : up r s a i ev = true ↔ RdK K ev i (r * 10 ^ i / s + 1) r s b a := by
 have h := quo_rem r s i
 have hv : rem r s i < s := Nat.mod_lt _ hs
 unfold up upB RdK
 rw [Bool.or_eq_true, decide_eq_true_eq, Bool.and_eq_true, decide_eq_true_eq, Nat.mul_add, Nat.mul_comm a, Nat.mul_comm (10 ^ i) r, Nat.add_mul, Nat.one_mul]
 generalize r * 10 ^ i / s * s = u at *
 generalize rem r s i = v at *
 generalize 10 ^ i * b = w at *
 generalize 10 ^ i * a = z at *
 constructor
 ·
  rintro (g | ⟨g, g2⟩)
  ·
   exact ⟨.inl (by omega), .inl (by omega), hK⟩
  ·
   exact ⟨.inl (by omega), .inr ⟨by omega, g2⟩, hK⟩
 ·
  rintro ⟨_, g | ⟨g, g2⟩, _⟩
  ·
   exact .inl (by omega)
  ·
   exact .inr ⟨by omega, g2⟩
theorem RdK.ten {K : Nat} {ev : Bool} {r s b a i N : Nat} : RdK K ev (i + 1) (N * 10) r s b a ↔ RdK K ev i N r s b a := by
 unfold RdK
 rw [Nat.pow_succ]
 have e1 : 10 ^ i * 10 * r = 10 * (10 ^ i * r) := by grind
 have e2 : N * 10 * s = 10 * (N * s) := by grind
 have e3 : 10 ^ i * 10 * b = 10 * (10 ^ i * b) := by grind
 have e4 : 10 ^ i * 10 * (r + a) = 10 * (10 ^ i * (r + a)) := by grind
 rw [e1, e2, e3, e4]
 constructor
 ·
  rintro ⟨g1 | ⟨g1, g2⟩, g3 | ⟨g3, g4⟩, g5⟩
  ·
   exact ⟨.inl (by omega), .inl (by omega), g5⟩
  ·
   exact ⟨.inl (by omega), .inr ⟨by omega, g4⟩, g5⟩
  ·
   exact ⟨.inr ⟨by omega, g2⟩, .inl (by omega), g5⟩
  ·
   exact ⟨.inr ⟨by omega, g2⟩, .inr ⟨by omega, g4⟩, g5⟩
 ·
  rintro ⟨g1 | ⟨g1, g2⟩, g3 | ⟨g3, g4⟩, g5⟩
  ·
   exact ⟨.inl (by omega), .inl (by omega), g5⟩
  ·
   exact ⟨.inl (by omega), .inr ⟨by omega, g4⟩, g5⟩
  ·
   exact ⟨.inr ⟨by omega, g2⟩, .inl (by omega), g5⟩
  ·
   exact ⟨.inr ⟨by omega, g2⟩, .inr ⟨by omega, g4⟩, g5⟩
theorem quo_tenth (r s i : Nat) : r * 10 ^ (i + 1) / s / 10 = r * 10 ^ i / s := by
 rw [Nat.div_div_eq_div_mul, Nat.pow_succ, ← Nat.mul_assoc, Nat.mul_div_mul_right _ _ (by decide)]
theorem DigAt.adj_le {K : Nat} {ev : Bool} {J p q r s b a : Nat} (_h : DigAt K ev J p q r s b a) : adj r s b a J ev ≤ 1 := by
 unfold adj
 cases adjB (rem r s J) s (r * 10 ^ J / s) (dn r s b J ev) (up r s a J ev) <;> simp
theorem adj_up {r s b a J : Nat} {ev : Bool} (h : adj r s b a J ev = 1) : up r s a J ev = true := by
 unfold adj adjB at h
 cases hu : up r s a J ev with
 | true => rfl
 | false => rw [hu] at h; simp at h
theorem adj_down {r s b a J : Nat} {ev : Bool} (h : adj r s b a J ev = 0) (hy : dn r s b J ev = true ∨ up r s a J ev = true) : dn r s b J ev = true := by
 unfold adj adjB at h
 cases hd : dn r s b J ev with
 | true => rfl
 | false =>
  rw [hd] at h hy
  have hu : up r s a J ev = true := by rcases hy with g | g; cases g; exact g
  rw [hu] at h
  simp at h
theorem DigAt.read {K : Nat} {ev : Bool} {J p q r s b a : Nat} (h : DigAt K ev J p q r s b a) (hK : 0 < K) : RdK K ev J (r * 10 ^ J / s + adj r s b a J ev) r s b a := by
 have h1 := h.adj_le
 rcases (by omega : adj r s b a J ev = 0 ∨ adj r s b a J ev = 1) with c | c
 ·
  rw [c, Nat.add_zero]
  exact (dn_iff hK h.sc.ha).1 (adj_down c h.yes)
 ·
  rw [c]
  exact (up_iff hK h.sc.hs).1 (adj_up c)
theorem DigAt.none {K : Nat} {ev : Bool} {J p q r s b a : Nat} (h : DigAt K ev J p q r s b a) (hK : 0 < K) (i : Nat) (h1 : 1 ≤ i) (h2 : i < J) : ¬ RdK K ev i (r * 10 ^ i / s) r s b a ∧ ¬ RdK K ev i (r * 10 ^ i / s + 1) r s b a := by
 obtain ⟨g1, g2⟩ := h.no i h1 h2
 constructor
 ·
  intro g; rw [(dn_iff hK h.sc.ha).2 g] at g1; cases g1
 ·
  intro g; rw [(up_iff hK h.sc.hs).2 g] at g2; cases g2
theorem DigAt.carry {K : Nat} {ev : Bool} {J p q r s b a : Nat} (h : DigAt K ev J p q r s b a) (hK : 0 < K) : r * 10 ^ J / s % 10 + adj r s b a J ev ≤ 9 := by
 have h1 := h.adj_le
 have hm : r * 10 ^ J / s % 10 < 10 := Nat.mod_lt _ (by decide)
 rcases (by omega : adj r s b a J ev = 0 ∨ adj r s b a J ev = 1) with c | c
 ·
  omega
 ·
  rcases (by omega : r * 10 ^ J / s % 10 ≤ 8 ∨ r * 10 ^ J / s % 10 = 9) with d | d
  ·
   omega
  ·
   exfalso
   have hr := h.read hK
   rw [c] at hr
   obtain ⟨i, rfl⟩ : ∃ i, J = i + 1 := ⟨J - 1, by have := h.pos; omega⟩
   have ht := quo_tenth r s i
   have he : r * 10 ^ (i + 1) / s + 1 = (r * 10 ^ i / s + 1) * 10 := by omega
   rw [he, RdK.ten] at hr
   rcases Nat.eq_zero_or_pos i with hi | hi
   ·
    subst hi
    have h0 : r * 10 ^ 0 / s = 0 := by rw [Nat.pow_zero, Nat.mul_one]; exact Nat.div_eq_of_lt h.lt
    rw [h0] at hr
    obtain ⟨_, g, _⟩ := hr
    rw [Nat.pow_zero] at g
    rcases h.top with t | ⟨t, t2⟩
    ·
     rcases g with g | ⟨g, _⟩ <;> omega
    ·
     rcases g with g | ⟨_, g⟩
     ·
      omega
     ·
      rw [t2] at g; cases g
   ·
    exact (h.none hK i hi (by omega)).2 hr
def byt (l : List Nat) : List UInt8 := l.map (fun q => UInt8.ofNat (48 + q))
theorem quo_split (r s J : Nat) (hs : 0 < s) : r * 10 ^ (J + 1) / s = r * 10 / s * 10 ^ J + (r * 10 % s) * 10 ^ J / s := by
 have h1 : r * 10 ^ (J + 1) = (r * 10 % s) * 10 ^ J + s * (r * 10 / s * 10 ^ J) := by
  have := Nat.mod_add_div (r * 10) s
  rw [Nat.pow_succ]
  generalize r * 10 % s = u at *
  generalize r * 10 / s = v at *
  have h2 : r * (10 ^ J * 10) = (r * 10) * 10 ^ J := by grind
  rw [h2, ← this]; grind
 rw [h1, Nat.add_mul_div_left _ _ hs, Nat.add_comm]
theorem byt_len (l : List Nat) : (byt l).length = l.length := by unfold byt; simp
theorem val_byt1 (d : Nat) (h : d ≤ 9) : val [UInt8.ofNat (48 + d)] = d ∧ isDig (UInt8.ofNat (48 + d)) = true := by
 have := dig_of d (by omega)
 constructor
 ·
  unfold val
  simp only [List.foldl_cons, List.foldl_nil]
  omega
 ·
  simp only [isDig, Bool.and_eq_true, decide_eq_true_eq]; omega
theorem dg_len (s e : Nat) : ∀ J r, (dg J r s e).length = J := by
 intro J
 induction J with
 | zero => intro r; rfl
 | succ J ih =>
  intro r
  rw [dg]
  split
  ·
   rename_i h; subst h; rfl
  ·
   rw [List.length_cons, ih]
theorem dg_spec (s e : Nat) (hs : 0 < s) : ∀ J r, 1 ≤ J → r < s → r * 10 ^ J / s % 10 + e ≤ 9 → val (byt (dg J r s e)) = r * 10 ^ J / s + e ∧ (∀ c ∈ byt (dg J r s e), isDig c = true) ∧ (∀ d ∈ dg J r s e, d ≤ 9) := by
 intro J
 induction J with
 | zero => intro r h; omega
 | succ J ih =>
  intro r _ hr hc
  have hq : r * 10 / s ≤ 9 := by
   have : r * 10 / s < 10 := Nat.div_lt_of_lt_mul (by omega)
   omega
  rcases Nat.eq_zero_or_pos J with hJ | hJ
  ·
   subst hJ
   rw [dg, if_pos rfl]
   rw [Nat.zero_add, Nat.pow_one] at hc ⊢
   have hq2 : r * 10 / s + e ≤ 9 := by omega
   obtain ⟨v1, v2⟩ := val_byt1 _ hq2
   refine ⟨v1, ?_, ?_⟩
   ·
    intro c hc
    have : c = UInt8.ofNat (48 + (r * 10 / s + e)) := by simpa [byt] using hc
    rw [this]; exact v2
   ·
    intro d hd; rw [List.mem_singleton.1 hd]; exact hq2
  ·
   rw [dg, if_neg (by omega)]
   have hml : r * 10 % s < s := Nat.mod_lt _ hs
   have hqs := quo_succ r s J hs hJ
   obtain ⟨g1, g2, g3⟩ := ih (r * 10 % s) hJ hml (by rw [← hqs]; exact hc)
   obtain ⟨v1, v2⟩ := val_byt1 _ hq
   refine ⟨?_, ?_, ?_⟩
   ·
    have e1 : byt (r * 10 / s :: dg J (r * 10 % s) s e) = [UInt8.ofNat (48 + r * 10 / s)] ++ byt (dg J (r * 10 % s) s e) := rfl
    rw [e1, val_append, v1, g1, byt_len, dg_len, quo_split r s J hs, Nat.add_assoc]
   ·
    intro c hc
    rcases List.mem_cons.1 hc with rfl | hc
    ·
     exact v2
    ·
     exact g2 c hc
   ·
    intro d hd
    rcases List.mem_cons.1 hd with rfl | hd
    ·
     exact hq
    ·
     exact g3 d hd
theorem dg_take (s e : Nat) : ∀ J r, 1 ≤ J → (dg (J + 1) r s e).take J = dg J r s 0 := by
 intro J
 induction J with
 | zero => intro r h; omega
 | succ J ih =>
  intro r _
  rw [dg, if_neg (by omega), List.take_succ_cons]
  rcases Nat.eq_zero_or_pos J with hJ | hJ
  ·
   subst hJ
   rw [dg, if_pos rfl, Nat.add_zero]; rfl
  ·
   rw [ih _ hJ]
   conv => rhs; rw [dg, if_neg (by omega)]
theorem str_ints (l : List Nat) : strOfNums (ints l) = mk (byt l) := by
 refine bytes_ext ?_
 rw [mk_data]
 unfold strOfNums ints byt
 rw [List.map_map]
 show (List.map _ l).toArray.toList = _
 rw [List.toList_toArray]
 refine List.map_congr_left (fun d _ => ?_)
 simp only [Function.comp, Int.toNat_natCast]
theorem Sc.ratio {T K p q r s b a m E : Nat} (h : Sc T K p q r s b a) (hm : m < 9007199254740992) (hEm : E = 0 ∨ 4503599627370496 ≤ m) (hKE : K = E * 4503599627370496 + m) : r = 2 * m * a := by
 have r0 : rungVal K = m * 2 ^ E := by rw [hKE]; exact rung_of hEm hm
 have r1 : rungVal (K + 1) = (m + 1) * 2 ^ E := by rw [hKE]; exact rung_next hEm hm
 have hmid : mid K = (2 * m + 1) * 2 ^ E := by unfold mid; rw [r0, r1]; grind
 have hv := h.hv
 have hu := h.hu
 rw [r0] at hv
 rw [hmid] at hu
 have hp : 0 < 10 ^ q * T := Nat.mul_pos (Nat.pow_pos (by decide)) h.hT
 have e1 : 2 * a * (10 ^ q * T) = 2 ^ E * 10 ^ p * s := by
  have : 2 * (r + a) * 10 ^ q * T = 2 * (r * 10 ^ q * T) + 2 * a * (10 ^ q * T) := by grind
  rw [this, hv] at hu
  have h2 : (2 * m + 1) * 2 ^ E * 10 ^ p * s = 2 * (m * 2 ^ E * 10 ^ p * s) + 2 ^ E * 10 ^ p * s := by grind
  rw [h2] at hu
  omega
 have e2 : r * (10 ^ q * T) = 2 * m * a * (10 ^ q * T) := by
  have : r * (10 ^ q * T) = m * (2 ^ E * 10 ^ p * s) := by
   rw [← Nat.mul_assoc, hv]; grind
  rw [this, ← e1]; grind
 exact Nat.eq_of_mul_eq_mul_right hp e2
theorem split_K (K : Nat) (h : K < INF) : ∃ m E : Nat, m < 9007199254740992 ∧ (E = 0 ∨ 4503599627370496 ≤ m) ∧ K = E * 4503599627370496 + m := by
 obtain ⟨m, E, _, h1, h2, h3, _⟩ := parts_f K false h
 exact ⟨m, E, h1, h2, h3⟩
theorem DigAt.short {K : Nat} {ev : Bool} {J p q r s b a : Nat} (h : DigAt K ev J p q r s b a) (hK : K < INF) : J ≤ 18 := by
 rcases h.first with h1 | ⟨h1, _⟩
 ·
  obtain ⟨m, E, g1, g2, g3⟩ := split_K K hK
  have hr := h.sc.ratio g1 g2 g3
  have hle : s ≤ r * 10 := by
   rcases Nat.lt_or_ge (r * 10) s with c | c
   ·
    exact absurd (Nat.div_eq_of_lt c) h1
   ·
    exact c
  rcases Nat.lt_or_ge 18 J with c | c
  ·
   exfalso
   have hno := (h.no 18 (by omega) c).2
   unfold up upB at hno
   rw [Bool.or_eq_false_iff] at hno
   have hno := of_decide_eq_false hno.1
   apply hno
   have ha := h.sc.ha
   have e : 2 * m * a ≤ 18014398509481984 * a := Nat.mul_le_mul_right a (by omega)
   have e2 : (10 : Nat) ^ 18 = 1000000000000000000 := by decide
   rw [e2, hr] at *
   omega
  ·
   exact c
 ·
  omega
structure Short (K : Nat) (ds : List UInt8) (x : Int) : Prop where
 dig : ∀ c ∈ ds, isDig c = true
 pos : 1 ≤ ds.length
 len : ds.length ≤ 18
 near : DecNear (val ds) (x - ds.length) K
 cut : 2 ≤ ds.length → ¬ DecNear (val (ds.take (ds.length - 1))) (x - (ds.length - 1 : Nat)) K ∧ ¬ DecNear (val (ds.take (ds.length - 1)) + 1) (x - (ds.length - 1 : Nat)) K
 lo : -10000 ≤ x
 hi : x ≤ 10000
theorem short_num (K : Nat) (neg : Bool) (h0 : 0 < K) (hK : K < INF) : ∃ ds x, Short K ds x ∧ Runs (fun k => num_Digits.f k (K + signBit neg)) (mk ds, x, neg) := by
 obtain ⟨J, p, q, r, s, b, a, h, hp, hq, hrun⟩ := digits_num K neg h0 hK
 have hJ := h.short hK
 have hc := h.carry h0
 have hr := h.read h0
 have hpos := h.pos
 obtain ⟨g1, g2, g3⟩ := dg_spec s (adj r s b a J (decide (K % 2 = 0))) h.sc.hs J r hpos h.lt hc
 have hl : (byt (dg J r s (adj r s b a J (decide (K % 2 = 0))))).length = J := by rw [byt_len, dg_len]
 rw [str_ints] at hrun
 refine ⟨_, _, ⟨g2, by omega, by omega, ?_, ?_, by omega, by omega⟩, hrun⟩
 ·
  rw [g1, hl]
  exact (dec_iff h.sc h0 hK J _ _ rfl).2 hr
 ·
  rw [hl]
  intro h2
  obtain ⟨i, rfl⟩ : ∃ i, J = i + 1 := ⟨J - 1, by omega⟩
  rw [Nat.add_sub_cancel]
  have hi : 1 ≤ i := by omega
  have htk : (byt (dg (i + 1) r s (adj r s b a (i + 1) (decide (K % 2 = 0))))).take i = byt (dg i r s 0) := by
   unfold byt
   rw [← List.map_take, dg_take s _ i r hi]
  have hm9 : r * 10 ^ i / s % 10 + 0 ≤ 9 := by omega
  obtain ⟨v1, _, _⟩ := dg_spec s 0 h.sc.hs i r hi h.lt hm9
  rw [htk, v1, Nat.add_zero]
  obtain ⟨n1, n2⟩ := h.none h0 i hi (by omega)
  exact ⟨fun g => n1 ((dec_iff h.sc h0 hK i _ _ rfl).1 g), fun g => n2 ((dec_iff h.sc h0 hK i _ _ rfl).1 g)⟩
end Go.Proofs.YtjlnfnfdibfniaaDoor.Pl
namespace Go.Proofs.YtjlnfnfdibfniaaDoor.Pl
open F Hd Go.RowKit Go.Proofs.YtjlnfnfdibfniaaDoorW.PrintWords Go.Proofs.YtjlnfnfdibfniaaDoorW.PrintMore
def expText (e : Int) : List UInt8 := 101 :: (if e < 0 then 45 else 43) :: ((if e.natAbs < 10 then [48] else []) ++ dec e.natAbs)
def sci (ds : List UInt8) (e : Int) : List UInt8 := ds.take 1 ++ (if 1 < ds.length then 46 :: ds.drop 1 else []) ++ expText e
def body (ds : List UInt8) (x : Int) : List UInt8 :=
 if x < -5 ∨ 21 < x then sci ds (x - 1)
 else if x ≤ 0 then [48, 46] ++ List.replicate (-x).toNat 48 ++ ds
 else if (ds.length : Int) ≤ x then ds ++ List.replicate (x - ds.length).toNat 48
 else ds.take x.toNat ++ [46] ++ ds.drop x.toNat
def sgnText (neg : Bool) : List UInt8 := if neg = true then [45] else []
theorem rep_f (n : Nat) (h : n ≤ 1000) : strings_Repeat.f (⟨#[48]⟩ : ByteArray) (n : Int) = some (mk (List.replicate n 48)) := by
 unfold strings_Repeat.f
 have hs : (⟨#[48]⟩ : ByteArray).size = 1 := rfl
 rw [hs, Int.toNat_natCast, if_pos (by omega)]
 congr 1
 refine bytes_ext ?_
 rw [mk_data]
 show (Lib.repeatL [48] n).toArray.toList = _
 rw [List.toList_toArray]
 induction n with
 | zero => rfl
 | succ n ih =>
  have ih := ih (by omega)
  rw [List.replicate_succ, ← ih]; rfl
theorem dec_text (n : Nat) (h : n ≤ 1000000) : num_IntText.f (n : Int) = some (mk (dec n)) := by
 unfold num_IntText.f
 rw [if_pos (by omega)]
 show some (intText (n : Int)) = _
 unfold intText
 rw [if_neg (by omega), Int.toNat_natCast]; rfl
theorem sci_f (ds : List UInt8) (e : Int) (h1 : 1 ≤ ds.length) (h2 : ds.length ≤ 1000) (e0 : -100000 ≤ e) (e1 : e ≤ 100000) : Runs (fun k => num_scientific.f k (mk ds) e) (mk (sci ds e)) := by
 have g1 : ∀ a b : List UInt8, mk a ++ mk b = mk (a ++ b) := mk_append
 have hdl : (dec e.natAbs).length ≤ 20 := dec_length _
 have j0 : ∀ l : List UInt8, l.length ≤ 2000 → Runs (fun k => num_scientific.j0 k e (mk l)) (mk (l ++ expText e)) := by
  intro l hl
  have q4 : ∀ l : List UInt8, mk l ++ (⟨#[101]⟩ : ByteArray) = mk (l ++ [101]) := fun l => g1 l [101]
  have q5 : ∀ l : List UInt8, mk l ++ (⟨#[45]⟩ : ByteArray) = mk (l ++ [45]) := fun l => g1 l [45]
  have q6 : ∀ l : List UInt8, mk l ++ (⟨#[43]⟩ : ByteArray) = mk (l ++ [43]) := fun l => g1 l [43]
  have q7 : ∀ l : List UInt8, mk l ++ (⟨#[48]⟩ : ByteArray) = mk (l ++ [48]) := fun l => g1 l [48]
  refine Runs.suc ?_
  simp only [num_scientific.j0]
  rw [mk_size, q4]
  refine Runs.yes (by omega) (Runs.bind (Runs.pure _) ?_)
  by_cases hn : e < 0
  ·
   refine Runs.yes hn (Runs.yes (by rw [mk_size]; simp; omega) ?_)
   rw [q5]
   refine Runs.bind (Runs.pure _) ?_
   rw [w64 (n := -e) (by omega) (by omega), show -e = (e.natAbs : Int) by omega, dec_text _ (by omega)]
   by_cases h10 : e.natAbs < 10
   ·
    refine Runs.yes (by omega) (Runs.yes (by rw [mk_size]; simp; omega) ?_)
    rw [q7]
    refine Runs.bind (Runs.pure _) (Runs.bind (Runs.pure _) (Runs.yes (by rw [mk_size, mk_size]; simp; omega) ((Runs.pure _).of ?_)))
    rw [g1]
    unfold expText
    rw [if_pos hn, if_pos h10]
    simp
   ·
    refine Runs.no (by omega) (Runs.bind (Runs.pure _) (Runs.yes (by rw [mk_size, mk_size]; simp; omega) ((Runs.pure _).of ?_)))
    rw [g1]
    unfold expText
    rw [if_pos hn, if_neg h10]
    simp
  ·
   refine Runs.no hn (Runs.yes (by rw [mk_size]; simp; omega) ?_)
   rw [q6]
   refine Runs.bind (Runs.pure _) ?_
   have he : e = (e.natAbs : Int) := by omega
   have hdt : num_IntText.f e = some (mk (dec e.natAbs)) := by
    have := dec_text e.natAbs (by omega)
    rwa [← he] at this
   rw [hdt]
   by_cases h10 : e.natAbs < 10
   ·
    refine Runs.yes (by omega) (Runs.yes (by rw [mk_size]; simp; omega) ?_)
    rw [q7]
    refine Runs.bind (Runs.pure _) (Runs.bind (Runs.pure _) (Runs.yes (by rw [mk_size, mk_size]; simp; omega) ((Runs.pure _).of ?_)))
    rw [g1]
    unfold expText
    rw [if_neg hn, if_pos h10]
    simp
   ·
    refine Runs.no (by omega) (Runs.bind (Runs.pure _) (Runs.yes (by rw [mk_size, mk_size]; simp; omega) ((Runs.pure _).of ?_)))
    rw [g1]
    unfold expText
    rw [if_neg hn, if_neg h10]
    simp
 simp only [num_scientific.f]
 rw [mk_size, mk_upto]
 refine Runs.yes (by decide) (Runs.yes (by omega) (Runs.bind (Runs.pure _) ?_))
 unfold sci
 by_cases hl : 1 < ds.length
 ·
  rw [if_pos hl, mk_from]
  refine Runs.yes (by omega) (Runs.bind (Runs.pure _) (Runs.yes (by rw [mk_size, List.length_drop]; omega) ?_))
  have q8 : (⟨#[46]⟩ : ByteArray) ++ mk (ds.drop 1) = mk (46 :: ds.drop 1) := g1 [46] _
  rw [q8]
  refine Runs.bind (Runs.pure _) (Runs.yes (by rw [mk_size, mk_size]; simp; omega) ?_)
  rw [g1]
  exact j0 _ (by simp; omega)
 ·
  rw [if_neg hl, List.append_nil]
  exact Runs.no (by omega) (j0 _ (by rw [List.length_take]; omega))
theorem text_j1 (ds : List UInt8) (x : Int) (neg : Bool) (h1 : 1 ≤ ds.length) (h2 : ds.length ≤ 100) (e0 : -20000 ≤ x) (e1 : x ≤ 20000) (b : Bool) (hb : b = decide (x < -5 ∨ 21 < x)) : Runs (fun k => num_Text.j1 k (mk ds) x (mk (sgnText neg)) b) (mk (sgnText neg ++ body ds x)) := by
 have g1 : ∀ a b : List UInt8, mk a ++ mk b = mk (a ++ b) := mk_append
 have hsl : (sgnText neg).length ≤ 1 := by unfold sgnText; split <;> simp
 have hscl : ∀ e, (sci ds e).length ≤ 300 := by
  intro e
  unfold sci expText
  have := dec_length e.natAbs
  have h3 : (dec e.natAbs).length ≤ 20 := this
  have h4 : (if e.natAbs < 10 then ([48] : List UInt8) else []).length ≤ 1 := by split <;> simp
  split <;> split <;> simp <;> omega
 refine Runs.suc ?_
 simp only [num_Text.j1]
 rw [hb]
 by_cases c1 : x < -5 ∨ 21 < x
 ·
  have hbd : body ds x = sci ds (x - 1) := by unfold body; rw [if_pos c1]
  rw [hbd, decide_eq_true c1, w64 (by omega) (by omega)]
  have := hscl (x - 1)
  refine Runs.yes rfl (Runs.bind (sci_f ds (x - 1) h1 (by omega) (by omega) (by omega)) (Runs.yes (by rw [mk_size, mk_size]; omega) ((Runs.pure _).of (g1 _ _))))
 ·
  rw [decide_eq_false c1]
  refine Runs.no Bool.false_ne_true ?_
  by_cases c2 : x ≤ 0
  ·
   have hbd : body ds x = [48, 46] ++ List.replicate (-x).toNat 48 ++ ds := by unfold body; rw [if_neg c1, if_pos c2]
   obtain ⟨n, hn⟩ : ∃ n : Nat, (n : Int) = -x := ⟨(-x).toNat, by omega⟩
   rw [hbd, w64 (n := -x) (by omega) (by omega), ← hn, rep_f n (by omega), Int.toNat_natCast]
   have q1 : mk (sgnText neg) ++ (⟨#[48, 46]⟩ : ByteArray) = mk (sgnText neg ++ [48, 46]) := g1 _ [48, 46]
   rw [q1]
   refine Runs.yes c2 (Runs.yes (by rw [mk_size]; omega) (Runs.bind (Runs.pure _) (Runs.bind (Runs.pure _) ?_)))
   rw [g1]
   refine Runs.yes (by rw [mk_size, mk_size]; simp; omega) (Runs.bind (Runs.pure _) (Runs.yes (by rw [mk_size, mk_size]; simp; omega) ((Runs.pure _).of ?_)))
   rw [g1]
   simp
  ·
   rw [mk_size ds]
   refine Runs.no c2 ?_
   by_cases c3 : (ds.length : Int) ≤ x
   ·
    have hbd : body ds x = ds ++ List.replicate (x - ds.length).toNat 48 := by unfold body; rw [if_neg c1, if_neg c2, if_pos c3]
    obtain ⟨n, hn⟩ : ∃ n : Nat, (n : Int) = x - ds.length := ⟨(x - ds.length).toNat, by omega⟩
    rw [hbd, w64 (n := x - ds.length) (by omega) (by omega), ← hn, rep_f n (by omega), Int.toNat_natCast, g1]
    refine Runs.yes c3 (Runs.yes (by rw [mk_size]; omega) (Runs.bind (Runs.pure _) (Runs.bind (Runs.pure _) (Runs.yes (by rw [mk_size, mk_size]; simp; omega) ((Runs.pure _).of ?_)))))
    rw [g1]
    simp
   ·
    have hbd : body ds x = ds.take x.toNat ++ [46] ++ ds.drop x.toNat := by unfold body; rw [if_neg c1, if_neg c2, if_neg c3]
    rw [hbd, mk_upto, mk_from]
    refine Runs.no c3 (Runs.yes (by omega) (Runs.yes (by omega) (Runs.bind (Runs.pure _) ?_)))
    have q2 : ∀ l : List UInt8, mk l ++ (⟨#[46]⟩ : ByteArray) = mk (l ++ [46]) := fun l => g1 l [46]
    refine Runs.yes (by rw [mk_size, mk_size, List.length_take]; omega) (Runs.bind (Runs.pure _) ?_)
    rw [g1]
    refine Runs.yes (by rw [mk_size, List.length_append, List.length_take]; omega) (Runs.bind (Runs.pure _) ?_)
    rw [q2]
    refine Runs.bind (Runs.pure _) (Runs.yes (by rw [mk_size, mk_size, List.length_append, List.length_append, List.length_take, List.length_drop]; simp; omega) ((Runs.pure _).of ?_))
    rw [g1]
    simp
end Go.Proofs.YtjlnfnfdibfniaaDoor.Pl
namespace Go.Proofs.YtjlnfnfdibfniaaDoor.Pl
open F Hd Go.RowKit Go.Proofs.YtjlnfnfdibfniaaDoorW.PrintWords Go.Proofs.YtjlnfnfdibfniaaDoorW.PrintMore
theorem not_num (K : Nat) (neg : Bool) (h : INF < K) (hK : K < 9223372036854775808) : ¬ isNum (K + signBit neg) := by
 have hI : INF = 9218868437227405312 := rfl
 unfold isNum signBit
 have e63 : (2 : Nat) ^ 63 = 9223372036854775808 := by decide
 have e52 : 2047 * (2 : Nat) ^ 52 = 9218868437227405312 := by decide
 rw [e63, e52]
 cases neg with
 | true => rw [if_pos rfl]; omega
 | false => rw [if_neg Bool.false_ne_true]; omega
theorem nan_is {x : Nat} (h : ¬ isNum x) : math_IsNaN.f x = some true := by
 unfold math_IsNaN.f
 have : (FloatKind.f64.format.order x x == some Ordering.eq) = false := by
  rw [Bool.eq_false_iff]
  intro g
  exact h (eq_iff.1 g).1
 rw [bne, this]; rfl
theorem self_eq {x : Nat} (h : isNum x) : (FloatKind.f64.format.order x x == some Ordering.eq) = true := eq_iff.2 ⟨h, h, rfl⟩
theorem self_ne {x : Nat} (h : ¬ isNum x) : (FloatKind.f64.format.order x x == some Ordering.eq) = false := by
 rw [Bool.eq_false_iff]
 intro g
 exact h (eq_iff.1 g).1
theorem digits_none (K : Nat) (neg : Bool) (h : K = 0 ∨ INF ≤ K) (hK : K < 9223372036854775808) : Runs (fun k => num_Digits.f k (K + signBit neg)) (mk [], 0, neg) := by
 have hI : INF = 9218868437227405312 := rfl
 have j0 : ∀ b : Bool, b = true → Runs (fun k => num_Digits.j0 k (K + signBit neg) neg b) (mk [], 0, neg) := by
  intro b hb
  refine Runs.suc ?_
  simp only [num_Digits.j0]
  exact Runs.yes hb (Runs.pure _)
 simp only [num_Digits.f]
 rw [signbit_f K neg hK]
 refine Runs.bind (Runs.pure _) ?_
 by_cases c : (FloatKind.f64.format.order (K + signBit neg) 0 == some Ordering.eq) = true
 ·
  exact Runs.yes c (j0 true rfl)
 ·
  refine Runs.no c ?_
  have hK0 : INF ≤ K := by
   rcases h with h | h
   ·
    exfalso
    apply c
    have h2 : srung (K + signBit neg) = 0 := by
     rw [srung_sign K neg hK, h]
     split <;> rfl
    have hz : isNum 0 := by unfold isNum; omega
    exact eq_iff.2 ⟨isNum_sign K neg (by omega), hz, h2⟩
   ·
    exact h
  by_cases hi : K = INF
  ·
   subst hi
   rw [nan_no (isNum_sign INF neg (Nat.le_refl _))]
   refine Runs.bind (Runs.pure _) (Runs.no Bool.false_ne_true ?_)
   have hinf : math_IsInf.f (INF + signBit neg) 0 = some true := by
    unfold math_IsInf.f
    rw [if_pos rfl, abs_f INF neg (by omega), Option.bind_some]
    congr 1
   rw [hinf]
   exact Runs.bind (Runs.pure _) (j0 true rfl)
  ·
   rw [nan_is (not_num K neg (by omega) hK)]
   exact Runs.bind (Runs.pure _) (Runs.yes rfl (j0 true rfl))
theorem gt_no (K : Nat) (neg : Bool) (hK : K < INF) : (FloatKind.f64.format.order (K + signBit neg) 9218868437227405311 == some Ordering.gt) = false := by
 have hI : INF = 9218868437227405312 := rfl
 rw [Bool.eq_false_iff]
 intro g
 obtain ⟨_, _, h3⟩ := gt_iff.1 g
 have h0 : srung 9218868437227405311 = 9218868437227405311 := rfl
 rw [h0, srung_sign K neg (by omega)] at h3
 split at h3 <;> omega
theorem lt_no (K : Nat) (neg : Bool) (hK : K < INF) : (FloatKind.f64.format.order (K + signBit neg) 18442240474082181119 == some Ordering.lt) = false := by
 have hI : INF = 9218868437227405312 := rfl
 rw [Bool.eq_false_iff]
 intro g
 obtain ⟨_, _, h3⟩ := lt_iff.1 g
 have h0 : srung 18442240474082181119 = -9218868437227405311 := rfl
 rw [h0, srung_sign K neg (by omega)] at h3
 split at h3 <;> omega
theorem text_open (X : Nat) (ds : List UInt8) (x : Int) (neg : Bool) (R : ByteArray) (hd : Runs (fun k => num_Digits.f k X) (mk ds, x, neg)) (h : Runs (fun k => num_Text.j0 k X (mk ds) x (mk (sgnText neg))) R) : Runs (fun k => num_Text.f k X) R := by
 simp only [num_Text.f]
 refine Runs.bind hd ?_
 cases neg with
 | true => exact Runs.yes rfl h
 | false => exact Runs.no Bool.false_ne_true h
theorem text_num (K : Nat) (neg : Bool) (h0 : 0 < K) (hK : K < INF) : ∃ ds x, Short K ds x ∧ Runs (fun k => num_Digits.f k (K + signBit neg)) (mk ds, x, neg) ∧ Runs (fun k => num_Text.f k (K + signBit neg)) (mk (sgnText neg ++ body ds x)) := by
 obtain ⟨ds, x, hs, hd⟩ := short_num K neg h0 hK
 refine ⟨ds, x, hs, hd, text_open _ ds x neg _ hd (Runs.suc ?_)⟩
 simp only [num_Text.j0]
 rw [nan_no (isNum_sign K neg (by omega)), gt_no K neg hK, lt_no K neg hK, zero_no K neg h0 (by omega)]
 have hl := hs.lo
 have hh := hs.hi
 have hn := hs.len
 refine Runs.bind (Runs.pure _) (Runs.no Bool.false_ne_true (Runs.no Bool.false_ne_true (Runs.no Bool.false_ne_true (Runs.no Bool.false_ne_true ?_))))
 by_cases c : x < -5
 ·
  refine Runs.yes c (text_j1 ds x neg hs.pos (by omega) (by omega) (by omega) true ?_)
  symm; exact decide_eq_true (.inl c)
 ·
  refine Runs.no c (text_j1 ds x neg hs.pos (by omega) (by omega) (by omega) _ ?_)
  exact decide_eq_decide.2 ⟨fun h => .inr h, fun h => h.resolve_left c⟩
theorem text_zero (neg : Bool) : Runs (fun k => num_Text.f k (0 + signBit neg)) (mk (sgnText neg ++ [48])) := by
 have hI : INF = 9218868437227405312 := rfl
 refine text_open _ [] 0 neg _ (digits_none 0 neg (.inl rfl) (by decide)) (Runs.suc ?_)
 simp only [num_Text.j0]
 have hz : (FloatKind.f64.format.order (0 + signBit neg) 0 == some Ordering.eq) = true := by
  have h2 : srung (0 + signBit neg) = 0 := by
   rw [srung_sign 0 neg (by decide)]
   split <;> rfl
  have hz : isNum 0 := by unfold isNum; omega
  exact eq_iff.2 ⟨isNum_sign 0 neg (by omega), hz, h2⟩
 rw [nan_no (isNum_sign 0 neg (by omega)), gt_no 0 neg (by omega), lt_no 0 neg (by omega), hz]
 have hsl : (sgnText neg).length ≤ 1 := by unfold sgnText; split <;> simp
 refine Runs.bind (Runs.pure _) (Runs.no Bool.false_ne_true (Runs.no Bool.false_ne_true (Runs.no Bool.false_ne_true (Runs.yes rfl ?_))))
 exact Runs.yes (by rw [mk_size]; omega) ((Runs.pure _).of (mk_append _ [48]))
theorem text_inf (neg : Bool) : Runs (fun k => num_Text.f k (INF + signBit neg)) (mk ((if neg = true then 45 else 43) :: [73, 110, 102])) := by
 have hI : INF = 9218868437227405312 := rfl
 refine text_open _ [] 0 neg _ (digits_none INF neg (.inr (Nat.le_refl _)) (by decide)) (Runs.suc ?_)
 simp only [num_Text.j0]
 rw [nan_no (isNum_sign INF neg (Nat.le_refl _))]
 refine Runs.bind (Runs.pure _) (Runs.no Bool.false_ne_true ?_)
 cases neg with
 | true =>
  have h1 : (FloatKind.f64.format.order (INF + signBit true) 9218868437227405311 == some Ordering.gt) = false := by decide +kernel
  have h2 : (FloatKind.f64.format.order (INF + signBit true) 18442240474082181119 == some Ordering.lt) = true := by decide +kernel
  rw [h1, h2]
  exact Runs.no Bool.false_ne_true (Runs.yes rfl (Runs.pure _))
 | false =>
  have h1 : (FloatKind.f64.format.order (INF + signBit false) 9218868437227405311 == some Ordering.gt) = true := by decide +kernel
  rw [h1]
  exact Runs.yes rfl (Runs.pure _)
theorem text_nan (K : Nat) (neg : Bool) (h : INF < K) (hK : K < 9223372036854775808) : Runs (fun k => num_Text.f k (K + signBit neg)) (mk [78, 97, 78]) := by
 refine text_open _ [] 0 neg _ (digits_none K neg (.inr (by omega)) hK) (Runs.suc ?_)
 simp only [num_Text.j0]
 rw [nan_is (not_num K neg h hK)]
 exact Runs.bind (Runs.pure _) (Runs.yes rfl (Runs.pure _))
end Go.Proofs.YtjlnfnfdibfniaaDoor.Pl
namespace Go.Proofs.YtjlnfnfdibfniaaDoor.Pl
theorem IsNear.congr {N D N' D' K : Nat} (hD : 0 < D) (hD' : 0 < D') (he : N * D' = N' * D) (h : IsNear N D K) : IsNear N' D' K := by
 have e1 : ∀ m : Nat, m * D < 2 * N ↔ m * D' < 2 * N' := by
  intro m
  rw [← Nat.mul_lt_mul_right (a := D') hD', ← Nat.mul_lt_mul_right (a := D) hD (b := m * D')]
  have h1 : 2 * N * D' = 2 * N' * D := by rw [Nat.mul_assoc, he, Nat.mul_assoc]
  have h2 : m * D * D' = m * D' * D := Nat.mul_right_comm ..
  rw [h1, h2]
 have e2 : ∀ m : Nat, 2 * N < m * D ↔ 2 * N' < m * D' := by
  intro m
  rw [← Nat.mul_lt_mul_right (a := D') hD', ← Nat.mul_lt_mul_right (a := D) hD (b := 2 * N')]
  have h1 : 2 * N * D' = 2 * N' * D := by rw [Nat.mul_assoc, he, Nat.mul_assoc]
  have h2 : m * D * D' = m * D' * D := Nat.mul_right_comm ..
  rw [h1, h2]
 have e3 : ∀ m : Nat, m * D = 2 * N → m * D' = 2 * N' := by
  intro m hm
  have a := e1 m
  have b := e2 m
  omega
 refine ⟨h.le, fun h0 => ?_, fun hK => ?_⟩
 ·
  rcases h.lo h0 with g | ⟨g, g2⟩
  ·
   exact .inl ((e1 _).1 g)
  ·
   exact .inr ⟨e3 _ g, g2⟩
 ·
  rcases h.hi hK with g | ⟨g, g2⟩
  ·
   exact .inl ((e2 _).1 g)
  ·
   exact .inr ⟨(e3 _ g.symm).symm, g2⟩
theorem shift_aux (v A B C D T : Nat) (h : A * D = B * C) : v * A * T * D = v * B * T * C := by
 have e1 : v * A * T * D = v * T * (A * D) := by grind
 rw [e1, h]; grind
theorem DecNear.shift {v : Nat} {y : Int} {K : Nat} (j : Nat) (h : DecNear v (y + j) K) : DecNear (v * 10 ^ j) y K := by
 unfold DecNear at h ⊢
 refine h.congr (Nat.pow_pos (by decide)) (Nat.pow_pos (by decide)) ?_
 rw [Nat.mul_assoc v (10 ^ j)]
 refine shift_aux _ _ _ _ _ _ ?_
 rw [← Nat.pow_add, ← Nat.pow_add, ← Nat.pow_add]
 congr 1
 omega
end Go.Proofs.YtjlnfnfdibfniaaDoor.Pl

