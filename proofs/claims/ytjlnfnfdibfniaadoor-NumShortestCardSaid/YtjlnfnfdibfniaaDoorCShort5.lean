/- Words and walked functions of the proof (part 5). -/
import Derived.Test.YtjlnfnfdibfniaaDoorCShort4
import Derived.Laws.Bits64
import Derived.Laws.BitsLemmas
import Ieee.Arith
import GoSem.Core.Float
import Derived.Laws.FloatArith
import Derived.Laws.BitsAllLaws
namespace Go.Proofs.YtjlnfnfdibfniaaDoor.F
open Go.RowKit Go.Proofs.YtjlnfnfdibfniaaDoorW.PrintWords Go.Proofs.YtjlnfnfdibfniaaDoorW.PrintLast Go.Proofs.YtjlnfnfdibfniaaDoorW.PrintMore
attribute [local go_sem] max2_int min2_int max_two min_two max_three min_three max_four min_four
set_option linter.unusedVariables false
set_option linter.unusedSimpArgs false
mutual
def num_Text.j0 : Nat → Nat → ByteArray → Int → ByteArray → Option (ByteArray)
 | 0, _, _, _, _ => none
 | k + 1, x0, x3, x4, x6 => (math_IsNaN.f x0).bind fun t495 => (if t495 = true then (some (⟨#[78, 97, 78]⟩ : ByteArray)) else (if (FloatKind.f64.format.order x0 9218868437227405311 == some Ordering.gt) = true then (some (⟨#[43, 73, 110, 102]⟩ : ByteArray)) else (if (FloatKind.f64.format.order x0 18442240474082181119 == some Ordering.lt) = true then (some (⟨#[45, 73, 110, 102]⟩ : ByteArray)) else (if (FloatKind.f64.format.order x0 0 == some Ordering.eq) = true then (if x6.size + 1 ≤ 9223372036854775807 then (some (x6 ++ (⟨#[48]⟩ : ByteArray))) else (none)) else (if x4 < (-5) then (num_Text.j1 k x3 x4 x6 true) else (num_Text.j1 k x3 x4 x6 (decide (x4 > 21))))))))
def num_Text.j1 : Nat → ByteArray → Int → ByteArray → Bool → Option (ByteArray)
 | 0, _, _, _, _ => none
 | k + 1, x3, x4, x6, x28 => if x28 = true then ((num_scientific.f k x3 (wrap64 (x4 - 1))).bind fun t497 => (if x6.size + t497.size ≤ 9223372036854775807 then (some (x6 ++ t497)) else (none))) else (if x4 ≤ 0 then (if x6.size + 2 ≤ 9223372036854775807 then ((some (x6 ++ (⟨#[48, 46]⟩ : ByteArray) : ByteArray)).bind fun y499 => ((Hd.strings_Repeat.f (⟨#[48]⟩ : ByteArray) (wrap64 (-x4))).bind fun t500 => (if y499.size + t500.size ≤ 9223372036854775807 then ((some (y499 ++ t500 : ByteArray)).bind fun y501 => (if y501.size + x3.size ≤ 9223372036854775807 then (some (y501 ++ x3)) else (none))) else (none)))) else (none)) else (if x4 ≥ (x3.size : Int) then (if x6.size + x3.size ≤ 9223372036854775807 then ((some (x6 ++ x3 : ByteArray)).bind fun y503 => ((Hd.strings_Repeat.f (⟨#[48]⟩ : ByteArray) (wrap64 (x4 - (x3.size : Int)))).bind fun t504 => (if y503.size + t504.size ≤ 9223372036854775807 then (some (y503 ++ t504)) else (none)))) else (none)) else (if 0 ≤ x4 then (if x4 ≤ (x3.size : Int) then ((some (x3.extract 0 (x4 : Int).toNat : ByteArray)).bind fun y506 => (if x6.size + y506.size ≤ 9223372036854775807 then ((some (x6 ++ y506 : ByteArray)).bind fun y507 => (if y507.size + 1 ≤ 9223372036854775807 then ((some (y507 ++ (⟨#[46]⟩ : ByteArray) : ByteArray)).bind fun y508 => ((some (x3.extract (x4 : Int).toNat x3.size : ByteArray)).bind fun y509 => (if y508.size + y509.size ≤ 9223372036854775807 then (some (y508 ++ y509)) else (none)))) else (none))) else (none))) else (none)) else (none))))
end
def num_Text.f (k : Nat) (a0 : Nat) : Option (ByteArray) := (num_Digits.f k a0).bind fun bt492 => (if bt492.2.2 = true then (num_Text.j0 k a0 bt492.1 bt492.2.1 (⟨#[45]⟩ : ByteArray)) else (num_Text.j0 k a0 bt492.1 bt492.2.1 (⟨#[]⟩ : ByteArray)))
theorem num_Text.mono_l : ∀ k, (∀ y0 y1 y2 y3, LeO (num_Text.j0 k y0 y1 y2 y3) (num_Text.j0 (k + 1) y0 y1 y2 y3)) ∧ (∀ y0 y1 y2 y3, LeO (num_Text.j1 k y0 y1 y2 y3) (num_Text.j1 (k + 1) y0 y1 y2 y3))
 | 0 => ⟨fun _ _ _ _ r h => by simp [num_Text.j0] at h, fun _ _ _ _ r h => by simp [num_Text.j1] at h⟩
 | k + 1 => by
  obtain ⟨ih0, ih1⟩ := num_Text.mono_l k
  refine ⟨?_, ?_⟩
  ·
   intro y0 y1 y2 y3
   unfold num_Text.j0
   repeat' (with_reducible first | exact ih0 _ _ _ _ | exact ih1 _ _ _ _ | exact num_Digits.mono _ _ | exact num_scientific.mono _ _ _ | exact LeO.refl _ | exact LeO.none _ | refine LeO.ite ?_ ?_ | refine LeO.bind ?_ (fun _ => ?_))
  intro y0 y1 y2 y3
  unfold num_Text.j1
  repeat' (with_reducible first | exact ih0 _ _ _ _ | exact ih1 _ _ _ _ | exact num_Digits.mono _ _ | exact num_scientific.mono _ _ _ | exact LeO.refl _ | exact LeO.none _ | refine LeO.ite ?_ ?_ | refine LeO.bind ?_ (fun _ => ?_))
theorem num_Text.mono : ∀ a0 k, LeO (num_Text.f k a0) (num_Text.f (k + 1) a0) := by
 intro a0 k
 obtain ⟨ih0, ih1⟩ := num_Text.mono_l k
 unfold num_Text.f
 repeat' (with_reducible first | exact ih0 _ _ _ _ | exact ih1 _ _ _ _ | exact num_Digits.mono _ _ | exact num_scientific.mono _ _ _ | exact LeO.refl _ | exact LeO.none _ | refine LeO.ite ?_ ?_ | refine LeO.bind ?_ (fun _ => ?_))
set_option maxHeartbeats 8000000 in
set_option maxRecDepth 100000 in
theorem num_Text.calls (k : Nat) (a0 : Nat) (r : ByteArray) (w : World) (h : num_Text.f k a0 = some r) :
  Calls Tryd.prog 15 #[.float .f64 a0] w fun e w' => e = .returned (.string r) ∧ Below w.heap.size w w' := by
 have HB := Aside0.mk (Below.refl w.heap.size w)
 have H : ((num_Digits.f k a0).bind fun bt492 => (if bt492.2.2 = true then (num_Text.j0 k a0 bt492.1 bt492.2.1 (⟨#[45]⟩ : ByteArray)) else (num_Text.j0 k a0 bt492.1 bt492.2.1 (⟨#[]⟩ : ByteArray)))) = some r := h
 clear h
 replace H := Option.bind_eq_some_iff.mp H
 obtain ⟨⟨t492, t493, t494⟩, A20, H⟩ := H
 replace H : (if t494 = true then (num_Text.j0 k a0 t492 t493 (⟨#[45]⟩ : ByteArray)) else (num_Text.j0 k a0 t492 t493 (⟨#[]⟩ : ByteArray))) = some r := H
 have A2 := Aside0.mk A20
 clear A20
 have HC3 := Aside0.mk H
 clear H
 go_enter Tryd.func15, Tryd.ntmps15
 go_upto_if 13 with (first | (go_at_call 13; (with_reducible refine (num_Digits.calls k a0 t492 t493 t494 _ A2.out).mono ?_); rintro e w4 ⟨rfl, hb⟩; replace HB := lb HB hb; (try clear hb); (try clear hb2); (try clear hk); (try clear hi)))
 repeat (go_quiet (first | (go_at_call 13; (with_reducible refine (num_Digits.calls k a0 t492 t493 t494 _ A2.out).mono ?_); rintro e w4 ⟨rfl, hb⟩; replace HB := lb HB hb; (try clear hb); (try clear hb2); (try clear hk); (try clear hi))); go_upto_if 13 with (first | (go_at_call 13; (with_reducible refine (num_Digits.calls k a0 t492 t493 t494 _ A2.out).mono ?_); rintro e w4 ⟨rfl, hb⟩; replace HB := lb HB hb; (try clear hb); (try clear hb2); (try clear hk); (try clear hi))))
 (try simp only [Act.put, List.setIfInBounds_toArray, List.set_cons_zero, List.set_cons_succ])
 go_cut [6] (fun v6 wc => ∃ (kq : Nat) (x6_2 : ByteArray), v6 = .string x6_2 ∧ Aside0 (num_Text.j0 kq a0 t492 t493 x6_2 = some r) ∧ Aside0 (kq ≤ k) ∧ Aside0 (Below w.heap.size w wc))
 case first =>
  have H := HC3.out
  clear HC3
  by_cases c5 : t494 = true
  ·
   subst c5
   rw [if_pos rfl] at H
   have H' := Aside0.mk H
   clear H
   go_wp2
   repeat (go_quiet (fail); try go_wp2)
   go_meet
   case rel => exact ⟨_, ((⟨#[45]⟩ : ByteArray)), (by first | rfl | (simp; done) | (simp [*]; done)), H', ⟨by first | omega | exact Nat.le_refl _⟩, ⟨lk HB⟩⟩
  replace c5 := Bool.eq_false_iff.mpr c5
  subst c5
  rw [if_neg (show ¬ (false = true) by decide)] at H
  have H' := Aside0.mk H
  clear H
  go_wp2
  repeat (go_quiet (fail); try go_wp2)
  go_meet
  case rel => exact ⟨_, ((⟨#[]⟩ : ByteArray)), (by first | rfl | (simp; done) | (simp [*]; done)), H', ⟨by first | omega | exact Nat.le_refl _⟩, ⟨lk HB⟩⟩
 case rest =>
  clear HC3
  try clear c1
  try clear p2
  try clear c5
  obtain ⟨kq, x6_2, rfl, HA, HJ2, HB⟩ := hcut
  cases kq with
  | zero => exact absurd HA.out (by simp [num_Text.j0])
  | succ kj2 =>
   have H := HA.out
   clear HA
   simp only [num_Text.j0] at H
   replace H := Option.bind_eq_some_iff.mp H
   obtain ⟨t495, A60, H⟩ := H
   have A6 := Aside0.mk A60
   clear A60
   by_cases c7 : t495 = true
   ·
    subst c7
    rw [if_pos rfl] at H
    obtain rfl := Option.some.inj H
    go_wp2_with (first | (go_at_call 43; (with_reducible refine (math_IsNaN.calls a0 true _ A6.out).mono ?_); rintro e w' ⟨rfl, ⟨nd, rfl⟩⟩; (try first | exact ⟨rfl, _, World.drewN_drewN _ _ _⟩ | exact ⟨rfl, _, Eq.trans (World.drewN_drewN _ _ _) (congrArg (World.drewN _) (Nat.add_assoc _ _ _))⟩)))
    repeat (go_quiet (first | (go_at_call 43; (with_reducible refine (math_IsNaN.calls a0 true _ A6.out).mono ?_); rintro e w' ⟨rfl, ⟨nd, rfl⟩⟩; (try first | exact ⟨rfl, _, World.drewN_drewN _ _ _⟩ | exact ⟨rfl, _, Eq.trans (World.drewN_drewN _ _ _) (congrArg (World.drewN _) (Nat.add_assoc _ _ _))⟩))); try go_wp2_with (first | (go_at_call 43; (with_reducible refine (math_IsNaN.calls a0 true _ A6.out).mono ?_); rintro e w' ⟨rfl, ⟨nd, rfl⟩⟩; (try first | exact ⟨rfl, _, World.drewN_drewN _ _ _⟩ | exact ⟨rfl, _, Eq.trans (World.drewN_drewN _ _ _) (congrArg (World.drewN _) (Nat.add_assoc _ _ _))⟩))))
    go_ret
    exact ex (lk HB)
   replace c7 := Bool.eq_false_iff.mpr c7
   subst c7
   rw [if_neg (show ¬ (false = true) by decide)] at H
   by_cases c8 : (FloatKind.f64.format.order a0 9218868437227405311 == some Ordering.gt) = true
   ·
    rw [if_pos c8] at H
    have c8b0 : (FloatKind.f64.format.order a0 9218868437227405311 == some Ordering.gt) = true := c8
    (try (have c8b1 : decide (FloatKind.f64.format.order a0 9218868437227405311 = some Ordering.gt) = true := by simpa using c8))
    (try (have c8b2 : (FloatKind.f64.format.order a0 9218868437227405311 == some Ordering.gt) = true := by simpa using c8))
    clear c8
    obtain rfl := Option.some.inj H
    go_wp2_with (first | (go_at_call 43; (with_reducible refine (math_IsNaN.calls a0 false _ A6.out).mono ?_); rintro e w' ⟨rfl, ⟨nd, rfl⟩⟩; (try first | exact ⟨rfl, _, World.drewN_drewN _ _ _⟩ | exact ⟨rfl, _, Eq.trans (World.drewN_drewN _ _ _) (congrArg (World.drewN _) (Nat.add_assoc _ _ _))⟩)))
    repeat (go_quiet (first | (go_at_call 43; (with_reducible refine (math_IsNaN.calls a0 false _ A6.out).mono ?_); rintro e w' ⟨rfl, ⟨nd, rfl⟩⟩; (try first | exact ⟨rfl, _, World.drewN_drewN _ _ _⟩ | exact ⟨rfl, _, Eq.trans (World.drewN_drewN _ _ _) (congrArg (World.drewN _) (Nat.add_assoc _ _ _))⟩))); try go_wp2_with (first | (go_at_call 43; (with_reducible refine (math_IsNaN.calls a0 false _ A6.out).mono ?_); rintro e w' ⟨rfl, ⟨nd, rfl⟩⟩; (try first | exact ⟨rfl, _, World.drewN_drewN _ _ _⟩ | exact ⟨rfl, _, Eq.trans (World.drewN_drewN _ _ _) (congrArg (World.drewN _) (Nat.add_assoc _ _ _))⟩))))
    go_ret
    exact ex (lk HB)
   rw [if_neg c8] at H
   have c8b0 : (FloatKind.f64.format.order a0 9218868437227405311 == some Ordering.gt) = false := by simpa using c8
   (try (have c8b1 : decide (FloatKind.f64.format.order a0 9218868437227405311 = some Ordering.gt) = false := by simpa using c8))
   (try (have c8b2 : (FloatKind.f64.format.order a0 9218868437227405311 == some Ordering.gt) = false := by simpa using c8))
   (try (have c8b3 : ¬ (FloatKind.f64.format.order a0 9218868437227405311 = some Ordering.gt) := by simpa using c8))
   clear c8
   by_cases c9 : (FloatKind.f64.format.order a0 18442240474082181119 == some Ordering.lt) = true
   ·
    rw [if_pos c9] at H
    have c9b0 : (FloatKind.f64.format.order a0 18442240474082181119 == some Ordering.lt) = true := c9
    (try (have c9b1 : decide (FloatKind.f64.format.order a0 18442240474082181119 = some Ordering.lt) = true := by simpa using c9))
    (try (have c9b2 : (FloatKind.f64.format.order a0 18442240474082181119 == some Ordering.lt) = true := by simpa using c9))
    clear c9
    obtain rfl := Option.some.inj H
    go_wp2_with (first | (go_at_call 43; (with_reducible refine (math_IsNaN.calls a0 false _ A6.out).mono ?_); rintro e w' ⟨rfl, ⟨nd, rfl⟩⟩; (try first | exact ⟨rfl, _, World.drewN_drewN _ _ _⟩ | exact ⟨rfl, _, Eq.trans (World.drewN_drewN _ _ _) (congrArg (World.drewN _) (Nat.add_assoc _ _ _))⟩)))
    repeat (go_quiet (first | (go_at_call 43; (with_reducible refine (math_IsNaN.calls a0 false _ A6.out).mono ?_); rintro e w' ⟨rfl, ⟨nd, rfl⟩⟩; (try first | exact ⟨rfl, _, World.drewN_drewN _ _ _⟩ | exact ⟨rfl, _, Eq.trans (World.drewN_drewN _ _ _) (congrArg (World.drewN _) (Nat.add_assoc _ _ _))⟩))); try go_wp2_with (first | (go_at_call 43; (with_reducible refine (math_IsNaN.calls a0 false _ A6.out).mono ?_); rintro e w' ⟨rfl, ⟨nd, rfl⟩⟩; (try first | exact ⟨rfl, _, World.drewN_drewN _ _ _⟩ | exact ⟨rfl, _, Eq.trans (World.drewN_drewN _ _ _) (congrArg (World.drewN _) (Nat.add_assoc _ _ _))⟩))))
    go_ret
    exact ex (lk HB)
   rw [if_neg c9] at H
   have c9b0 : (FloatKind.f64.format.order a0 18442240474082181119 == some Ordering.lt) = false := by simpa using c9
   (try (have c9b1 : decide (FloatKind.f64.format.order a0 18442240474082181119 = some Ordering.lt) = false := by simpa using c9))
   (try (have c9b2 : (FloatKind.f64.format.order a0 18442240474082181119 == some Ordering.lt) = false := by simpa using c9))
   (try (have c9b3 : ¬ (FloatKind.f64.format.order a0 18442240474082181119 = some Ordering.lt) := by simpa using c9))
   clear c9
   by_cases c10 : (FloatKind.f64.format.order a0 0 == some Ordering.eq) = true
   ·
    rw [if_pos c10] at H
    have c10b0 : (FloatKind.f64.format.order a0 0 == some Ordering.eq) = true := c10
    (try (have c10b1 : decide (FloatKind.f64.format.order a0 0 = some Ordering.eq) = true := by simpa using c10))
    (try (have c10b2 : (FloatKind.f64.format.order a0 0 == some Ordering.eq) = true := by simpa using c10))
    clear c10
    by_cases c11 : x6_2.size + 1 ≤ 9223372036854775807
    ·
     rw [if_pos c11] at H
     have c11b0 := eq_true c11
     have c11b1 : decide (x6_2.size + 1 ≤ 9223372036854775807) = true := decide_eq_true c11
     try have c11b2 : (9223372036854775807 < x6_2.size + 1) = False := eq_false (Nat.not_lt.2 c11)
     obtain ⟨y496, hy496⟩ : ∃ y_ : ByteArray, y_ = (x6_2 ++ (⟨#[48]⟩ : ByteArray)) := ⟨_, rfl⟩
     replace H : (some y496) = some r := by first | (rw [hy496]; with_reducible exact H) | (rw [hy496]; with_reducible exact (hs H :)) | with_reducible exact (hs H :) | with_reducible exact H | (rw [hy496]; exact H) | exact H
     have Ny496 := Aside0.mk hy496
     clear hy496
     obtain rfl := Option.some.inj H
     go_wp2_with (first | (go_at_call 43; (with_reducible refine (math_IsNaN.calls a0 false _ A6.out).mono ?_); rintro e w' ⟨rfl, ⟨nd, rfl⟩⟩; (try first | exact ⟨rfl, _, World.drewN_drewN _ _ _⟩ | exact ⟨rfl, _, Eq.trans (World.drewN_drewN _ _ _) (congrArg (World.drewN _) (Nat.add_assoc _ _ _))⟩); have hcs12 := Hd.str_cat (P := Tryd.prog) (s := x6_2) (t := (⟨#[48]⟩ : ByteArray)) (y := y496) (by first | (with_reducible assumption) | assumption | exact of_eq_true (by assumption) | omega) Ny496.out; have hcs12' := Hd.str_cat' (P := Tryd.prog) (s := x6_2) (t := (⟨#[48]⟩ : ByteArray)) (y := y496) (by first | (with_reducible assumption) | assumption | exact of_eq_true (by assumption) | omega) Ny496.out))
     repeat (go_quiet (first | (go_at_call 43; (with_reducible refine (math_IsNaN.calls a0 false _ A6.out).mono ?_); rintro e w' ⟨rfl, ⟨nd, rfl⟩⟩; (try first | exact ⟨rfl, _, World.drewN_drewN _ _ _⟩ | exact ⟨rfl, _, Eq.trans (World.drewN_drewN _ _ _) (congrArg (World.drewN _) (Nat.add_assoc _ _ _))⟩); have hcs12 := Hd.str_cat (P := Tryd.prog) (s := x6_2) (t := (⟨#[48]⟩ : ByteArray)) (y := y496) (by first | (with_reducible assumption) | assumption | exact of_eq_true (by assumption) | omega) Ny496.out; have hcs12' := Hd.str_cat' (P := Tryd.prog) (s := x6_2) (t := (⟨#[48]⟩ : ByteArray)) (y := y496) (by first | (with_reducible assumption) | assumption | exact of_eq_true (by assumption) | omega) Ny496.out)); try go_wp2_with (first | (go_at_call 43; (with_reducible refine (math_IsNaN.calls a0 false _ A6.out).mono ?_); rintro e w' ⟨rfl, ⟨nd, rfl⟩⟩; (try first | exact ⟨rfl, _, World.drewN_drewN _ _ _⟩ | exact ⟨rfl, _, Eq.trans (World.drewN_drewN _ _ _) (congrArg (World.drewN _) (Nat.add_assoc _ _ _))⟩); have hcs12 := Hd.str_cat (P := Tryd.prog) (s := x6_2) (t := (⟨#[48]⟩ : ByteArray)) (y := y496) (by first | (with_reducible assumption) | assumption | exact of_eq_true (by assumption) | omega) Ny496.out; have hcs12' := Hd.str_cat' (P := Tryd.prog) (s := x6_2) (t := (⟨#[48]⟩ : ByteArray)) (y := y496) (by first | (with_reducible assumption) | assumption | exact of_eq_true (by assumption) | omega) Ny496.out)))
     go_ret
     exact ex (lk HB)
    rw [if_neg c11] at H
    exact absurd H (by simp)
   rw [if_neg c10] at H
   have c10b0 : (FloatKind.f64.format.order a0 0 == some Ordering.eq) = false := by simpa using c10
   (try (have c10b1 : decide (FloatKind.f64.format.order a0 0 = some Ordering.eq) = false := by simpa using c10))
   (try (have c10b2 : (FloatKind.f64.format.order a0 0 == some Ordering.eq) = false := by simpa using c10))
   (try (have c10b3 : ¬ (FloatKind.f64.format.order a0 0 = some Ordering.eq) := by simpa using c10))
   clear c10
   have HC13 := Aside0.mk H
   clear H
   go_upto_region 13 with (first | (go_at_call 43; (with_reducible refine (math_IsNaN.calls a0 false _ A6.out).mono ?_); rintro e w' ⟨rfl, ⟨nd, rfl⟩⟩; (try first | exact ⟨rfl, _, World.drewN_drewN _ _ _⟩ | exact ⟨rfl, _, Eq.trans (World.drewN_drewN _ _ _) (congrArg (World.drewN _) (Nat.add_assoc _ _ _))⟩)))
   repeat (go_quiet (first | (go_at_call 43; (with_reducible refine (math_IsNaN.calls a0 false _ A6.out).mono ?_); rintro e w' ⟨rfl, ⟨nd, rfl⟩⟩; (try first | exact ⟨rfl, _, World.drewN_drewN _ _ _⟩ | exact ⟨rfl, _, Eq.trans (World.drewN_drewN _ _ _) (congrArg (World.drewN _) (Nat.add_assoc _ _ _))⟩))); go_upto_region 13 with (first | (go_at_call 43; (with_reducible refine (math_IsNaN.calls a0 false _ A6.out).mono ?_); rintro e w' ⟨rfl, ⟨nd, rfl⟩⟩; (try first | exact ⟨rfl, _, World.drewN_drewN _ _ _⟩ | exact ⟨rfl, _, Eq.trans (World.drewN_drewN _ _ _) (congrArg (World.drewN _) (Nat.add_assoc _ _ _))⟩))))
   (try simp only [Act.put, List.setIfInBounds_toArray, List.set_cons_zero, List.set_cons_succ])
   go_cut [28] (fun v28 wc => ∃ (kq : Nat) (x28_12 : Bool), v28 = .bool x28_12 ∧ Aside0 (num_Text.j1 kq t492 t493 x6_2 x28_12 = some r) ∧ Aside0 (kq ≤ kj2) ∧ Aside0 (Below w.heap.size w wc))
   case first =>
    have H := HC13.out
    clear HC13
    by_cases c14 : t493 < (-5)
    ·
     rw [if_pos c14] at H
     have c14b0 : decide (t493 < (-5)) = true := decide_eq_true c14
     clear c14
     (first | rw [c14b0] | (simp only [i64_w, i32_w]; rw [c14b0]) | skip)
     have H' := Aside0.mk H
     clear H
     go_wp2
     repeat (go_quiet (fail); try go_wp2)
     go_meet
     case rel => exact ⟨_, (true), (by first | rfl | (simp; done) | (simp [*]; done)), H', ⟨by have := HJ2.out; first | omega | exact Nat.le_refl _⟩, ⟨lk HB⟩⟩
    rw [if_neg c14] at H
    have c14b0 : decide (t493 < (-5)) = false := decide_eq_false c14
    clear c14
    (first | rw [c14b0] | (simp only [i64_w, i32_w]; rw [c14b0]) | skip)
    have H' := Aside0.mk H
    clear H
    go_wp2
    repeat (go_quiet (fail); try go_wp2)
    go_meet
    case rel => exact ⟨_, (decide (t493 > 21)), (by first | rfl | (simp; done) | (simp [*]; done)), H', ⟨by have := HJ2.out; first | omega | exact Nat.le_refl _⟩, ⟨lk HB⟩⟩
   case rest =>
    clear HC13
    try clear c1
    try clear p2
    try clear c5
    try clear c7
    try clear c8
    try clear c8b0
    try clear c8b1
    try clear c8b2
    try clear c9
    try clear c9b0
    try clear c9b1
    try clear c9b2
    try clear c10
    try clear c10b0
    try clear c10b1
    try clear c10b2
    try clear c11
    try clear c11b0
    try clear c11b1
    try clear c11b2
    try clear c14
    try clear c14b0
    try clear p2
    obtain ⟨kq, x28_12, rfl, HA, HJ12, HB⟩ := hcut
    cases kq with
    | zero => exact absurd HA.out (by simp [num_Text.j1])
    | succ kj12 =>
     have H := HA.out
     clear HA
     simp only [num_Text.j1] at H
     by_cases c15 : x28_12 = true
     ·
      subst c15
      rw [if_pos rfl] at H
      replace H := Option.bind_eq_some_iff.mp H
      obtain ⟨t497, A160, H⟩ := H
      have A16 := Aside0.mk A160
      clear A160
      by_cases c17 : x6_2.size + t497.size ≤ 9223372036854775807
      ·
       rw [if_pos c17] at H
       have c17b0 := eq_true c17
       have c17b1 : decide (x6_2.size + t497.size ≤ 9223372036854775807) = true := decide_eq_true c17
       try have c17b2 : (9223372036854775807 < x6_2.size + t497.size) = False := eq_false (Nat.not_lt.2 c17)
       obtain ⟨y498, hy498⟩ : ∃ y_ : ByteArray, y_ = (x6_2 ++ t497) := ⟨_, rfl⟩
       replace H : (some y498) = some r := by first | (rw [hy498]; with_reducible exact H) | (rw [hy498]; with_reducible exact (hs H :)) | with_reducible exact (hs H :) | with_reducible exact H | (rw [hy498]; exact H) | exact H
       have Ny498 := Aside0.mk hy498
       clear hy498
       obtain rfl := Option.some.inj H
       go_wp2_with (first | (go_at_call 61; (with_reducible refine (num_scientific.calls kj12 t492 (wrap64 (t493 - 1)) t497 _ A16.out).mono ?_); rintro e w18 ⟨rfl, hb⟩; replace HB := lb HB hb; (try clear hb); (try clear hb2); (try clear hk); (try clear hi); have hcs19 := Hd.str_cat (P := Tryd.prog) (s := x6_2) (t := t497) (y := y498) (by first | (with_reducible assumption) | assumption | exact of_eq_true (by assumption) | omega) Ny498.out; have hcs19' := Hd.str_cat' (P := Tryd.prog) (s := x6_2) (t := t497) (y := y498) (by first | (with_reducible assumption) | assumption | exact of_eq_true (by assumption) | omega) Ny498.out))
       repeat (go_quiet (first | (go_at_call 61; (with_reducible refine (num_scientific.calls kj12 t492 (wrap64 (t493 - 1)) t497 _ A16.out).mono ?_); rintro e w18 ⟨rfl, hb⟩; replace HB := lb HB hb; (try clear hb); (try clear hb2); (try clear hk); (try clear hi); have hcs19 := Hd.str_cat (P := Tryd.prog) (s := x6_2) (t := t497) (y := y498) (by first | (with_reducible assumption) | assumption | exact of_eq_true (by assumption) | omega) Ny498.out; have hcs19' := Hd.str_cat' (P := Tryd.prog) (s := x6_2) (t := t497) (y := y498) (by first | (with_reducible assumption) | assumption | exact of_eq_true (by assumption) | omega) Ny498.out)); try go_wp2_with (first | (go_at_call 61; (with_reducible refine (num_scientific.calls kj12 t492 (wrap64 (t493 - 1)) t497 _ A16.out).mono ?_); rintro e w18 ⟨rfl, hb⟩; replace HB := lb HB hb; (try clear hb); (try clear hb2); (try clear hk); (try clear hi); have hcs19 := Hd.str_cat (P := Tryd.prog) (s := x6_2) (t := t497) (y := y498) (by first | (with_reducible assumption) | assumption | exact of_eq_true (by assumption) | omega) Ny498.out; have hcs19' := Hd.str_cat' (P := Tryd.prog) (s := x6_2) (t := t497) (y := y498) (by first | (with_reducible assumption) | assumption | exact of_eq_true (by assumption) | omega) Ny498.out)))
       go_ret
       exact ex (lk HB)
      rw [if_neg c17] at H
      exact absurd H (by simp)
     replace c15 := Bool.eq_false_iff.mpr c15
     subst c15
     rw [if_neg (show ¬ (false = true) by decide)] at H
     by_cases c20 : t493 ≤ 0
     ·
      rw [if_pos c20] at H
      have c20b0 : decide (t493 ≤ 0) = true := decide_eq_true c20
      clear c20
      by_cases c21 : x6_2.size + 2 ≤ 9223372036854775807
      ·
       rw [if_pos c21] at H
       have c21b0 := eq_true c21
       have c21b1 : decide (x6_2.size + 2 ≤ 9223372036854775807) = true := decide_eq_true c21
       try have c21b2 : (9223372036854775807 < x6_2.size + 2) = False := eq_false (Nat.not_lt.2 c21)
       obtain ⟨y499, hy499⟩ : ∃ y_ : ByteArray, y_ = (x6_2 ++ (⟨#[48, 46]⟩ : ByteArray)) := ⟨_, rfl⟩
       replace H : ((Hd.strings_Repeat.f (⟨#[48]⟩ : ByteArray) (wrap64 (-t493))).bind fun t500 => (if y499.size + t500.size ≤ 9223372036854775807 then ((some (y499 ++ t500 : ByteArray)).bind fun y501 => (if y501.size + t492.size ≤ 9223372036854775807 then (some (y501 ++ t492)) else (none))) else (none))) = some r := by first | (rw [hy499]; with_reducible exact H) | (rw [hy499]; with_reducible exact (hs H :)) | with_reducible exact (hs H :) | with_reducible exact H | (rw [hy499]; exact H) | exact H
       have Ny499 := Aside0.mk hy499
       clear hy499
       replace H := Option.bind_eq_some_iff.mp H
       obtain ⟨t500, A220, H⟩ := H
       have A22 := Aside0.mk A220
       clear A220
       by_cases c23 : y499.size + t500.size ≤ 9223372036854775807
       ·
        rw [if_pos c23] at H
        have c23b0 := eq_true c23
        have c23b1 : decide (y499.size + t500.size ≤ 9223372036854775807) = true := decide_eq_true c23
        try have c23b2 : (9223372036854775807 < y499.size + t500.size) = False := eq_false (Nat.not_lt.2 c23)
        obtain ⟨y501, hy501⟩ : ∃ y_ : ByteArray, y_ = (y499 ++ t500) := ⟨_, rfl⟩
        replace H : (if y501.size + t492.size ≤ 9223372036854775807 then (some (y501 ++ t492)) else (none)) = some r := by first | (rw [hy501]; with_reducible exact H) | (rw [hy501]; with_reducible exact (hs H :)) | with_reducible exact (hs H :) | with_reducible exact H | (rw [hy501]; exact H) | exact H
        have Ny501 := Aside0.mk hy501
        clear hy501
        by_cases c24 : y501.size + t492.size ≤ 9223372036854775807
        ·
         rw [if_pos c24] at H
         have c24b0 := eq_true c24
         have c24b1 : decide (y501.size + t492.size ≤ 9223372036854775807) = true := decide_eq_true c24
         try have c24b2 : (9223372036854775807 < y501.size + t492.size) = False := eq_false (Nat.not_lt.2 c24)
         obtain ⟨y502, hy502⟩ : ∃ y_ : ByteArray, y_ = (y501 ++ t492) := ⟨_, rfl⟩
         replace H : (some y502) = some r := by first | (rw [hy502]; with_reducible exact H) | (rw [hy502]; with_reducible exact (hs H :)) | with_reducible exact (hs H :) | with_reducible exact H | (rw [hy502]; exact H) | exact H
         have Ny502 := Aside0.mk hy502
         clear hy502
         obtain rfl := Option.some.inj H
         have hcs25 := Hd.str_cat (P := Tryd.prog) (s := x6_2) (t := (⟨#[48, 46]⟩ : ByteArray)) (y := y499) (by first | (with_reducible assumption) | assumption | exact of_eq_true (by assumption) | omega) Ny499.out
         have hcs25' := Hd.str_cat' (P := Tryd.prog) (s := x6_2) (t := (⟨#[48, 46]⟩ : ByteArray)) (y := y499) (by first | (with_reducible assumption) | assumption | exact of_eq_true (by assumption) | omega) Ny499.out
         go_wp2_with (first | (go_at_call 62; (with_reducible refine (Hd.strings_Repeat.calls (⟨#[48]⟩ : ByteArray) (wrap64 (-t493)) t500 _ A22.out).mono ?_); rintro e w26 ⟨rfl, hb⟩; replace HB := lb HB hb; (try clear hb); (try clear hb2); (try clear hk); (try clear hi); have hcs27 := Hd.str_cat (P := Tryd.prog) (s := y499) (t := t500) (y := y501) (by first | (with_reducible assumption) | assumption | exact of_eq_true (by assumption) | omega) Ny501.out; have hcs27' := Hd.str_cat' (P := Tryd.prog) (s := y499) (t := t500) (y := y501) (by first | (with_reducible assumption) | assumption | exact of_eq_true (by assumption) | omega) Ny501.out; have hcs28 := Hd.str_cat (P := Tryd.prog) (s := y501) (t := t492) (y := y502) (by first | (with_reducible assumption) | assumption | exact of_eq_true (by assumption) | omega) Ny502.out; have hcs28' := Hd.str_cat' (P := Tryd.prog) (s := y501) (t := t492) (y := y502) (by first | (with_reducible assumption) | assumption | exact of_eq_true (by assumption) | omega) Ny502.out))
         repeat (go_quiet (first | (go_at_call 62; (with_reducible refine (Hd.strings_Repeat.calls (⟨#[48]⟩ : ByteArray) (wrap64 (-t493)) t500 _ A22.out).mono ?_); rintro e w26 ⟨rfl, hb⟩; replace HB := lb HB hb; (try clear hb); (try clear hb2); (try clear hk); (try clear hi); have hcs27 := Hd.str_cat (P := Tryd.prog) (s := y499) (t := t500) (y := y501) (by first | (with_reducible assumption) | assumption | exact of_eq_true (by assumption) | omega) Ny501.out; have hcs27' := Hd.str_cat' (P := Tryd.prog) (s := y499) (t := t500) (y := y501) (by first | (with_reducible assumption) | assumption | exact of_eq_true (by assumption) | omega) Ny501.out; have hcs28 := Hd.str_cat (P := Tryd.prog) (s := y501) (t := t492) (y := y502) (by first | (with_reducible assumption) | assumption | exact of_eq_true (by assumption) | omega) Ny502.out; have hcs28' := Hd.str_cat' (P := Tryd.prog) (s := y501) (t := t492) (y := y502) (by first | (with_reducible assumption) | assumption | exact of_eq_true (by assumption) | omega) Ny502.out)); try go_wp2_with (first | (go_at_call 62; (with_reducible refine (Hd.strings_Repeat.calls (⟨#[48]⟩ : ByteArray) (wrap64 (-t493)) t500 _ A22.out).mono ?_); rintro e w26 ⟨rfl, hb⟩; replace HB := lb HB hb; (try clear hb); (try clear hb2); (try clear hk); (try clear hi); have hcs27 := Hd.str_cat (P := Tryd.prog) (s := y499) (t := t500) (y := y501) (by first | (with_reducible assumption) | assumption | exact of_eq_true (by assumption) | omega) Ny501.out; have hcs27' := Hd.str_cat' (P := Tryd.prog) (s := y499) (t := t500) (y := y501) (by first | (with_reducible assumption) | assumption | exact of_eq_true (by assumption) | omega) Ny501.out; have hcs28 := Hd.str_cat (P := Tryd.prog) (s := y501) (t := t492) (y := y502) (by first | (with_reducible assumption) | assumption | exact of_eq_true (by assumption) | omega) Ny502.out; have hcs28' := Hd.str_cat' (P := Tryd.prog) (s := y501) (t := t492) (y := y502) (by first | (with_reducible assumption) | assumption | exact of_eq_true (by assumption) | omega) Ny502.out)))
         go_ret
         exact ex (lk HB)
        rw [if_neg c24] at H
        exact absurd H (by simp)
       rw [if_neg c23] at H
       exact absurd H (by simp)
      rw [if_neg c21] at H
      exact absurd H (by simp)
     rw [if_neg c20] at H
     have c20b0 : decide (t493 ≤ 0) = false := decide_eq_false c20
     clear c20
     by_cases c29 : t493 ≥ (t492.size : Int)
     ·
      rw [if_pos c29] at H
      have c29b0 : decide ((t492.size : Int) ≤ t493) = true := decide_eq_true c29
      clear c29
      by_cases c30 : x6_2.size + t492.size ≤ 9223372036854775807
      ·
       rw [if_pos c30] at H
       have c30b0 := eq_true c30
       have c30b1 : decide (x6_2.size + t492.size ≤ 9223372036854775807) = true := decide_eq_true c30
       try have c30b2 : (9223372036854775807 < x6_2.size + t492.size) = False := eq_false (Nat.not_lt.2 c30)
       obtain ⟨y503, hy503⟩ : ∃ y_ : ByteArray, y_ = (x6_2 ++ t492) := ⟨_, rfl⟩
       replace H : ((Hd.strings_Repeat.f (⟨#[48]⟩ : ByteArray) (wrap64 (t493 - (t492.size : Int)))).bind fun t504 => (if y503.size + t504.size ≤ 9223372036854775807 then (some (y503 ++ t504)) else (none))) = some r := by first | (rw [hy503]; with_reducible exact H) | (rw [hy503]; with_reducible exact (hs H :)) | with_reducible exact (hs H :) | with_reducible exact H | (rw [hy503]; exact H) | exact H
       have Ny503 := Aside0.mk hy503
       clear hy503
       replace H := Option.bind_eq_some_iff.mp H
       obtain ⟨t504, A310, H⟩ := H
       have A31 := Aside0.mk A310
       clear A310
       by_cases c32 : y503.size + t504.size ≤ 9223372036854775807
       ·
        rw [if_pos c32] at H
        have c32b0 := eq_true c32
        have c32b1 : decide (y503.size + t504.size ≤ 9223372036854775807) = true := decide_eq_true c32
        try have c32b2 : (9223372036854775807 < y503.size + t504.size) = False := eq_false (Nat.not_lt.2 c32)
        obtain ⟨y505, hy505⟩ : ∃ y_ : ByteArray, y_ = (y503 ++ t504) := ⟨_, rfl⟩
        replace H : (some y505) = some r := by first | (rw [hy505]; with_reducible exact H) | (rw [hy505]; with_reducible exact (hs H :)) | with_reducible exact (hs H :) | with_reducible exact H | (rw [hy505]; exact H) | exact H
        have Ny505 := Aside0.mk hy505
        clear hy505
        obtain rfl := Option.some.inj H
        have hcs33 := Hd.str_cat (P := Tryd.prog) (s := x6_2) (t := t492) (y := y503) (by first | (with_reducible assumption) | assumption | exact of_eq_true (by assumption) | omega) Ny503.out
        have hcs33' := Hd.str_cat' (P := Tryd.prog) (s := x6_2) (t := t492) (y := y503) (by first | (with_reducible assumption) | assumption | exact of_eq_true (by assumption) | omega) Ny503.out
        go_wp2_with (first | (go_at_call 62; (with_reducible refine (Hd.strings_Repeat.calls (⟨#[48]⟩ : ByteArray) (wrap64 (t493 - (t492.size : Int))) t504 _ A31.out).mono ?_); rintro e w34 ⟨rfl, hb⟩; replace HB := lb HB hb; (try clear hb); (try clear hb2); (try clear hk); (try clear hi); have hcs35 := Hd.str_cat (P := Tryd.prog) (s := y503) (t := t504) (y := y505) (by first | (with_reducible assumption) | assumption | exact of_eq_true (by assumption) | omega) Ny505.out; have hcs35' := Hd.str_cat' (P := Tryd.prog) (s := y503) (t := t504) (y := y505) (by first | (with_reducible assumption) | assumption | exact of_eq_true (by assumption) | omega) Ny505.out))
        repeat (go_quiet (first | (go_at_call 62; (with_reducible refine (Hd.strings_Repeat.calls (⟨#[48]⟩ : ByteArray) (wrap64 (t493 - (t492.size : Int))) t504 _ A31.out).mono ?_); rintro e w34 ⟨rfl, hb⟩; replace HB := lb HB hb; (try clear hb); (try clear hb2); (try clear hk); (try clear hi); have hcs35 := Hd.str_cat (P := Tryd.prog) (s := y503) (t := t504) (y := y505) (by first | (with_reducible assumption) | assumption | exact of_eq_true (by assumption) | omega) Ny505.out; have hcs35' := Hd.str_cat' (P := Tryd.prog) (s := y503) (t := t504) (y := y505) (by first | (with_reducible assumption) | assumption | exact of_eq_true (by assumption) | omega) Ny505.out)); try go_wp2_with (first | (go_at_call 62; (with_reducible refine (Hd.strings_Repeat.calls (⟨#[48]⟩ : ByteArray) (wrap64 (t493 - (t492.size : Int))) t504 _ A31.out).mono ?_); rintro e w34 ⟨rfl, hb⟩; replace HB := lb HB hb; (try clear hb); (try clear hb2); (try clear hk); (try clear hi); have hcs35 := Hd.str_cat (P := Tryd.prog) (s := y503) (t := t504) (y := y505) (by first | (with_reducible assumption) | assumption | exact of_eq_true (by assumption) | omega) Ny505.out; have hcs35' := Hd.str_cat' (P := Tryd.prog) (s := y503) (t := t504) (y := y505) (by first | (with_reducible assumption) | assumption | exact of_eq_true (by assumption) | omega) Ny505.out)))
        go_ret
        exact ex (lk HB)
       rw [if_neg c32] at H
       exact absurd H (by simp)
      rw [if_neg c30] at H
      exact absurd H (by simp)
     rw [if_neg c29] at H
     have c29b0 : decide ((t492.size : Int) ≤ t493) = false := decide_eq_false c29
     clear c29
     by_cases c36 : 0 ≤ t493
     ·
      rw [if_pos c36] at H
      have c36b0 := eq_true c36
      have c36b1 : decide (0 ≤ t493) = true := decide_eq_true c36
      clear c36
      by_cases c37 : t493 ≤ (t492.size : Int)
      ·
       rw [if_pos c37] at H
       have c37b0 := eq_true c37
       have c37b1 : decide (t493 ≤ (t492.size : Int)) = true := decide_eq_true c37
       clear c37
       obtain ⟨y506, hy506⟩ : ∃ y_ : ByteArray, y_ = (t492.extract 0 (t493 : Int).toNat) := ⟨_, rfl⟩
       replace H : (if x6_2.size + y506.size ≤ 9223372036854775807 then ((some (x6_2 ++ y506 : ByteArray)).bind fun y507 => (if y507.size + 1 ≤ 9223372036854775807 then ((some (y507 ++ (⟨#[46]⟩ : ByteArray) : ByteArray)).bind fun y508 => ((some (t492.extract (t493 : Int).toNat t492.size : ByteArray)).bind fun y509 => (if y508.size + y509.size ≤ 9223372036854775807 then (some (y508 ++ y509)) else (none)))) else (none))) else (none)) = some r := by first | (rw [hy506]; with_reducible exact H) | (rw [hy506]; with_reducible exact (hs H :)) | with_reducible exact (hs H :) | with_reducible exact H | (rw [hy506]; exact H) | exact H
       have Ny506 := Aside0.mk hy506
       clear hy506
       by_cases c38 : x6_2.size + y506.size ≤ 9223372036854775807
       ·
        rw [if_pos c38] at H
        have c38b0 := eq_true c38
        have c38b1 : decide (x6_2.size + y506.size ≤ 9223372036854775807) = true := decide_eq_true c38
        try have c38b2 : (9223372036854775807 < x6_2.size + y506.size) = False := eq_false (Nat.not_lt.2 c38)
        obtain ⟨y507, hy507⟩ : ∃ y_ : ByteArray, y_ = (x6_2 ++ y506) := ⟨_, rfl⟩
        replace H : (if y507.size + 1 ≤ 9223372036854775807 then ((some (y507 ++ (⟨#[46]⟩ : ByteArray) : ByteArray)).bind fun y508 => ((some (t492.extract (t493 : Int).toNat t492.size : ByteArray)).bind fun y509 => (if y508.size + y509.size ≤ 9223372036854775807 then (some (y508 ++ y509)) else (none)))) else (none)) = some r := by first | (rw [hy507]; with_reducible exact H) | (rw [hy507]; with_reducible exact (hs H :)) | with_reducible exact (hs H :) | with_reducible exact H | (rw [hy507]; exact H) | exact H
        have Ny507 := Aside0.mk hy507
        clear hy507
        by_cases c39 : y507.size + 1 ≤ 9223372036854775807
        ·
         rw [if_pos c39] at H
         have c39b0 := eq_true c39
         have c39b1 : decide (y507.size + 1 ≤ 9223372036854775807) = true := decide_eq_true c39
         try have c39b2 : (9223372036854775807 < y507.size + 1) = False := eq_false (Nat.not_lt.2 c39)
         obtain ⟨y508, hy508⟩ : ∃ y_ : ByteArray, y_ = (y507 ++ (⟨#[46]⟩ : ByteArray)) := ⟨_, rfl⟩
         replace H : ((some (t492.extract (t493 : Int).toNat t492.size : ByteArray)).bind fun y509 => (if y508.size + y509.size ≤ 9223372036854775807 then (some (y508 ++ y509)) else (none))) = some r := by first | (rw [hy508]; with_reducible exact H) | (rw [hy508]; with_reducible exact (hs H :)) | with_reducible exact (hs H :) | with_reducible exact H | (rw [hy508]; exact H) | exact H
         have Ny508 := Aside0.mk hy508
         clear hy508
         have c40b0 := eq_true (of_decide_eq_true (by first | (with_reducible assumption) | assumption) : 0 ≤ t493)
         have c41b0 := eq_true (of_decide_eq_true (by first | (with_reducible assumption) | assumption) : t493 ≤ (t492.size : Int))
         obtain ⟨y509, hy509⟩ : ∃ y_ : ByteArray, y_ = (t492.extract (t493 : Int).toNat t492.size) := ⟨_, rfl⟩
         replace H : (if y508.size + y509.size ≤ 9223372036854775807 then (some (y508 ++ y509)) else (none)) = some r := by first | (rw [hy509]; with_reducible exact H) | (rw [hy509]; with_reducible exact (hs H :)) | with_reducible exact (hs H :) | with_reducible exact H | (rw [hy509]; exact H) | exact H
         have Ny509 := Aside0.mk hy509
         clear hy509
         by_cases c42 : y508.size + y509.size ≤ 9223372036854775807
         ·
          rw [if_pos c42] at H
          have c42b0 := eq_true c42
          have c42b1 : decide (y508.size + y509.size ≤ 9223372036854775807) = true := decide_eq_true c42
          try have c42b2 : (9223372036854775807 < y508.size + y509.size) = False := eq_false (Nat.not_lt.2 c42)
          obtain ⟨y510, hy510⟩ : ∃ y_ : ByteArray, y_ = (y508 ++ y509) := ⟨_, rfl⟩
          replace H : (some y510) = some r := by first | (rw [hy510]; with_reducible exact H) | (rw [hy510]; with_reducible exact (hs H :)) | with_reducible exact (hs H :) | with_reducible exact H | (rw [hy510]; exact H) | exact H
          have Ny510 := Aside0.mk hy510
          clear hy510
          obtain rfl := Option.some.inj H
          have hcs43 := Hd.str_to (P := Tryd.prog) (k := .i64) Tryd.underlying9 (j := t493) (s := t492) (y := y506) (by first | (with_reducible assumption) | exact of_decide_eq_true (by first | (with_reducible assumption) | assumption) | omega) (by first | (with_reducible assumption) | exact of_decide_eq_true (by first | (with_reducible assumption) | assumption) | omega) Ny506.out
          have hcs44 := Hd.str_cat (P := Tryd.prog) (s := x6_2) (t := y506) (y := y507) (by first | (with_reducible assumption) | assumption | exact of_eq_true (by assumption) | omega) Ny507.out
          have hcs44' := Hd.str_cat' (P := Tryd.prog) (s := x6_2) (t := y506) (y := y507) (by first | (with_reducible assumption) | assumption | exact of_eq_true (by assumption) | omega) Ny507.out
          have hcs45 := Hd.str_cat (P := Tryd.prog) (s := y507) (t := (⟨#[46]⟩ : ByteArray)) (y := y508) (by first | (with_reducible assumption) | assumption | exact of_eq_true (by assumption) | omega) Ny508.out
          have hcs45' := Hd.str_cat' (P := Tryd.prog) (s := y507) (t := (⟨#[46]⟩ : ByteArray)) (y := y508) (by first | (with_reducible assumption) | assumption | exact of_eq_true (by assumption) | omega) Ny508.out
          have hcs46 := Hd.str_from (P := Tryd.prog) (k := .i64) Tryd.underlying9 (i := t493) (s := t492) (y := y509) (by first | (with_reducible assumption) | exact of_decide_eq_true (by first | (with_reducible assumption) | assumption) | omega) (by first | (with_reducible assumption) | exact of_decide_eq_true (by first | (with_reducible assumption) | assumption) | omega) Ny509.out
          have hcs47 := Hd.str_cat (P := Tryd.prog) (s := y508) (t := y509) (y := y510) (by first | (with_reducible assumption) | assumption | exact of_eq_true (by assumption) | omega) Ny510.out
          have hcs47' := Hd.str_cat' (P := Tryd.prog) (s := y508) (t := y509) (y := y510) (by first | (with_reducible assumption) | assumption | exact of_eq_true (by assumption) | omega) Ny510.out
          go_wp2
          repeat (go_quiet (fail); try go_wp2)
          go_ret
          exact ex (lk HB)
         rw [if_neg c42] at H
         exact absurd H (by simp)
        rw [if_neg c39] at H
        exact absurd H (by simp)
       rw [if_neg c38] at H
       exact absurd H (by simp)
      rw [if_neg c37] at H
      exact absurd H (by simp)
     rw [if_neg c36] at H
     exact absurd H (by simp)
def w_wakes.f (k : Nat)  : Option (Bool) := (num_Parse.f k (⟨#[50, 46, 53, 101, 45, 49]⟩ : ByteArray)).bind fun bt617 => (if bt617.2 = 0 then (if (FloatKind.f64.format.order bt617.1 4598175219545276416 == some Ordering.eq) = true then ((num_Text.f k 4591870180066957722).bind fun t619 => (if t619.toList = ([48, 46, 49] : List UInt8) then ((num_DurationText.f k 90000).bind fun t620 => (some (t620.toList == ([49, 109, 51, 48, 115] : List UInt8)))) else (some false))) else (some false)) else (some false))
theorem w_wakes.mono : ∀ k, LeO (w_wakes.f k ) (w_wakes.f (k + 1) ) := by
 intro  k
 unfold w_wakes.f
 repeat' (with_reducible first | exact num_DurationText.mono _ _ | exact num_Parse.mono _ _ | exact num_Text.mono _ _ | exact LeO.refl _ | exact LeO.none _ | refine LeO.ite ?_ ?_ | refine LeO.bind ?_ (fun _ => ?_))
set_option maxHeartbeats 8000000 in
set_option maxRecDepth 100000 in
theorem w_wakes.calls (k : Nat)  (r : Bool) (w : World) (h : w_wakes.f k  = some r) :
  Calls Tryd.prog 17 #[] w fun e w' => e = .returned (.bool r) ∧ Below w.heap.size w w' := by
 have HB := Aside0.mk (Below.refl w.heap.size w)
 have H : ((num_Parse.f k (⟨#[50, 46, 53, 101, 45, 49]⟩ : ByteArray)).bind fun bt617 => (if bt617.2 = 0 then (if (FloatKind.f64.format.order bt617.1 4598175219545276416 == some Ordering.eq) = true then ((num_Text.f k 4591870180066957722).bind fun t619 => (if t619.toList = ([48, 46, 49] : List UInt8) then ((num_DurationText.f k 90000).bind fun t620 => (some (t620.toList == ([49, 109, 51, 48, 115] : List UInt8)))) else (some false))) else (some false)) else (some false))) = some r := h
 clear h
 replace H := Option.bind_eq_some_iff.mp H
 obtain ⟨⟨t617, t618⟩, A10, H⟩ := H
 replace H : (if t618 = 0 then (if (FloatKind.f64.format.order t617 4598175219545276416 == some Ordering.eq) = true then ((num_Text.f k 4591870180066957722).bind fun t619 => (if t619.toList = ([48, 46, 49] : List UInt8) then ((num_DurationText.f k 90000).bind fun t620 => (some (t620.toList == ([49, 109, 51, 48, 115] : List UInt8)))) else (some false))) else (some false)) else (some false)) = some r := H
 have A1 := Aside0.mk A10
 clear A10
 by_cases c2 : t618 = 0
 ·
  rw [if_pos c2] at H
  have c2b0 : (t618 == 0) = true := beq_iff_eq.mpr c2
  have c2b1 : (t618 != 0) = false := bne_eq_false_iff_eq.mpr c2
  clear c2
  by_cases c3 : (FloatKind.f64.format.order t617 4598175219545276416 == some Ordering.eq) = true
  ·
   rw [if_pos c3] at H
   have c3b0 : (FloatKind.f64.format.order t617 4598175219545276416 == some Ordering.eq) = true := c3
   (try (have c3b1 : decide (FloatKind.f64.format.order t617 4598175219545276416 = some Ordering.eq) = true := by simpa using c3))
   (try (have c3b2 : (FloatKind.f64.format.order t617 4598175219545276416 == some Ordering.eq) = true := by simpa using c3))
   clear c3
   replace H := Option.bind_eq_some_iff.mp H
   obtain ⟨t619, A40, H⟩ := H
   have A4 := Aside0.mk A40
   clear A40
   by_cases c5 : t619.toList = ([48, 46, 49] : List UInt8)
   ·
    rw [if_pos c5] at H
    have c5b0 : (t619.toList == ([48, 46, 49] : List UInt8)) = true := beq_iff_eq.mpr c5
    have c5b1 : (t619.toList != ([48, 46, 49] : List UInt8)) = false := bne_eq_false_iff_eq.mpr c5
    clear c5
    replace H := Option.bind_eq_some_iff.mp H
    obtain ⟨t620, A60, H⟩ := H
    have A6 := Aside0.mk A60
    clear A60
    obtain rfl := Option.some.inj H
    go_enter Tryd.func17, Tryd.ntmps17
    go_wp2_with (first | ((with_reducible refine gate_callee (f := 18) rfl ?_); refine gL (some 4) Tryd.func18 #[.string (⟨#[50, 46, 53, 101, 45, 49]⟩ : ByteArray)] ?_; (with_reducible refine (num_Parse.calls k (⟨#[50, 46, 53, 101, 45, 49]⟩ : ByteArray) t617 t618 _ A1.out).mono ?_); rintro e w7 ⟨rfl, hb⟩; refine ⟨_, rfl, ?_⟩; replace HB := lb HB hb; (try clear hb); (try clear hb2); (try clear hk); (try clear hi)) | (go_at_call 15; (with_reducible refine (num_Text.calls k 4591870180066957722 t619 _ A4.out).mono ?_); rintro e w8 ⟨rfl, hb⟩; replace HB := lb HB hb; (try clear hb); (try clear hb2); (try clear hk); (try clear hi)) | (go_at_call 38; (with_reducible refine (num_DurationText.calls k 90000 t620 _ A6.out).mono ?_); rintro e w9 ⟨rfl, hb⟩; replace HB := lb HB hb; (try clear hb); (try clear hb2); (try clear hk); (try clear hi)))
    go_ret
    exact ex (lk HB)
   rw [if_neg c5] at H
   have c5b0 : (t619.toList == ([48, 46, 49] : List UInt8)) = false := beq_eq_false_iff_ne.mpr c5
   have c5b1 : (t619.toList != ([48, 46, 49] : List UInt8)) = true := bne_iff_ne.mpr c5
   obtain rfl := Option.some.inj H
   go_enter Tryd.func17, Tryd.ntmps17
   go_wp2_with (first | ((with_reducible refine gate_callee (f := 18) rfl ?_); refine gL (some 4) Tryd.func18 #[.string (⟨#[50, 46, 53, 101, 45, 49]⟩ : ByteArray)] ?_; (with_reducible refine (num_Parse.calls k (⟨#[50, 46, 53, 101, 45, 49]⟩ : ByteArray) t617 t618 _ A1.out).mono ?_); rintro e w10 ⟨rfl, hb⟩; refine ⟨_, rfl, ?_⟩; replace HB := lb HB hb; (try clear hb); (try clear hb2); (try clear hk); (try clear hi)) | (go_at_call 15; (with_reducible refine (num_Text.calls k 4591870180066957722 t619 _ A4.out).mono ?_); rintro e w11 ⟨rfl, hb⟩; replace HB := lb HB hb; (try clear hb); (try clear hb2); (try clear hk); (try clear hi)))
   go_ret
   exact ex (lk HB)
  rw [if_neg c3] at H
  have c3b0 : (FloatKind.f64.format.order t617 4598175219545276416 == some Ordering.eq) = false := by simpa using c3
  (try (have c3b1 : decide (FloatKind.f64.format.order t617 4598175219545276416 = some Ordering.eq) = false := by simpa using c3))
  (try (have c3b2 : (FloatKind.f64.format.order t617 4598175219545276416 == some Ordering.eq) = false := by simpa using c3))
  (try (have c3b3 : ¬ (FloatKind.f64.format.order t617 4598175219545276416 = some Ordering.eq) := by simpa using c3))
  clear c3
  obtain rfl := Option.some.inj H
  go_enter Tryd.func17, Tryd.ntmps17
  go_wp2_with (first | ((with_reducible refine gate_callee (f := 18) rfl ?_); refine gL (some 4) Tryd.func18 #[.string (⟨#[50, 46, 53, 101, 45, 49]⟩ : ByteArray)] ?_; (with_reducible refine (num_Parse.calls k (⟨#[50, 46, 53, 101, 45, 49]⟩ : ByteArray) t617 t618 _ A1.out).mono ?_); rintro e w12 ⟨rfl, hb⟩; refine ⟨_, rfl, ?_⟩; replace HB := lb HB hb; (try clear hb); (try clear hb2); (try clear hk); (try clear hi)))
  go_ret
  exact ex (lk HB)
 rw [if_neg c2] at H
 have c2b0 : (t618 == 0) = false := beq_eq_false_iff_ne.mpr c2
 have c2b1 : (t618 != 0) = true := bne_iff_ne.mpr c2
 obtain rfl := Option.some.inj H
 go_enter Tryd.func17, Tryd.ntmps17
 go_wp2_with (first | ((with_reducible refine gate_callee (f := 18) rfl ?_); refine gL (some 4) Tryd.func18 #[.string (⟨#[50, 46, 53, 101, 45, 49]⟩ : ByteArray)] ?_; (with_reducible refine (num_Parse.calls k (⟨#[50, 46, 53, 101, 45, 49]⟩ : ByteArray) t617 t618 _ A1.out).mono ?_); rintro e w13 ⟨rfl, hb⟩; refine ⟨_, rfl, ?_⟩; replace HB := lb HB hb; (try clear hb); (try clear hb2); (try clear hk); (try clear hi)))
 go_ret
 exact ex (lk HB)
mutual
def w_NumShortest.l0 : Nat → List Int → Int → Option (Bool)
 | 0, _, _ => none
 | k + 1, x0, x3 => if x3 < (x0.length : Int) then (w_NumShortest.j1 k x0 x3 (decide (x3 < 60))) else (w_NumShortest.j1 k x0 x3 false)
def w_NumShortest.j1 : Nat → List Int → Int → Bool → Option (Bool)
 | 0, _, _, _ => none
 | k + 1, x0, x3, x23 => if x23 = true then (if 0 ≤ x3 then (if x3 < (x0.length : Int) then ((w_fromBits.f (Go.bits .andNot .u64 (rd x0 x3) 9223372036854775808)).bind fun t705 => ((num_Digits.f k t705).bind fun bt706 => (if (bt706.1.size : Int) < 2 then (w_NumShortest.l0 k x0 (wrap64 (x3 + 1))) else (if 0 ≤ (wrap64 ((bt706.1.size : Int) - 1)) then (if (wrap64 ((bt706.1.size : Int) - 1)) ≤ (bt706.1.size : Int) then ((some (bt706.1.extract 0 ((wrap64 ((bt706.1.size : Int) - 1)) : Int).toNat : ByteArray)).bind fun y709 => (if 2 + y709.size ≤ 9223372036854775807 then ((some ((⟨#[48, 46]⟩ : ByteArray) ++ y709 : ByteArray)).bind fun y710 => (if y710.size + 1 ≤ 9223372036854775807 then ((some (y710 ++ (⟨#[101]⟩ : ByteArray) : ByteArray)).bind fun y711 => ((Hd.num_IntText.f bt706.2.1).bind fun t712 => (if y711.size + t712.size ≤ 9223372036854775807 then ((num_Parse.f k (y711 ++ t712)).bind fun bt714 => ((Hd.w_times.f y709).bind fun t716 => (if 2 + t716.size ≤ 9223372036854775807 then ((some ((⟨#[48, 46]⟩ : ByteArray) ++ t716 : ByteArray)).bind fun y717 => (if y717.size + 1 ≤ 9223372036854775807 then ((some (y717 ++ (⟨#[101]⟩ : ByteArray) : ByteArray)).bind fun y718 => ((Hd.num_IntText.f (wrap64 ((wrap64 (bt706.2.1 + (t716.size : Int))) - (y709.size : Int)))).bind fun t719 => (if y718.size + t719.size ≤ 9223372036854775807 then ((num_Parse.f k (y718 ++ t719)).bind fun bt721 => (if 2 + bt706.1.size ≤ 9223372036854775807 then ((some ((⟨#[48, 46]⟩ : ByteArray) ++ bt706.1 : ByteArray)).bind fun y723 => (if y723.size + 1 ≤ 9223372036854775807 then ((some (y723 ++ (⟨#[101]⟩ : ByteArray) : ByteArray)).bind fun y724 => ((Hd.num_IntText.f bt706.2.1).bind fun t725 => (if y724.size + t725.size ≤ 9223372036854775807 then ((num_Parse.f k (y724 ++ t725)).bind fun bt727 => (if bt714.2 = 0 then (if bt721.2 = 0 then (if bt727.2 = 0 then ((q_Bits.f bt714.1 t705).bind fun t729 => (if t729 = true then (some false) else ((q_Bits.f bt721.1 t705).bind fun t730 => (if t730 = true then (some false) else ((q_Bits.f bt727.1 t705).bind fun t731 => (if t731 = true then (if ((FloatKind.f64.format.order bt714.1 t705 == some Ordering.lt) = true) then (if ((FloatKind.f64.format.order bt721.1 t705 == some Ordering.gt) = true) then (w_NumShortest.l0 k x0 (wrap64 (x3 + 1))) else (some false)) else (some false)) else (some false))))))) else (some false)) else (some false)) else (some false))) else (none)))) else (none))) else (none))) else (none)))) else (none))) else (none)))) else (none)))) else (none))) else (none))) else (none)) else (none))))) else (none)) else (none)) else ((w_wakes.f k).bind fun t703 => (some t703))
end
def w_NumShortest.f (k : Nat) (l0 : List Int) : Option (Bool) := w_NumShortest.l0 k l0 0
theorem w_NumShortest.mono_l : ∀ k, (∀ y0 y1, LeO (w_NumShortest.l0 k y0 y1) (w_NumShortest.l0 (k + 1) y0 y1)) ∧ (∀ y0 y1 y2, LeO (w_NumShortest.j1 k y0 y1 y2) (w_NumShortest.j1 (k + 1) y0 y1 y2))
 | 0 => ⟨fun _ _ r h => by simp [w_NumShortest.l0] at h, fun _ _ _ r h => by simp [w_NumShortest.j1] at h⟩
 | k + 1 => by
  obtain ⟨ih0, ih1⟩ := w_NumShortest.mono_l k
  refine ⟨?_, ?_⟩
  ·
   intro y0 y1
   unfold w_NumShortest.l0
   repeat' (with_reducible first | exact ih0 _ _ | exact ih1 _ _ _ | exact num_Digits.mono _ _ | exact num_Parse.mono _ _ | exact w_wakes.mono _ | exact LeO.refl _ | exact LeO.none _ | refine LeO.ite ?_ ?_ | refine LeO.bind ?_ (fun _ => ?_))
  intro y0 y1 y2
  unfold w_NumShortest.j1
  repeat' (with_reducible first | exact ih0 _ _ | exact ih1 _ _ _ | exact num_Digits.mono _ _ | exact num_Parse.mono _ _ | exact w_wakes.mono _ | exact LeO.refl _ | exact LeO.none _ | refine LeO.ite ?_ ?_ | refine LeO.bind ?_ (fun _ => ?_))
theorem w_NumShortest.mono : ∀ a0 k, LeO (w_NumShortest.f k a0) (w_NumShortest.f (k + 1) a0) := by
 intro a0 k
 obtain ⟨ih0, ih1⟩ := w_NumShortest.mono_l k
 unfold w_NumShortest.f
 repeat' (with_reducible first | exact ih0 _ _ | exact ih1 _ _ _ | exact num_Digits.mono _ _ | exact num_Parse.mono _ _ | exact w_wakes.mono _ | exact LeO.refl _ | exact LeO.none _ | refine LeO.ite ?_ ?_ | refine LeO.bind ?_ (fun _ => ?_))
set_option maxHeartbeats 8000000 in
set_option maxRecDepth 100000 in
theorem w_NumShortest.calls (k : Nat) (A0 : Option Addr) (c0 : Nat) (l0 : List Int) (r : Bool) (w : World) (hr0 : Kd.C (Kd.int .u64) w A0 l0.length l0) (hc0 : l0.length ≤ c0) (h : w_NumShortest.f k l0 = some r) :
  Calls Tryd.prog 7 #[.slice A0 l0.length c0] w fun e w' => e = .returned (.bool r) ∧ Below w.heap.size w w' := by
 have HR0 := Aside0.mk hr0
 have HC0 := Aside0.mk hc0
 clear hr0 hc0
 have HB := Aside0.mk (Below.refl w.heap.size w)
 have H : (w_NumShortest.l0 k l0 0) = some r := h
 clear h
 have H' := Aside0.mk H
 clear H
 go_enter Tryd.func7, Tryd.ntmps7
 go_wp2
 go_loopg [3] k (fun kq v3 w' => ∃ (x3_1 : Int), v3 = .int .i64 x3_1 ∧ Aside0 (w_NumShortest.l0 kq l0 x3_1 = some r) ∧ Aside0 (kq ≤ k) ∧ Aside0 (Below w.heap.size w w'))
 case atStart => exact ⟨(0), (by first | rfl | (simp; done) | (simp [*]; done)), H', ⟨Nat.le_refl _⟩, ⟨lk HB⟩⟩
 case round =>
  clear H'
  obtain ⟨x3_1, rfl, HA, HK1, HB⟩ := hrel
  cases gk with
  | zero => exact absurd HA.out (by simp [w_NumShortest.l0])
  | succ k1 =>
   have H := HA.out
   clear HA
   simp only [w_NumShortest.l0] at H
   have HC2 := Aside0.mk H
   clear H
   go_upto_region 2 with (fail)
   go_cut [23] (fun v23 wc => ∃ (kq : Nat) (x23_1 : Bool), v23 = .bool x23_1 ∧ Aside0 (w_NumShortest.j1 kq l0 x3_1 x23_1 = some r) ∧ Aside0 (kq ≤ k1) ∧ Aside0 (Below w.heap.size w wc))
   case first =>
    have H := HC2.out
    clear HC2
    by_cases c3 : x3_1 < (l0.length : Int)
    ·
     rw [if_pos c3] at H
     have c3b0 : decide (x3_1 < (l0.length : Int)) = true := decide_eq_true c3
     clear c3
     (first | rw [c3b0] | (simp only [i64_w, i32_w]; rw [c3b0]) | skip)
     have H' := Aside0.mk H
     clear H
     go_wp2
     go_meet
     case rel => exact ⟨_, (decide (x3_1 < 60)), (by first | rfl | (simp; done) | (simp [*]; done)), H', ⟨by have := HK1.out; first | omega | exact Nat.le_refl _⟩, ⟨lk HB⟩⟩
    rw [if_neg c3] at H
    have c3b0 : decide (x3_1 < (l0.length : Int)) = false := decide_eq_false c3
    clear c3
    (first | rw [c3b0] | (simp only [i64_w, i32_w]; rw [c3b0]) | skip)
    have H' := Aside0.mk H
    clear H
    go_wp2
    go_meet
    case rel => exact ⟨_, (false), (by first | rfl | (simp; done) | (simp [*]; done)), H', ⟨by have := HK1.out; first | omega | exact Nat.le_refl _⟩, ⟨lk HB⟩⟩
   case rest =>
    clear HC2
    try clear p2
    try clear c3
    try clear c3b0
    obtain ⟨kq, x23_1, rfl, HA, HJ1, HB⟩ := hcut
    cases kq with
    | zero => exact absurd HA.out (by simp [w_NumShortest.j1])
    | succ kj1 =>
     have H := HA.out
     clear HA
     simp only [w_NumShortest.j1] at H
     by_cases c4 : x23_1 = true
     ·
      subst c4
      rw [if_pos rfl] at H
      by_cases c5 : 0 ≤ x3_1
      ·
       rw [if_pos c5] at H
       have c5b0 : decide (0 ≤ x3_1) = true := decide_eq_true c5
       clear c5
       by_cases c6 : x3_1 < (l0.length : Int)
       ·
        rw [if_pos c6] at H
        have c6b0 : decide (x3_1 < (l0.length : Int)) = true := decide_eq_true c6
        clear c6
        replace H := Option.bind_eq_some_iff.mp H
        obtain ⟨t705, A70, H⟩ := H
        have A7 := Aside0.mk A70
        clear A70
        replace H := Option.bind_eq_some_iff.mp H
        obtain ⟨⟨t706, t707, t708⟩, A80, H⟩ := H
        replace H : (if (t706.size : Int) < 2 then (w_NumShortest.l0 kj1 l0 (wrap64 (x3_1 + 1))) else (if 0 ≤ (wrap64 ((t706.size : Int) - 1)) then (if (wrap64 ((t706.size : Int) - 1)) ≤ (t706.size : Int) then ((some (t706.extract 0 ((wrap64 ((t706.size : Int) - 1)) : Int).toNat : ByteArray)).bind fun y709 => (if 2 + y709.size ≤ 9223372036854775807 then ((some ((⟨#[48, 46]⟩ : ByteArray) ++ y709 : ByteArray)).bind fun y710 => (if y710.size + 1 ≤ 9223372036854775807 then ((some (y710 ++ (⟨#[101]⟩ : ByteArray) : ByteArray)).bind fun y711 => ((Hd.num_IntText.f t707).bind fun t712 => (if y711.size + t712.size ≤ 9223372036854775807 then ((num_Parse.f kj1 (y711 ++ t712)).bind fun bt714 => ((Hd.w_times.f y709).bind fun t716 => (if 2 + t716.size ≤ 9223372036854775807 then ((some ((⟨#[48, 46]⟩ : ByteArray) ++ t716 : ByteArray)).bind fun y717 => (if y717.size + 1 ≤ 9223372036854775807 then ((some (y717 ++ (⟨#[101]⟩ : ByteArray) : ByteArray)).bind fun y718 => ((Hd.num_IntText.f (wrap64 ((wrap64 (t707 + (t716.size : Int))) - (y709.size : Int)))).bind fun t719 => (if y718.size + t719.size ≤ 9223372036854775807 then ((num_Parse.f kj1 (y718 ++ t719)).bind fun bt721 => (if 2 + t706.size ≤ 9223372036854775807 then ((some ((⟨#[48, 46]⟩ : ByteArray) ++ t706 : ByteArray)).bind fun y723 => (if y723.size + 1 ≤ 9223372036854775807 then ((some (y723 ++ (⟨#[101]⟩ : ByteArray) : ByteArray)).bind fun y724 => ((Hd.num_IntText.f t707).bind fun t725 => (if y724.size + t725.size ≤ 9223372036854775807 then ((num_Parse.f kj1 (y724 ++ t725)).bind fun bt727 => (if bt714.2 = 0 then (if bt721.2 = 0 then (if bt727.2 = 0 then ((q_Bits.f bt714.1 t705).bind fun t729 => (if t729 = true then (some false) else ((q_Bits.f bt721.1 t705).bind fun t730 => (if t730 = true then (some false) else ((q_Bits.f bt727.1 t705).bind fun t731 => (if t731 = true then (if ((FloatKind.f64.format.order bt714.1 t705 == some Ordering.lt) = true) then (if ((FloatKind.f64.format.order bt721.1 t705 == some Ordering.gt) = true) then (w_NumShortest.l0 kj1 l0 (wrap64 (x3_1 + 1))) else (some false)) else (some false)) else (some false))))))) else (some false)) else (some false)) else (some false))) else (none)))) else (none))) else (none))) else (none)))) else (none))) else (none)))) else (none)))) else (none))) else (none))) else (none)) else (none))) = some r := H
        have A8 := Aside0.mk A80
        clear A80
        by_cases c9 : (t706.size : Int) < 2
        ·
         rw [if_pos c9] at H
         have c9b0 : decide ((t706.size : Int) < 2) = true := decide_eq_true c9
         have c9b1 : decide (t706.size < 2) = true := decide_eq_true (by omega)
         clear c9
         have H' := Aside0.mk H
         clear H
         have p704 : 0 ≤ (x3_1 : Int) := of_decide_eq_true (by first | (with_reducible assumption) | assumption)
         have q704 : x3_1 < (l0.length : Int) := of_decide_eq_true (by first | (with_reducible assumption) | assumption)
         obtain ⟨ad704, e704, hx704_0⟩ := Kd.at_int HR0.out x3_1 p704 q704
         cases e704
         replace hx704_0 := (HB.out.cell (World.block_lt_of_cell? w _ hx704_0)).trans hx704_0
         replace p704 := eq_true p704
         replace q704 := eq_true q704
         go_wp2_with (first | ((with_reducible refine gate_callee (f := 25) rfl ?_); refine gL (some 31) Tryd.func25 #[.int .u64 (Go.bits .andNot .u64 (rd l0 x3_1) 9223372036854775808)] ?_; (with_reducible refine (w_fromBits.calls (Go.bits .andNot .u64 (rd l0 x3_1) 9223372036854775808) t705 _ A7.out).mono ?_); rintro e w' ⟨rfl, ⟨nd, rfl⟩⟩; refine ⟨_, rfl, ?_⟩) | ((with_reducible refine gate_callee (f := 13) rfl ?_); refine gL (some 34) Tryd.func13 #[.float .f64 t705] ?_; (with_reducible refine (num_Digits.calls kj1 t705 t706 t707 t708 _ A8.out).mono ?_); rintro e w10 ⟨rfl, hb⟩; refine ⟨_, rfl, ?_⟩; replace HB := lb HB hb; (try clear hb); (try clear hb2); (try clear hk); (try clear hi)))
         go_roundg kj1
         case measure => have := HK1.out; have := HJ1.out; omega
         case rel => exact ⟨(wrap64 (x3_1 + 1)), (by first | rfl | (simp; done) | (simp [*]; done)), H', ⟨by have := HK1.out; have := HJ1.out; omega⟩, ⟨lk HB⟩⟩
        rw [if_neg c9] at H
        have c9b0 : decide ((t706.size : Int) < 2) = false := decide_eq_false c9
        have c9b1 : decide (t706.size < 2) = false := decide_eq_false (by omega)
        clear c9
        obtain ⟨ji11, hji11⟩ : ∃ j_ : Int, (wrap64 ((t706.size : Int) - 1)) = j_ := ⟨_, rfl⟩
        replace H : (if 0 ≤ (ji11) then (if (ji11) ≤ (t706.size : Int) then ((some (t706.extract 0 ((ji11) : Int).toNat : ByteArray)).bind fun y709 => (if 2 + y709.size ≤ 9223372036854775807 then ((some ((⟨#[48, 46]⟩ : ByteArray) ++ y709 : ByteArray)).bind fun y710 => (if y710.size + 1 ≤ 9223372036854775807 then ((some (y710 ++ (⟨#[101]⟩ : ByteArray) : ByteArray)).bind fun y711 => ((Hd.num_IntText.f t707).bind fun t712 => (if y711.size + t712.size ≤ 9223372036854775807 then ((num_Parse.f kj1 (y711 ++ t712)).bind fun bt714 => ((Hd.w_times.f y709).bind fun t716 => (if 2 + t716.size ≤ 9223372036854775807 then ((some ((⟨#[48, 46]⟩ : ByteArray) ++ t716 : ByteArray)).bind fun y717 => (if y717.size + 1 ≤ 9223372036854775807 then ((some (y717 ++ (⟨#[101]⟩ : ByteArray) : ByteArray)).bind fun y718 => ((Hd.num_IntText.f (wrap64 ((wrap64 (t707 + (t716.size : Int))) - (y709.size : Int)))).bind fun t719 => (if y718.size + t719.size ≤ 9223372036854775807 then ((num_Parse.f kj1 (y718 ++ t719)).bind fun bt721 => (if 2 + t706.size ≤ 9223372036854775807 then ((some ((⟨#[48, 46]⟩ : ByteArray) ++ t706 : ByteArray)).bind fun y723 => (if y723.size + 1 ≤ 9223372036854775807 then ((some (y723 ++ (⟨#[101]⟩ : ByteArray) : ByteArray)).bind fun y724 => ((Hd.num_IntText.f t707).bind fun t725 => (if y724.size + t725.size ≤ 9223372036854775807 then ((num_Parse.f kj1 (y724 ++ t725)).bind fun bt727 => (if bt714.2 = 0 then (if bt721.2 = 0 then (if bt727.2 = 0 then ((q_Bits.f bt714.1 t705).bind fun t729 => (if t729 = true then (some false) else ((q_Bits.f bt721.1 t705).bind fun t730 => (if t730 = true then (some false) else ((q_Bits.f bt727.1 t705).bind fun t731 => (if t731 = true then (if ((FloatKind.f64.format.order bt714.1 t705 == some Ordering.lt) = true) then (if ((FloatKind.f64.format.order bt721.1 t705 == some Ordering.gt) = true) then (w_NumShortest.l0 kj1 l0 (wrap64 (x3_1 + 1))) else (some false)) else (some false)) else (some false))))))) else (some false)) else (some false)) else (some false))) else (none)))) else (none))) else (none))) else (none)))) else (none))) else (none)))) else (none)))) else (none))) else (none))) else (none)) else (none)) = some r := by first | (rw [hji11] at H; exact H) | (simp only [hji11] at H ⊢; exact H)
        (try rw [hji11] at A7)
        (try rw [hji11] at A8)
        have hji11w : (IntKind.i64.wrap ((t706.size : Int) - 1)) = ji11 := (i64_w _).trans hji11
        by_cases c12 : 0 ≤ (ji11)
        ·
         rw [if_pos c12] at H
         have c12b0 := eq_true c12
         have c12b1 : decide (0 ≤ (ji11)) = true := decide_eq_true c12
         clear c12
         by_cases c13 : (ji11) ≤ (t706.size : Int)
         ·
          rw [if_pos c13] at H
          have c13b0 := eq_true c13
          have c13b1 : decide ((ji11) ≤ (t706.size : Int)) = true := decide_eq_true c13
          clear c13
          obtain ⟨y709, hy709⟩ : ∃ y_ : ByteArray, y_ = (t706.extract 0 ((ji11) : Int).toNat) := ⟨_, rfl⟩
          replace H : (if 2 + y709.size ≤ 9223372036854775807 then ((some ((⟨#[48, 46]⟩ : ByteArray) ++ y709 : ByteArray)).bind fun y710 => (if y710.size + 1 ≤ 9223372036854775807 then ((some (y710 ++ (⟨#[101]⟩ : ByteArray) : ByteArray)).bind fun y711 => ((Hd.num_IntText.f t707).bind fun t712 => (if y711.size + t712.size ≤ 9223372036854775807 then ((num_Parse.f kj1 (y711 ++ t712)).bind fun bt714 => ((Hd.w_times.f y709).bind fun t716 => (if 2 + t716.size ≤ 9223372036854775807 then ((some ((⟨#[48, 46]⟩ : ByteArray) ++ t716 : ByteArray)).bind fun y717 => (if y717.size + 1 ≤ 9223372036854775807 then ((some (y717 ++ (⟨#[101]⟩ : ByteArray) : ByteArray)).bind fun y718 => ((Hd.num_IntText.f (wrap64 ((wrap64 (t707 + (t716.size : Int))) - (y709.size : Int)))).bind fun t719 => (if y718.size + t719.size ≤ 9223372036854775807 then ((num_Parse.f kj1 (y718 ++ t719)).bind fun bt721 => (if 2 + t706.size ≤ 9223372036854775807 then ((some ((⟨#[48, 46]⟩ : ByteArray) ++ t706 : ByteArray)).bind fun y723 => (if y723.size + 1 ≤ 9223372036854775807 then ((some (y723 ++ (⟨#[101]⟩ : ByteArray) : ByteArray)).bind fun y724 => ((Hd.num_IntText.f t707).bind fun t725 => (if y724.size + t725.size ≤ 9223372036854775807 then ((num_Parse.f kj1 (y724 ++ t725)).bind fun bt727 => (if bt714.2 = 0 then (if bt721.2 = 0 then (if bt727.2 = 0 then ((q_Bits.f bt714.1 t705).bind fun t729 => (if t729 = true then (some false) else ((q_Bits.f bt721.1 t705).bind fun t730 => (if t730 = true then (some false) else ((q_Bits.f bt727.1 t705).bind fun t731 => (if t731 = true then (if ((FloatKind.f64.format.order bt714.1 t705 == some Ordering.lt) = true) then (if ((FloatKind.f64.format.order bt721.1 t705 == some Ordering.gt) = true) then (w_NumShortest.l0 kj1 l0 (wrap64 (x3_1 + 1))) else (some false)) else (some false)) else (some false))))))) else (some false)) else (some false)) else (some false))) else (none)))) else (none))) else (none))) else (none)))) else (none))) else (none)))) else (none)))) else (none))) else (none)) = some r := by first | (rw [hy709]; with_reducible exact H) | (rw [hy709]; with_reducible exact (hs H :)) | with_reducible exact (hs H :) | with_reducible exact H | (rw [hy709]; exact H) | exact H
          have Ny709 := Aside0.mk hy709
          clear hy709
          by_cases c14 : 2 + y709.size ≤ 9223372036854775807
          ·
           rw [if_pos c14] at H
           have c14b0 := eq_true c14
           have c14b1 : decide (2 + y709.size ≤ 9223372036854775807) = true := decide_eq_true c14
           try have c14b2 : (9223372036854775807 < 2 + y709.size) = False := eq_false (Nat.not_lt.2 c14)
           obtain ⟨y710, hy710⟩ : ∃ y_ : ByteArray, y_ = ((⟨#[48, 46]⟩ : ByteArray) ++ y709) := ⟨_, rfl⟩
           replace H : (if y710.size + 1 ≤ 9223372036854775807 then ((some (y710 ++ (⟨#[101]⟩ : ByteArray) : ByteArray)).bind fun y711 => ((Hd.num_IntText.f t707).bind fun t712 => (if y711.size + t712.size ≤ 9223372036854775807 then ((num_Parse.f kj1 (y711 ++ t712)).bind fun bt714 => ((Hd.w_times.f y709).bind fun t716 => (if 2 + t716.size ≤ 9223372036854775807 then ((some ((⟨#[48, 46]⟩ : ByteArray) ++ t716 : ByteArray)).bind fun y717 => (if y717.size + 1 ≤ 9223372036854775807 then ((some (y717 ++ (⟨#[101]⟩ : ByteArray) : ByteArray)).bind fun y718 => ((Hd.num_IntText.f (wrap64 ((wrap64 (t707 + (t716.size : Int))) - (y709.size : Int)))).bind fun t719 => (if y718.size + t719.size ≤ 9223372036854775807 then ((num_Parse.f kj1 (y718 ++ t719)).bind fun bt721 => (if 2 + t706.size ≤ 9223372036854775807 then ((some ((⟨#[48, 46]⟩ : ByteArray) ++ t706 : ByteArray)).bind fun y723 => (if y723.size + 1 ≤ 9223372036854775807 then ((some (y723 ++ (⟨#[101]⟩ : ByteArray) : ByteArray)).bind fun y724 => ((Hd.num_IntText.f t707).bind fun t725 => (if y724.size + t725.size ≤ 9223372036854775807 then ((num_Parse.f kj1 (y724 ++ t725)).bind fun bt727 => (if bt714.2 = 0 then (if bt721.2 = 0 then (if bt727.2 = 0 then ((q_Bits.f bt714.1 t705).bind fun t729 => (if t729 = true then (some false) else ((q_Bits.f bt721.1 t705).bind fun t730 => (if t730 = true then (some false) else ((q_Bits.f bt727.1 t705).bind fun t731 => (if t731 = true then (if ((FloatKind.f64.format.order bt714.1 t705 == some Ordering.lt) = true) then (if ((FloatKind.f64.format.order bt721.1 t705 == some Ordering.gt) = true) then (w_NumShortest.l0 kj1 l0 (wrap64 (x3_1 + 1))) else (some false)) else (some false)) else (some false))))))) else (some false)) else (some false)) else (some false))) else (none)))) else (none))) else (none))) else (none)))) else (none))) else (none)))) else (none)))) else (none)) = some r := by first | (rw [hy710]; with_reducible exact H) | (rw [hy710]; with_reducible exact (hs H :)) | with_reducible exact (hs H :) | with_reducible exact H | (rw [hy710]; exact H) | exact H
           have Ny710 := Aside0.mk hy710
           clear hy710
           by_cases c15 : y710.size + 1 ≤ 9223372036854775807
           ·
            rw [if_pos c15] at H
            have c15b0 := eq_true c15
            have c15b1 : decide (y710.size + 1 ≤ 9223372036854775807) = true := decide_eq_true c15
            try have c15b2 : (9223372036854775807 < y710.size + 1) = False := eq_false (Nat.not_lt.2 c15)
            obtain ⟨y711, hy711⟩ : ∃ y_ : ByteArray, y_ = (y710 ++ (⟨#[101]⟩ : ByteArray)) := ⟨_, rfl⟩
            replace H : ((Hd.num_IntText.f t707).bind fun t712 => (if y711.size + t712.size ≤ 9223372036854775807 then ((num_Parse.f kj1 (y711 ++ t712)).bind fun bt714 => ((Hd.w_times.f y709).bind fun t716 => (if 2 + t716.size ≤ 9223372036854775807 then ((some ((⟨#[48, 46]⟩ : ByteArray) ++ t716 : ByteArray)).bind fun y717 => (if y717.size + 1 ≤ 9223372036854775807 then ((some (y717 ++ (⟨#[101]⟩ : ByteArray) : ByteArray)).bind fun y718 => ((Hd.num_IntText.f (wrap64 ((wrap64 (t707 + (t716.size : Int))) - (y709.size : Int)))).bind fun t719 => (if y718.size + t719.size ≤ 9223372036854775807 then ((num_Parse.f kj1 (y718 ++ t719)).bind fun bt721 => (if 2 + t706.size ≤ 9223372036854775807 then ((some ((⟨#[48, 46]⟩ : ByteArray) ++ t706 : ByteArray)).bind fun y723 => (if y723.size + 1 ≤ 9223372036854775807 then ((some (y723 ++ (⟨#[101]⟩ : ByteArray) : ByteArray)).bind fun y724 => ((Hd.num_IntText.f t707).bind fun t725 => (if y724.size + t725.size ≤ 9223372036854775807 then ((num_Parse.f kj1 (y724 ++ t725)).bind fun bt727 => (if bt714.2 = 0 then (if bt721.2 = 0 then (if bt727.2 = 0 then ((q_Bits.f bt714.1 t705).bind fun t729 => (if t729 = true then (some false) else ((q_Bits.f bt721.1 t705).bind fun t730 => (if t730 = true then (some false) else ((q_Bits.f bt727.1 t705).bind fun t731 => (if t731 = true then (if ((FloatKind.f64.format.order bt714.1 t705 == some Ordering.lt) = true) then (if ((FloatKind.f64.format.order bt721.1 t705 == some Ordering.gt) = true) then (w_NumShortest.l0 kj1 l0 (wrap64 (x3_1 + 1))) else (some false)) else (some false)) else (some false))))))) else (some false)) else (some false)) else (some false))) else (none)))) else (none))) else (none))) else (none)))) else (none))) else (none)))) else (none))) = some r := by first | (rw [hy711]; with_reducible exact H) | (rw [hy711]; with_reducible exact (hs H :)) | with_reducible exact (hs H :) | with_reducible exact H | (rw [hy711]; exact H) | exact H
            have Ny711 := Aside0.mk hy711
            clear hy711
            replace H := Option.bind_eq_some_iff.mp H
            obtain ⟨t712, A160, H⟩ := H
            have A16 := Aside0.mk A160
            clear A160
            by_cases c17 : y711.size + t712.size ≤ 9223372036854775807
            ·
             rw [if_pos c17] at H
             have c17b0 := eq_true c17
             have c17b1 : decide (y711.size + t712.size ≤ 9223372036854775807) = true := decide_eq_true c17
             try have c17b2 : (9223372036854775807 < y711.size + t712.size) = False := eq_false (Nat.not_lt.2 c17)
             obtain ⟨y713, hy713⟩ : ∃ y_ : ByteArray, y_ = (y711 ++ t712) := ⟨_, rfl⟩
             replace H : ((num_Parse.f kj1 y713).bind fun bt714 => ((Hd.w_times.f y709).bind fun t716 => (if 2 + t716.size ≤ 9223372036854775807 then ((some ((⟨#[48, 46]⟩ : ByteArray) ++ t716 : ByteArray)).bind fun y717 => (if y717.size + 1 ≤ 9223372036854775807 then ((some (y717 ++ (⟨#[101]⟩ : ByteArray) : ByteArray)).bind fun y718 => ((Hd.num_IntText.f (wrap64 ((wrap64 (t707 + (t716.size : Int))) - (y709.size : Int)))).bind fun t719 => (if y718.size + t719.size ≤ 9223372036854775807 then ((num_Parse.f kj1 (y718 ++ t719)).bind fun bt721 => (if 2 + t706.size ≤ 9223372036854775807 then ((some ((⟨#[48, 46]⟩ : ByteArray) ++ t706 : ByteArray)).bind fun y723 => (if y723.size + 1 ≤ 9223372036854775807 then ((some (y723 ++ (⟨#[101]⟩ : ByteArray) : ByteArray)).bind fun y724 => ((Hd.num_IntText.f t707).bind fun t725 => (if y724.size + t725.size ≤ 9223372036854775807 then ((num_Parse.f kj1 (y724 ++ t725)).bind fun bt727 => (if bt714.2 = 0 then (if bt721.2 = 0 then (if bt727.2 = 0 then ((q_Bits.f bt714.1 t705).bind fun t729 => (if t729 = true then (some false) else ((q_Bits.f bt721.1 t705).bind fun t730 => (if t730 = true then (some false) else ((q_Bits.f bt727.1 t705).bind fun t731 => (if t731 = true then (if ((FloatKind.f64.format.order bt714.1 t705 == some Ordering.lt) = true) then (if ((FloatKind.f64.format.order bt721.1 t705 == some Ordering.gt) = true) then (w_NumShortest.l0 kj1 l0 (wrap64 (x3_1 + 1))) else (some false)) else (some false)) else (some false))))))) else (some false)) else (some false)) else (some false))) else (none)))) else (none))) else (none))) else (none)))) else (none))) else (none)))) = some r := by first | (rw [hy713]; with_reducible exact H) | (rw [hy713]; with_reducible exact (hs H :)) | with_reducible exact (hs H :) | with_reducible exact H | (rw [hy713]; exact H) | exact H
             have Ny713 := Aside0.mk hy713
             clear hy713
             replace H := Option.bind_eq_some_iff.mp H
             obtain ⟨⟨t714, t715⟩, A180, H⟩ := H
             replace H : ((Hd.w_times.f y709).bind fun t716 => (if 2 + t716.size ≤ 9223372036854775807 then ((some ((⟨#[48, 46]⟩ : ByteArray) ++ t716 : ByteArray)).bind fun y717 => (if y717.size + 1 ≤ 9223372036854775807 then ((some (y717 ++ (⟨#[101]⟩ : ByteArray) : ByteArray)).bind fun y718 => ((Hd.num_IntText.f (wrap64 ((wrap64 (t707 + (t716.size : Int))) - (y709.size : Int)))).bind fun t719 => (if y718.size + t719.size ≤ 9223372036854775807 then ((num_Parse.f kj1 (y718 ++ t719)).bind fun bt721 => (if 2 + t706.size ≤ 9223372036854775807 then ((some ((⟨#[48, 46]⟩ : ByteArray) ++ t706 : ByteArray)).bind fun y723 => (if y723.size + 1 ≤ 9223372036854775807 then ((some (y723 ++ (⟨#[101]⟩ : ByteArray) : ByteArray)).bind fun y724 => ((Hd.num_IntText.f t707).bind fun t725 => (if y724.size + t725.size ≤ 9223372036854775807 then ((num_Parse.f kj1 (y724 ++ t725)).bind fun bt727 => (if t715 = 0 then (if bt721.2 = 0 then (if bt727.2 = 0 then ((q_Bits.f t714 t705).bind fun t729 => (if t729 = true then (some false) else ((q_Bits.f bt721.1 t705).bind fun t730 => (if t730 = true then (some false) else ((q_Bits.f bt727.1 t705).bind fun t731 => (if t731 = true then (if ((FloatKind.f64.format.order t714 t705 == some Ordering.lt) = true) then (if ((FloatKind.f64.format.order bt721.1 t705 == some Ordering.gt) = true) then (w_NumShortest.l0 kj1 l0 (wrap64 (x3_1 + 1))) else (some false)) else (some false)) else (some false))))))) else (some false)) else (some false)) else (some false))) else (none)))) else (none))) else (none))) else (none)))) else (none))) else (none))) = some r := H
             have A18 := Aside0.mk A180
             clear A180
             replace H := Option.bind_eq_some_iff.mp H
             obtain ⟨t716, A190, H⟩ := H
             have A19 := Aside0.mk A190
             clear A190
             by_cases c20 : 2 + t716.size ≤ 9223372036854775807
             ·
              rw [if_pos c20] at H
              have c20b0 := eq_true c20
              have c20b1 : decide (2 + t716.size ≤ 9223372036854775807) = true := decide_eq_true c20
              try have c20b2 : (9223372036854775807 < 2 + t716.size) = False := eq_false (Nat.not_lt.2 c20)
              obtain ⟨y717, hy717⟩ : ∃ y_ : ByteArray, y_ = ((⟨#[48, 46]⟩ : ByteArray) ++ t716) := ⟨_, rfl⟩
              replace H : (if y717.size + 1 ≤ 9223372036854775807 then ((some (y717 ++ (⟨#[101]⟩ : ByteArray) : ByteArray)).bind fun y718 => ((Hd.num_IntText.f (wrap64 ((wrap64 (t707 + (t716.size : Int))) - (y709.size : Int)))).bind fun t719 => (if y718.size + t719.size ≤ 9223372036854775807 then ((num_Parse.f kj1 (y718 ++ t719)).bind fun bt721 => (if 2 + t706.size ≤ 9223372036854775807 then ((some ((⟨#[48, 46]⟩ : ByteArray) ++ t706 : ByteArray)).bind fun y723 => (if y723.size + 1 ≤ 9223372036854775807 then ((some (y723 ++ (⟨#[101]⟩ : ByteArray) : ByteArray)).bind fun y724 => ((Hd.num_IntText.f t707).bind fun t725 => (if y724.size + t725.size ≤ 9223372036854775807 then ((num_Parse.f kj1 (y724 ++ t725)).bind fun bt727 => (if t715 = 0 then (if bt721.2 = 0 then (if bt727.2 = 0 then ((q_Bits.f t714 t705).bind fun t729 => (if t729 = true then (some false) else ((q_Bits.f bt721.1 t705).bind fun t730 => (if t730 = true then (some false) else ((q_Bits.f bt727.1 t705).bind fun t731 => (if t731 = true then (if ((FloatKind.f64.format.order t714 t705 == some Ordering.lt) = true) then (if ((FloatKind.f64.format.order bt721.1 t705 == some Ordering.gt) = true) then (w_NumShortest.l0 kj1 l0 (wrap64 (x3_1 + 1))) else (some false)) else (some false)) else (some false))))))) else (some false)) else (some false)) else (some false))) else (none)))) else (none))) else (none))) else (none)))) else (none)) = some r := by first | (rw [hy717]; with_reducible exact H) | (rw [hy717]; with_reducible exact (hs H :)) | with_reducible exact (hs H :) | with_reducible exact H | (rw [hy717]; exact H) | exact H
              have Ny717 := Aside0.mk hy717
              clear hy717
              by_cases c21 : y717.size + 1 ≤ 9223372036854775807
              ·
               rw [if_pos c21] at H
               have c21b0 := eq_true c21
               have c21b1 : decide (y717.size + 1 ≤ 9223372036854775807) = true := decide_eq_true c21
               try have c21b2 : (9223372036854775807 < y717.size + 1) = False := eq_false (Nat.not_lt.2 c21)
               obtain ⟨y718, hy718⟩ : ∃ y_ : ByteArray, y_ = (y717 ++ (⟨#[101]⟩ : ByteArray)) := ⟨_, rfl⟩
               replace H : ((Hd.num_IntText.f (wrap64 ((wrap64 (t707 + (t716.size : Int))) - (y709.size : Int)))).bind fun t719 => (if y718.size + t719.size ≤ 9223372036854775807 then ((num_Parse.f kj1 (y718 ++ t719)).bind fun bt721 => (if 2 + t706.size ≤ 9223372036854775807 then ((some ((⟨#[48, 46]⟩ : ByteArray) ++ t706 : ByteArray)).bind fun y723 => (if y723.size + 1 ≤ 9223372036854775807 then ((some (y723 ++ (⟨#[101]⟩ : ByteArray) : ByteArray)).bind fun y724 => ((Hd.num_IntText.f t707).bind fun t725 => (if y724.size + t725.size ≤ 9223372036854775807 then ((num_Parse.f kj1 (y724 ++ t725)).bind fun bt727 => (if t715 = 0 then (if bt721.2 = 0 then (if bt727.2 = 0 then ((q_Bits.f t714 t705).bind fun t729 => (if t729 = true then (some false) else ((q_Bits.f bt721.1 t705).bind fun t730 => (if t730 = true then (some false) else ((q_Bits.f bt727.1 t705).bind fun t731 => (if t731 = true then (if ((FloatKind.f64.format.order t714 t705 == some Ordering.lt) = true) then (if ((FloatKind.f64.format.order bt721.1 t705 == some Ordering.gt) = true) then (w_NumShortest.l0 kj1 l0 (wrap64 (x3_1 + 1))) else (some false)) else (some false)) else (some false))))))) else (some false)) else (some false)) else (some false))) else (none)))) else (none))) else (none))) else (none))) = some r := by first | (rw [hy718]; with_reducible exact H) | (rw [hy718]; with_reducible exact (hs H :)) | with_reducible exact (hs H :) | with_reducible exact H | (rw [hy718]; exact H) | exact H
               have Ny718 := Aside0.mk hy718
               clear hy718
               replace H := Option.bind_eq_some_iff.mp H
               obtain ⟨t719, A220, H⟩ := H
               have A22 := Aside0.mk A220
               clear A220
               by_cases c23 : y718.size + t719.size ≤ 9223372036854775807
               ·
                rw [if_pos c23] at H
                have c23b0 := eq_true c23
                have c23b1 : decide (y718.size + t719.size ≤ 9223372036854775807) = true := decide_eq_true c23
                try have c23b2 : (9223372036854775807 < y718.size + t719.size) = False := eq_false (Nat.not_lt.2 c23)
                obtain ⟨y720, hy720⟩ : ∃ y_ : ByteArray, y_ = (y718 ++ t719) := ⟨_, rfl⟩
                replace H : ((num_Parse.f kj1 y720).bind fun bt721 => (if 2 + t706.size ≤ 9223372036854775807 then ((some ((⟨#[48, 46]⟩ : ByteArray) ++ t706 : ByteArray)).bind fun y723 => (if y723.size + 1 ≤ 9223372036854775807 then ((some (y723 ++ (⟨#[101]⟩ : ByteArray) : ByteArray)).bind fun y724 => ((Hd.num_IntText.f t707).bind fun t725 => (if y724.size + t725.size ≤ 9223372036854775807 then ((num_Parse.f kj1 (y724 ++ t725)).bind fun bt727 => (if t715 = 0 then (if bt721.2 = 0 then (if bt727.2 = 0 then ((q_Bits.f t714 t705).bind fun t729 => (if t729 = true then (some false) else ((q_Bits.f bt721.1 t705).bind fun t730 => (if t730 = true then (some false) else ((q_Bits.f bt727.1 t705).bind fun t731 => (if t731 = true then (if ((FloatKind.f64.format.order t714 t705 == some Ordering.lt) = true) then (if ((FloatKind.f64.format.order bt721.1 t705 == some Ordering.gt) = true) then (w_NumShortest.l0 kj1 l0 (wrap64 (x3_1 + 1))) else (some false)) else (some false)) else (some false))))))) else (some false)) else (some false)) else (some false))) else (none)))) else (none))) else (none))) = some r := by first | (rw [hy720]; with_reducible exact H) | (rw [hy720]; with_reducible exact (hs H :)) | with_reducible exact (hs H :) | with_reducible exact H | (rw [hy720]; exact H) | exact H
                have Ny720 := Aside0.mk hy720
                clear hy720
                replace H := Option.bind_eq_some_iff.mp H
                obtain ⟨⟨t721, t722⟩, A240, H⟩ := H
                replace H : (if 2 + t706.size ≤ 9223372036854775807 then ((some ((⟨#[48, 46]⟩ : ByteArray) ++ t706 : ByteArray)).bind fun y723 => (if y723.size + 1 ≤ 9223372036854775807 then ((some (y723 ++ (⟨#[101]⟩ : ByteArray) : ByteArray)).bind fun y724 => ((Hd.num_IntText.f t707).bind fun t725 => (if y724.size + t725.size ≤ 9223372036854775807 then ((num_Parse.f kj1 (y724 ++ t725)).bind fun bt727 => (if t715 = 0 then (if t722 = 0 then (if bt727.2 = 0 then ((q_Bits.f t714 t705).bind fun t729 => (if t729 = true then (some false) else ((q_Bits.f t721 t705).bind fun t730 => (if t730 = true then (some false) else ((q_Bits.f bt727.1 t705).bind fun t731 => (if t731 = true then (if ((FloatKind.f64.format.order t714 t705 == some Ordering.lt) = true) then (if ((FloatKind.f64.format.order t721 t705 == some Ordering.gt) = true) then (w_NumShortest.l0 kj1 l0 (wrap64 (x3_1 + 1))) else (some false)) else (some false)) else (some false))))))) else (some false)) else (some false)) else (some false))) else (none)))) else (none))) else (none)) = some r := H
                have A24 := Aside0.mk A240
                clear A240
                by_cases c25 : 2 + t706.size ≤ 9223372036854775807
                ·
                 rw [if_pos c25] at H
                 have c25b0 := eq_true c25
                 have c25b1 : decide (2 + t706.size ≤ 9223372036854775807) = true := decide_eq_true c25
                 try have c25b2 : (9223372036854775807 < 2 + t706.size) = False := eq_false (Nat.not_lt.2 c25)
                 obtain ⟨y723, hy723⟩ : ∃ y_ : ByteArray, y_ = ((⟨#[48, 46]⟩ : ByteArray) ++ t706) := ⟨_, rfl⟩
                 replace H : (if y723.size + 1 ≤ 9223372036854775807 then ((some (y723 ++ (⟨#[101]⟩ : ByteArray) : ByteArray)).bind fun y724 => ((Hd.num_IntText.f t707).bind fun t725 => (if y724.size + t725.size ≤ 9223372036854775807 then ((num_Parse.f kj1 (y724 ++ t725)).bind fun bt727 => (if t715 = 0 then (if t722 = 0 then (if bt727.2 = 0 then ((q_Bits.f t714 t705).bind fun t729 => (if t729 = true then (some false) else ((q_Bits.f t721 t705).bind fun t730 => (if t730 = true then (some false) else ((q_Bits.f bt727.1 t705).bind fun t731 => (if t731 = true then (if ((FloatKind.f64.format.order t714 t705 == some Ordering.lt) = true) then (if ((FloatKind.f64.format.order t721 t705 == some Ordering.gt) = true) then (w_NumShortest.l0 kj1 l0 (wrap64 (x3_1 + 1))) else (some false)) else (some false)) else (some false))))))) else (some false)) else (some false)) else (some false))) else (none)))) else (none)) = some r := by first | (rw [hy723]; with_reducible exact H) | (rw [hy723]; with_reducible exact (hs H :)) | with_reducible exact (hs H :) | with_reducible exact H | (rw [hy723]; exact H) | exact H
                 have Ny723 := Aside0.mk hy723
                 clear hy723
                 by_cases c26 : y723.size + 1 ≤ 9223372036854775807
                 ·
                  rw [if_pos c26] at H
                  have c26b0 := eq_true c26
                  have c26b1 : decide (y723.size + 1 ≤ 9223372036854775807) = true := decide_eq_true c26
                  try have c26b2 : (9223372036854775807 < y723.size + 1) = False := eq_false (Nat.not_lt.2 c26)
                  obtain ⟨y724, hy724⟩ : ∃ y_ : ByteArray, y_ = (y723 ++ (⟨#[101]⟩ : ByteArray)) := ⟨_, rfl⟩
                  replace H : ((Hd.num_IntText.f t707).bind fun t725 => (if y724.size + t725.size ≤ 9223372036854775807 then ((num_Parse.f kj1 (y724 ++ t725)).bind fun bt727 => (if t715 = 0 then (if t722 = 0 then (if bt727.2 = 0 then ((q_Bits.f t714 t705).bind fun t729 => (if t729 = true then (some false) else ((q_Bits.f t721 t705).bind fun t730 => (if t730 = true then (some false) else ((q_Bits.f bt727.1 t705).bind fun t731 => (if t731 = true then (if ((FloatKind.f64.format.order t714 t705 == some Ordering.lt) = true) then (if ((FloatKind.f64.format.order t721 t705 == some Ordering.gt) = true) then (w_NumShortest.l0 kj1 l0 (wrap64 (x3_1 + 1))) else (some false)) else (some false)) else (some false))))))) else (some false)) else (some false)) else (some false))) else (none))) = some r := by first | (rw [hy724]; with_reducible exact H) | (rw [hy724]; with_reducible exact (hs H :)) | with_reducible exact (hs H :) | with_reducible exact H | (rw [hy724]; exact H) | exact H
                  have Ny724 := Aside0.mk hy724
                  clear hy724
                  replace H := Option.bind_eq_some_iff.mp H
                  obtain ⟨t725, A270, H⟩ := H
                  have A27 := Aside0.mk A270
                  clear A270
                  by_cases c28 : y724.size + t725.size ≤ 9223372036854775807
                  ·
                   rw [if_pos c28] at H
                   have c28b0 := eq_true c28
                   have c28b1 : decide (y724.size + t725.size ≤ 9223372036854775807) = true := decide_eq_true c28
                   try have c28b2 : (9223372036854775807 < y724.size + t725.size) = False := eq_false (Nat.not_lt.2 c28)
                   obtain ⟨y726, hy726⟩ : ∃ y_ : ByteArray, y_ = (y724 ++ t725) := ⟨_, rfl⟩
                   replace H : ((num_Parse.f kj1 y726).bind fun bt727 => (if t715 = 0 then (if t722 = 0 then (if bt727.2 = 0 then ((q_Bits.f t714 t705).bind fun t729 => (if t729 = true then (some false) else ((q_Bits.f t721 t705).bind fun t730 => (if t730 = true then (some false) else ((q_Bits.f bt727.1 t705).bind fun t731 => (if t731 = true then (if ((FloatKind.f64.format.order t714 t705 == some Ordering.lt) = true) then (if ((FloatKind.f64.format.order t721 t705 == some Ordering.gt) = true) then (w_NumShortest.l0 kj1 l0 (wrap64 (x3_1 + 1))) else (some false)) else (some false)) else (some false))))))) else (some false)) else (some false)) else (some false))) = some r := by first | (rw [hy726]; with_reducible exact H) | (rw [hy726]; with_reducible exact (hs H :)) | with_reducible exact (hs H :) | with_reducible exact H | (rw [hy726]; exact H) | exact H
                   have Ny726 := Aside0.mk hy726
                   clear hy726
                   replace H := Option.bind_eq_some_iff.mp H
                   obtain ⟨⟨t727, t728⟩, A290, H⟩ := H
                   replace H : (if t715 = 0 then (if t722 = 0 then (if t728 = 0 then ((q_Bits.f t714 t705).bind fun t729 => (if t729 = true then (some false) else ((q_Bits.f t721 t705).bind fun t730 => (if t730 = true then (some false) else ((q_Bits.f t727 t705).bind fun t731 => (if t731 = true then (if ((FloatKind.f64.format.order t714 t705 == some Ordering.lt) = true) then (if ((FloatKind.f64.format.order t721 t705 == some Ordering.gt) = true) then (w_NumShortest.l0 kj1 l0 (wrap64 (x3_1 + 1))) else (some false)) else (some false)) else (some false))))))) else (some false)) else (some false)) else (some false)) = some r := H
                   have A29 := Aside0.mk A290
                   clear A290
                   by_cases c30 : t715 = 0
                   ·
                    rw [if_pos c30] at H
                    have c30b0 : (t715 == 0) = true := beq_iff_eq.mpr c30
                    have c30b1 : (t715 != 0) = false := bne_eq_false_iff_eq.mpr c30
                    clear c30
                    by_cases c31 : t722 = 0
                    ·
                     rw [if_pos c31] at H
                     have c31b0 : (t722 == 0) = true := beq_iff_eq.mpr c31
                     have c31b1 : (t722 != 0) = false := bne_eq_false_iff_eq.mpr c31
                     clear c31
                     by_cases c32 : t728 = 0
                     ·
                      rw [if_pos c32] at H
                      have c32b0 : (t728 == 0) = true := beq_iff_eq.mpr c32
                      have c32b1 : (t728 != 0) = false := bne_eq_false_iff_eq.mpr c32
                      clear c32
                      replace H := Option.bind_eq_some_iff.mp H
                      obtain ⟨t729, A330, H⟩ := H
                      have A33 := Aside0.mk A330
                      clear A330
                      by_cases c34 : t729 = true
                      ·
                       subst c34
                       rw [if_pos rfl] at H
                       obtain rfl := Option.some.inj H
                       have p704 : 0 ≤ (x3_1 : Int) := of_decide_eq_true (by first | (with_reducible assumption) | assumption)
                       have q704 : x3_1 < (l0.length : Int) := of_decide_eq_true (by first | (with_reducible assumption) | assumption)
                       obtain ⟨ad704, e704, hx704_0⟩ := Kd.at_int HR0.out x3_1 p704 q704
                       cases e704
                       replace hx704_0 := (HB.out.cell (World.block_lt_of_cell? w _ hx704_0)).trans hx704_0
                       replace p704 := eq_true p704
                       replace q704 := eq_true q704
                       go_wp2_with (first | ((with_reducible refine gate_callee (f := 25) rfl ?_); refine gL (some 31) Tryd.func25 #[.int .u64 (Go.bits .andNot .u64 (rd l0 x3_1) 9223372036854775808)] ?_; (with_reducible refine (w_fromBits.calls (Go.bits .andNot .u64 (rd l0 x3_1) 9223372036854775808) t705 _ A7.out).mono ?_); rintro e w' ⟨rfl, ⟨nd, rfl⟩⟩; refine ⟨_, rfl, ?_⟩) | ((with_reducible refine gate_callee (f := 13) rfl ?_); refine gL (some 34) Tryd.func13 #[.float .f64 t705] ?_; (with_reducible refine (num_Digits.calls kj1 t705 t706 t707 t708 _ A8.out).mono ?_); rintro e w35 ⟨rfl, hb⟩; refine ⟨_, rfl, ?_⟩; replace HB := lb HB hb; (try clear hb); (try clear hb2); (try clear hk); (try clear hi); have hcs36 := Hd.str_to (P := Tryd.prog) (k := .i64) Tryd.underlying9 (j := (ji11)) (s := t706) (y := y709) (by first | (with_reducible assumption) | exact of_decide_eq_true (by first | (with_reducible assumption) | assumption) | omega) (by first | (with_reducible assumption) | exact of_decide_eq_true (by first | (with_reducible assumption) | assumption) | omega) Ny709.out; have hcs37 := Hd.str_cat (P := Tryd.prog) (s := (⟨#[48, 46]⟩ : ByteArray)) (t := y709) (y := y710) (by first | (with_reducible assumption) | assumption | exact of_eq_true (by assumption) | omega) Ny710.out; have hcs37' := Hd.str_cat' (P := Tryd.prog) (s := (⟨#[48, 46]⟩ : ByteArray)) (t := y709) (y := y710) (by first | (with_reducible assumption) | assumption | exact of_eq_true (by assumption) | omega) Ny710.out; have hcs38 := Hd.str_cat (P := Tryd.prog) (s := y710) (t := (⟨#[101]⟩ : ByteArray)) (y := y711) (by first | (with_reducible assumption) | assumption | exact of_eq_true (by assumption) | omega) Ny711.out; have hcs38' := Hd.str_cat' (P := Tryd.prog) (s := y710) (t := (⟨#[101]⟩ : ByteArray)) (y := y711) (by first | (with_reducible assumption) | assumption | exact of_eq_true (by assumption) | omega) Ny711.out) | ((with_reducible refine gate_callee (f := 26) rfl ?_); refine gL (some 51) Tryd.func26 #[.int .i64 t707] ?_; (with_reducible refine (Hd.num_IntText.calls t707 t712 _ A16.out).mono ?_); rintro e w39 ⟨rfl, hb⟩; refine ⟨_, rfl, ?_⟩; replace HB := lb HB hb; (try clear hb); (try clear hb2); (try clear hk); (try clear hi); have hcs40 := Hd.str_cat (P := Tryd.prog) (s := y711) (t := t712) (y := y713) (by first | (with_reducible assumption) | assumption | exact of_eq_true (by assumption) | omega) Ny713.out; have hcs40' := Hd.str_cat' (P := Tryd.prog) (s := y711) (t := t712) (y := y713) (by first | (with_reducible assumption) | assumption | exact of_eq_true (by assumption) | omega) Ny713.out) | ((with_reducible refine gate_callee (f := 18) rfl ?_); refine gL (some 53) Tryd.func18 #[.string y713] ?_; (with_reducible refine (num_Parse.calls kj1 y713 t714 t715 _ A18.out).mono ?_); rintro e w41 ⟨rfl, hb⟩; refine ⟨_, rfl, ?_⟩; replace HB := lb HB hb; (try clear hb); (try clear hb2); (try clear hk); (try clear hi)) | ((with_reducible refine gate_callee (f := 27) rfl ?_); refine gL (some 57) Tryd.func27 #[.string y709] ?_; (with_reducible refine (Hd.w_times.calls y709 t716 _ A19.out).mono ?_); rintro e w42 ⟨rfl, hb⟩; refine ⟨_, rfl, ?_⟩; replace HB := lb HB hb; (try clear hb); (try clear hb2); (try clear hk); (try clear hi); have hcs43 := Hd.str_cat (P := Tryd.prog) (s := (⟨#[48, 46]⟩ : ByteArray)) (t := t716) (y := y717) (by first | (with_reducible assumption) | assumption | exact of_eq_true (by assumption) | omega) Ny717.out; have hcs43' := Hd.str_cat' (P := Tryd.prog) (s := (⟨#[48, 46]⟩ : ByteArray)) (t := t716) (y := y717) (by first | (with_reducible assumption) | assumption | exact of_eq_true (by assumption) | omega) Ny717.out; have hcs44 := Hd.str_cat (P := Tryd.prog) (s := y717) (t := (⟨#[101]⟩ : ByteArray)) (y := y718) (by first | (with_reducible assumption) | assumption | exact of_eq_true (by assumption) | omega) Ny718.out; have hcs44' := Hd.str_cat' (P := Tryd.prog) (s := y717) (t := (⟨#[101]⟩ : ByteArray)) (y := y718) (by first | (with_reducible assumption) | assumption | exact of_eq_true (by assumption) | omega) Ny718.out) | ((with_reducible refine gate_callee (f := 26) rfl ?_); refine gL (some 69) Tryd.func26 #[.int .i64 (wrap64 ((wrap64 (t707 + (t716.size : Int))) - (y709.size : Int)))] ?_; (with_reducible refine (Hd.num_IntText.calls (wrap64 ((wrap64 (t707 + (t716.size : Int))) - (y709.size : Int))) t719 _ A22.out).mono ?_); rintro e w45 ⟨rfl, hb⟩; refine ⟨_, rfl, ?_⟩; replace HB := lb HB hb; (try clear hb); (try clear hb2); (try clear hk); (try clear hi); have hcs46 := Hd.str_cat (P := Tryd.prog) (s := y718) (t := t719) (y := y720) (by first | (with_reducible assumption) | assumption | exact of_eq_true (by assumption) | omega) Ny720.out; have hcs46' := Hd.str_cat' (P := Tryd.prog) (s := y718) (t := t719) (y := y720) (by first | (with_reducible assumption) | assumption | exact of_eq_true (by assumption) | omega) Ny720.out) | ((with_reducible refine gate_callee (f := 18) rfl ?_); refine gL (some 71) Tryd.func18 #[.string y720] ?_; (with_reducible refine (num_Parse.calls kj1 y720 t721 t722 _ A24.out).mono ?_); rintro e w47 ⟨rfl, hb⟩; refine ⟨_, rfl, ?_⟩; replace HB := lb HB hb; (try clear hb); (try clear hb2); (try clear hk); (try clear hi); have hcs48 := Hd.str_cat (P := Tryd.prog) (s := (⟨#[48, 46]⟩ : ByteArray)) (t := t706) (y := y723) (by first | (with_reducible assumption) | assumption | exact of_eq_true (by assumption) | omega) Ny723.out; have hcs48' := Hd.str_cat' (P := Tryd.prog) (s := (⟨#[48, 46]⟩ : ByteArray)) (t := t706) (y := y723) (by first | (with_reducible assumption) | assumption | exact of_eq_true (by assumption) | omega) Ny723.out; have hcs49 := Hd.str_cat (P := Tryd.prog) (s := y723) (t := (⟨#[101]⟩ : ByteArray)) (y := y724) (by first | (with_reducible assumption) | assumption | exact of_eq_true (by assumption) | omega) Ny724.out; have hcs49' := Hd.str_cat' (P := Tryd.prog) (s := y723) (t := (⟨#[101]⟩ : ByteArray)) (y := y724) (by first | (with_reducible assumption) | assumption | exact of_eq_true (by assumption) | omega) Ny724.out) | ((with_reducible refine gate_callee (f := 26) rfl ?_); refine gL (some 79) Tryd.func26 #[.int .i64 t707] ?_; (with_reducible refine (Hd.num_IntText.calls t707 t725 _ A27.out).mono ?_); rintro e w50 ⟨rfl, hb⟩; refine ⟨_, rfl, ?_⟩; replace HB := lb HB hb; (try clear hb); (try clear hb2); (try clear hk); (try clear hi); have hcs51 := Hd.str_cat (P := Tryd.prog) (s := y724) (t := t725) (y := y726) (by first | (with_reducible assumption) | assumption | exact of_eq_true (by assumption) | omega) Ny726.out; have hcs51' := Hd.str_cat' (P := Tryd.prog) (s := y724) (t := t725) (y := y726) (by first | (with_reducible assumption) | assumption | exact of_eq_true (by assumption) | omega) Ny726.out) | ((with_reducible refine gate_callee (f := 18) rfl ?_); refine gL (some 81) Tryd.func18 #[.string y726] ?_; (with_reducible refine (num_Parse.calls kj1 y726 t727 t728 _ A29.out).mono ?_); rintro e w52 ⟨rfl, hb⟩; refine ⟨_, rfl, ?_⟩; replace HB := lb HB hb; (try clear hb); (try clear hb2); (try clear hk); (try clear hi)) | (go_at_call 20; (with_reducible refine (q_Bits.calls t714 t705 true _ A33.out).mono ?_); rintro e w' ⟨rfl, ⟨nd, rfl⟩⟩))
                       go_ret
                       exact ex (lk HB)
                      replace c34 := Bool.eq_false_iff.mpr c34
                      subst c34
                      rw [if_neg (show ¬ (false = true) by decide)] at H
                      replace H := Option.bind_eq_some_iff.mp H
                      obtain ⟨t730, A530, H⟩ := H
                      have A53 := Aside0.mk A530
                      clear A530
                      by_cases c54 : t730 = true
                      ·
                       subst c54
                       rw [if_pos rfl] at H
                       obtain rfl := Option.some.inj H
                       have p704 : 0 ≤ (x3_1 : Int) := of_decide_eq_true (by first | (with_reducible assumption) | assumption)
                       have q704 : x3_1 < (l0.length : Int) := of_decide_eq_true (by first | (with_reducible assumption) | assumption)
                       obtain ⟨ad704, e704, hx704_0⟩ := Kd.at_int HR0.out x3_1 p704 q704
                       cases e704
                       replace hx704_0 := (HB.out.cell (World.block_lt_of_cell? w _ hx704_0)).trans hx704_0
                       replace p704 := eq_true p704
                       replace q704 := eq_true q704
                       go_wp2_with (first | ((with_reducible refine gate_callee (f := 25) rfl ?_); refine gL (some 31) Tryd.func25 #[.int .u64 (Go.bits .andNot .u64 (rd l0 x3_1) 9223372036854775808)] ?_; (with_reducible refine (w_fromBits.calls (Go.bits .andNot .u64 (rd l0 x3_1) 9223372036854775808) t705 _ A7.out).mono ?_); rintro e w' ⟨rfl, ⟨nd, rfl⟩⟩; refine ⟨_, rfl, ?_⟩) | ((with_reducible refine gate_callee (f := 13) rfl ?_); refine gL (some 34) Tryd.func13 #[.float .f64 t705] ?_; (with_reducible refine (num_Digits.calls kj1 t705 t706 t707 t708 _ A8.out).mono ?_); rintro e w55 ⟨rfl, hb⟩; refine ⟨_, rfl, ?_⟩; replace HB := lb HB hb; (try clear hb); (try clear hb2); (try clear hk); (try clear hi); have hcs56 := Hd.str_to (P := Tryd.prog) (k := .i64) Tryd.underlying9 (j := (ji11)) (s := t706) (y := y709) (by first | (with_reducible assumption) | exact of_decide_eq_true (by first | (with_reducible assumption) | assumption) | omega) (by first | (with_reducible assumption) | exact of_decide_eq_true (by first | (with_reducible assumption) | assumption) | omega) Ny709.out; have hcs57 := Hd.str_cat (P := Tryd.prog) (s := (⟨#[48, 46]⟩ : ByteArray)) (t := y709) (y := y710) (by first | (with_reducible assumption) | assumption | exact of_eq_true (by assumption) | omega) Ny710.out; have hcs57' := Hd.str_cat' (P := Tryd.prog) (s := (⟨#[48, 46]⟩ : ByteArray)) (t := y709) (y := y710) (by first | (with_reducible assumption) | assumption | exact of_eq_true (by assumption) | omega) Ny710.out; have hcs58 := Hd.str_cat (P := Tryd.prog) (s := y710) (t := (⟨#[101]⟩ : ByteArray)) (y := y711) (by first | (with_reducible assumption) | assumption | exact of_eq_true (by assumption) | omega) Ny711.out; have hcs58' := Hd.str_cat' (P := Tryd.prog) (s := y710) (t := (⟨#[101]⟩ : ByteArray)) (y := y711) (by first | (with_reducible assumption) | assumption | exact of_eq_true (by assumption) | omega) Ny711.out) | ((with_reducible refine gate_callee (f := 26) rfl ?_); refine gL (some 51) Tryd.func26 #[.int .i64 t707] ?_; (with_reducible refine (Hd.num_IntText.calls t707 t712 _ A16.out).mono ?_); rintro e w59 ⟨rfl, hb⟩; refine ⟨_, rfl, ?_⟩; replace HB := lb HB hb; (try clear hb); (try clear hb2); (try clear hk); (try clear hi); have hcs60 := Hd.str_cat (P := Tryd.prog) (s := y711) (t := t712) (y := y713) (by first | (with_reducible assumption) | assumption | exact of_eq_true (by assumption) | omega) Ny713.out; have hcs60' := Hd.str_cat' (P := Tryd.prog) (s := y711) (t := t712) (y := y713) (by first | (with_reducible assumption) | assumption | exact of_eq_true (by assumption) | omega) Ny713.out) | ((with_reducible refine gate_callee (f := 18) rfl ?_); refine gL (some 53) Tryd.func18 #[.string y713] ?_; (with_reducible refine (num_Parse.calls kj1 y713 t714 t715 _ A18.out).mono ?_); rintro e w61 ⟨rfl, hb⟩; refine ⟨_, rfl, ?_⟩; replace HB := lb HB hb; (try clear hb); (try clear hb2); (try clear hk); (try clear hi)) | ((with_reducible refine gate_callee (f := 27) rfl ?_); refine gL (some 57) Tryd.func27 #[.string y709] ?_; (with_reducible refine (Hd.w_times.calls y709 t716 _ A19.out).mono ?_); rintro e w62 ⟨rfl, hb⟩; refine ⟨_, rfl, ?_⟩; replace HB := lb HB hb; (try clear hb); (try clear hb2); (try clear hk); (try clear hi); have hcs63 := Hd.str_cat (P := Tryd.prog) (s := (⟨#[48, 46]⟩ : ByteArray)) (t := t716) (y := y717) (by first | (with_reducible assumption) | assumption | exact of_eq_true (by assumption) | omega) Ny717.out; have hcs63' := Hd.str_cat' (P := Tryd.prog) (s := (⟨#[48, 46]⟩ : ByteArray)) (t := t716) (y := y717) (by first | (with_reducible assumption) | assumption | exact of_eq_true (by assumption) | omega) Ny717.out; have hcs64 := Hd.str_cat (P := Tryd.prog) (s := y717) (t := (⟨#[101]⟩ : ByteArray)) (y := y718) (by first | (with_reducible assumption) | assumption | exact of_eq_true (by assumption) | omega) Ny718.out; have hcs64' := Hd.str_cat' (P := Tryd.prog) (s := y717) (t := (⟨#[101]⟩ : ByteArray)) (y := y718) (by first | (with_reducible assumption) | assumption | exact of_eq_true (by assumption) | omega) Ny718.out) | ((with_reducible refine gate_callee (f := 26) rfl ?_); refine gL (some 69) Tryd.func26 #[.int .i64 (wrap64 ((wrap64 (t707 + (t716.size : Int))) - (y709.size : Int)))] ?_; (with_reducible refine (Hd.num_IntText.calls (wrap64 ((wrap64 (t707 + (t716.size : Int))) - (y709.size : Int))) t719 _ A22.out).mono ?_); rintro e w65 ⟨rfl, hb⟩; refine ⟨_, rfl, ?_⟩; replace HB := lb HB hb; (try clear hb); (try clear hb2); (try clear hk); (try clear hi); have hcs66 := Hd.str_cat (P := Tryd.prog) (s := y718) (t := t719) (y := y720) (by first | (with_reducible assumption) | assumption | exact of_eq_true (by assumption) | omega) Ny720.out; have hcs66' := Hd.str_cat' (P := Tryd.prog) (s := y718) (t := t719) (y := y720) (by first | (with_reducible assumption) | assumption | exact of_eq_true (by assumption) | omega) Ny720.out) | ((with_reducible refine gate_callee (f := 18) rfl ?_); refine gL (some 71) Tryd.func18 #[.string y720] ?_; (with_reducible refine (num_Parse.calls kj1 y720 t721 t722 _ A24.out).mono ?_); rintro e w67 ⟨rfl, hb⟩; refine ⟨_, rfl, ?_⟩; replace HB := lb HB hb; (try clear hb); (try clear hb2); (try clear hk); (try clear hi); have hcs68 := Hd.str_cat (P := Tryd.prog) (s := (⟨#[48, 46]⟩ : ByteArray)) (t := t706) (y := y723) (by first | (with_reducible assumption) | assumption | exact of_eq_true (by assumption) | omega) Ny723.out; have hcs68' := Hd.str_cat' (P := Tryd.prog) (s := (⟨#[48, 46]⟩ : ByteArray)) (t := t706) (y := y723) (by first | (with_reducible assumption) | assumption | exact of_eq_true (by assumption) | omega) Ny723.out; have hcs69 := Hd.str_cat (P := Tryd.prog) (s := y723) (t := (⟨#[101]⟩ : ByteArray)) (y := y724) (by first | (with_reducible assumption) | assumption | exact of_eq_true (by assumption) | omega) Ny724.out; have hcs69' := Hd.str_cat' (P := Tryd.prog) (s := y723) (t := (⟨#[101]⟩ : ByteArray)) (y := y724) (by first | (with_reducible assumption) | assumption | exact of_eq_true (by assumption) | omega) Ny724.out) | ((with_reducible refine gate_callee (f := 26) rfl ?_); refine gL (some 79) Tryd.func26 #[.int .i64 t707] ?_; (with_reducible refine (Hd.num_IntText.calls t707 t725 _ A27.out).mono ?_); rintro e w70 ⟨rfl, hb⟩; refine ⟨_, rfl, ?_⟩; replace HB := lb HB hb; (try clear hb); (try clear hb2); (try clear hk); (try clear hi); have hcs71 := Hd.str_cat (P := Tryd.prog) (s := y724) (t := t725) (y := y726) (by first | (with_reducible assumption) | assumption | exact of_eq_true (by assumption) | omega) Ny726.out; have hcs71' := Hd.str_cat' (P := Tryd.prog) (s := y724) (t := t725) (y := y726) (by first | (with_reducible assumption) | assumption | exact of_eq_true (by assumption) | omega) Ny726.out) | ((with_reducible refine gate_callee (f := 18) rfl ?_); refine gL (some 81) Tryd.func18 #[.string y726] ?_; (with_reducible refine (num_Parse.calls kj1 y726 t727 t728 _ A29.out).mono ?_); rintro e w72 ⟨rfl, hb⟩; refine ⟨_, rfl, ?_⟩; replace HB := lb HB hb; (try clear hb); (try clear hb2); (try clear hk); (try clear hi)) | (go_at_call 20; (with_reducible refine (q_Bits.calls t714 t705 false _ A33.out).mono ?_); rintro e w' ⟨rfl, ⟨nd, rfl⟩⟩) | (go_at_call 20; (with_reducible refine (q_Bits.calls t721 t705 true _ A53.out).mono ?_); rintro e w' ⟨rfl, ⟨nd, rfl⟩⟩))
                       go_ret
                       exact ex (lk HB)
                      replace c54 := Bool.eq_false_iff.mpr c54
                      subst c54
                      rw [if_neg (show ¬ (false = true) by decide)] at H
                      replace H := Option.bind_eq_some_iff.mp H
                      obtain ⟨t731, A730, H⟩ := H
                      have A73 := Aside0.mk A730
                      clear A730
                      by_cases c74 : t731 = true
                      ·
                       subst c74
                       rw [if_pos rfl] at H
                       by_cases c75 : ((FloatKind.f64.format.order t714 t705 == some Ordering.lt) = true)
                       ·
                        rw [if_pos c75] at H
                        have c75b0 : (FloatKind.f64.format.order t714 t705 == some Ordering.lt) = true := c75
                        (try (have c75b1 : decide (FloatKind.f64.format.order t714 t705 = some Ordering.lt) = true := by simpa using c75))
                        (try (have c75b2 : (FloatKind.f64.format.order t714 t705 == some Ordering.lt) = true := by simpa using c75))
                        clear c75
                        by_cases c76 : ((FloatKind.f64.format.order t721 t705 == some Ordering.gt) = true)
                        ·
                         rw [if_pos c76] at H
                         have c76b0 : (FloatKind.f64.format.order t721 t705 == some Ordering.gt) = true := c76
                         (try (have c76b1 : decide (FloatKind.f64.format.order t721 t705 = some Ordering.gt) = true := by simpa using c76))
                         (try (have c76b2 : (FloatKind.f64.format.order t721 t705 == some Ordering.gt) = true := by simpa using c76))
                         clear c76
                         have H' := Aside0.mk H
                         clear H
                         have p704 : 0 ≤ (x3_1 : Int) := of_decide_eq_true (by first | (with_reducible assumption) | assumption)
                         have q704 : x3_1 < (l0.length : Int) := of_decide_eq_true (by first | (with_reducible assumption) | assumption)
                         obtain ⟨ad704, e704, hx704_0⟩ := Kd.at_int HR0.out x3_1 p704 q704
                         cases e704
                         replace hx704_0 := (HB.out.cell (World.block_lt_of_cell? w _ hx704_0)).trans hx704_0
                         replace p704 := eq_true p704
                         replace q704 := eq_true q704
                         go_wp2_with (first | ((with_reducible refine gate_callee (f := 25) rfl ?_); refine gL (some 31) Tryd.func25 #[.int .u64 (Go.bits .andNot .u64 (rd l0 x3_1) 9223372036854775808)] ?_; (with_reducible refine (w_fromBits.calls (Go.bits .andNot .u64 (rd l0 x3_1) 9223372036854775808) t705 _ A7.out).mono ?_); rintro e w' ⟨rfl, ⟨nd, rfl⟩⟩; refine ⟨_, rfl, ?_⟩) | ((with_reducible refine gate_callee (f := 13) rfl ?_); refine gL (some 34) Tryd.func13 #[.float .f64 t705] ?_; (with_reducible refine (num_Digits.calls kj1 t705 t706 t707 t708 _ A8.out).mono ?_); rintro e w77 ⟨rfl, hb⟩; refine ⟨_, rfl, ?_⟩; replace HB := lb HB hb; (try clear hb); (try clear hb2); (try clear hk); (try clear hi); have hcs78 := Hd.str_to (P := Tryd.prog) (k := .i64) Tryd.underlying9 (j := (ji11)) (s := t706) (y := y709) (by first | (with_reducible assumption) | exact of_decide_eq_true (by first | (with_reducible assumption) | assumption) | omega) (by first | (with_reducible assumption) | exact of_decide_eq_true (by first | (with_reducible assumption) | assumption) | omega) Ny709.out; have hcs79 := Hd.str_cat (P := Tryd.prog) (s := (⟨#[48, 46]⟩ : ByteArray)) (t := y709) (y := y710) (by first | (with_reducible assumption) | assumption | exact of_eq_true (by assumption) | omega) Ny710.out; have hcs79' := Hd.str_cat' (P := Tryd.prog) (s := (⟨#[48, 46]⟩ : ByteArray)) (t := y709) (y := y710) (by first | (with_reducible assumption) | assumption | exact of_eq_true (by assumption) | omega) Ny710.out; have hcs80 := Hd.str_cat (P := Tryd.prog) (s := y710) (t := (⟨#[101]⟩ : ByteArray)) (y := y711) (by first | (with_reducible assumption) | assumption | exact of_eq_true (by assumption) | omega) Ny711.out; have hcs80' := Hd.str_cat' (P := Tryd.prog) (s := y710) (t := (⟨#[101]⟩ : ByteArray)) (y := y711) (by first | (with_reducible assumption) | assumption | exact of_eq_true (by assumption) | omega) Ny711.out) | ((with_reducible refine gate_callee (f := 26) rfl ?_); refine gL (some 51) Tryd.func26 #[.int .i64 t707] ?_; (with_reducible refine (Hd.num_IntText.calls t707 t712 _ A16.out).mono ?_); rintro e w81 ⟨rfl, hb⟩; refine ⟨_, rfl, ?_⟩; replace HB := lb HB hb; (try clear hb); (try clear hb2); (try clear hk); (try clear hi); have hcs82 := Hd.str_cat (P := Tryd.prog) (s := y711) (t := t712) (y := y713) (by first | (with_reducible assumption) | assumption | exact of_eq_true (by assumption) | omega) Ny713.out; have hcs82' := Hd.str_cat' (P := Tryd.prog) (s := y711) (t := t712) (y := y713) (by first | (with_reducible assumption) | assumption | exact of_eq_true (by assumption) | omega) Ny713.out) | ((with_reducible refine gate_callee (f := 18) rfl ?_); refine gL (some 53) Tryd.func18 #[.string y713] ?_; (with_reducible refine (num_Parse.calls kj1 y713 t714 t715 _ A18.out).mono ?_); rintro e w83 ⟨rfl, hb⟩; refine ⟨_, rfl, ?_⟩; replace HB := lb HB hb; (try clear hb); (try clear hb2); (try clear hk); (try clear hi)) | ((with_reducible refine gate_callee (f := 27) rfl ?_); refine gL (some 57) Tryd.func27 #[.string y709] ?_; (with_reducible refine (Hd.w_times.calls y709 t716 _ A19.out).mono ?_); rintro e w84 ⟨rfl, hb⟩; refine ⟨_, rfl, ?_⟩; replace HB := lb HB hb; (try clear hb); (try clear hb2); (try clear hk); (try clear hi); have hcs85 := Hd.str_cat (P := Tryd.prog) (s := (⟨#[48, 46]⟩ : ByteArray)) (t := t716) (y := y717) (by first | (with_reducible assumption) | assumption | exact of_eq_true (by assumption) | omega) Ny717.out; have hcs85' := Hd.str_cat' (P := Tryd.prog) (s := (⟨#[48, 46]⟩ : ByteArray)) (t := t716) (y := y717) (by first | (with_reducible assumption) | assumption | exact of_eq_true (by assumption) | omega) Ny717.out; have hcs86 := Hd.str_cat (P := Tryd.prog) (s := y717) (t := (⟨#[101]⟩ : ByteArray)) (y := y718) (by first | (with_reducible assumption) | assumption | exact of_eq_true (by assumption) | omega) Ny718.out; have hcs86' := Hd.str_cat' (P := Tryd.prog) (s := y717) (t := (⟨#[101]⟩ : ByteArray)) (y := y718) (by first | (with_reducible assumption) | assumption | exact of_eq_true (by assumption) | omega) Ny718.out) | ((with_reducible refine gate_callee (f := 26) rfl ?_); refine gL (some 69) Tryd.func26 #[.int .i64 (wrap64 ((wrap64 (t707 + (t716.size : Int))) - (y709.size : Int)))] ?_; (with_reducible refine (Hd.num_IntText.calls (wrap64 ((wrap64 (t707 + (t716.size : Int))) - (y709.size : Int))) t719 _ A22.out).mono ?_); rintro e w87 ⟨rfl, hb⟩; refine ⟨_, rfl, ?_⟩; replace HB := lb HB hb; (try clear hb); (try clear hb2); (try clear hk); (try clear hi); have hcs88 := Hd.str_cat (P := Tryd.prog) (s := y718) (t := t719) (y := y720) (by first | (with_reducible assumption) | assumption | exact of_eq_true (by assumption) | omega) Ny720.out; have hcs88' := Hd.str_cat' (P := Tryd.prog) (s := y718) (t := t719) (y := y720) (by first | (with_reducible assumption) | assumption | exact of_eq_true (by assumption) | omega) Ny720.out) | ((with_reducible refine gate_callee (f := 18) rfl ?_); refine gL (some 71) Tryd.func18 #[.string y720] ?_; (with_reducible refine (num_Parse.calls kj1 y720 t721 t722 _ A24.out).mono ?_); rintro e w89 ⟨rfl, hb⟩; refine ⟨_, rfl, ?_⟩; replace HB := lb HB hb; (try clear hb); (try clear hb2); (try clear hk); (try clear hi); have hcs90 := Hd.str_cat (P := Tryd.prog) (s := (⟨#[48, 46]⟩ : ByteArray)) (t := t706) (y := y723) (by first | (with_reducible assumption) | assumption | exact of_eq_true (by assumption) | omega) Ny723.out; have hcs90' := Hd.str_cat' (P := Tryd.prog) (s := (⟨#[48, 46]⟩ : ByteArray)) (t := t706) (y := y723) (by first | (with_reducible assumption) | assumption | exact of_eq_true (by assumption) | omega) Ny723.out; have hcs91 := Hd.str_cat (P := Tryd.prog) (s := y723) (t := (⟨#[101]⟩ : ByteArray)) (y := y724) (by first | (with_reducible assumption) | assumption | exact of_eq_true (by assumption) | omega) Ny724.out; have hcs91' := Hd.str_cat' (P := Tryd.prog) (s := y723) (t := (⟨#[101]⟩ : ByteArray)) (y := y724) (by first | (with_reducible assumption) | assumption | exact of_eq_true (by assumption) | omega) Ny724.out) | ((with_reducible refine gate_callee (f := 26) rfl ?_); refine gL (some 79) Tryd.func26 #[.int .i64 t707] ?_; (with_reducible refine (Hd.num_IntText.calls t707 t725 _ A27.out).mono ?_); rintro e w92 ⟨rfl, hb⟩; refine ⟨_, rfl, ?_⟩; replace HB := lb HB hb; (try clear hb); (try clear hb2); (try clear hk); (try clear hi); have hcs93 := Hd.str_cat (P := Tryd.prog) (s := y724) (t := t725) (y := y726) (by first | (with_reducible assumption) | assumption | exact of_eq_true (by assumption) | omega) Ny726.out; have hcs93' := Hd.str_cat' (P := Tryd.prog) (s := y724) (t := t725) (y := y726) (by first | (with_reducible assumption) | assumption | exact of_eq_true (by assumption) | omega) Ny726.out) | ((with_reducible refine gate_callee (f := 18) rfl ?_); refine gL (some 81) Tryd.func18 #[.string y726] ?_; (with_reducible refine (num_Parse.calls kj1 y726 t727 t728 _ A29.out).mono ?_); rintro e w94 ⟨rfl, hb⟩; refine ⟨_, rfl, ?_⟩; replace HB := lb HB hb; (try clear hb); (try clear hb2); (try clear hk); (try clear hi)) | (go_at_call 20; (with_reducible refine (q_Bits.calls t714 t705 false _ A33.out).mono ?_); rintro e w' ⟨rfl, ⟨nd, rfl⟩⟩) | (go_at_call 20; (with_reducible refine (q_Bits.calls t721 t705 false _ A53.out).mono ?_); rintro e w' ⟨rfl, ⟨nd, rfl⟩⟩) | (go_at_call 20; (with_reducible refine (q_Bits.calls t727 t705 true _ A73.out).mono ?_); rintro e w' ⟨rfl, ⟨nd, rfl⟩⟩))
                         go_roundg kj1
                         case measure => have := HK1.out; have := HJ1.out; omega
                         case rel => exact ⟨(wrap64 (x3_1 + 1)), (by first | rfl | (simp; done) | (simp [*]; done)), H', ⟨by have := HK1.out; have := HJ1.out; omega⟩, ⟨lk HB⟩⟩
                        rw [if_neg c76] at H
                        have c76b0 : (FloatKind.f64.format.order t721 t705 == some Ordering.gt) = false := by simpa using c76
                        (try (have c76b1 : decide (FloatKind.f64.format.order t721 t705 = some Ordering.gt) = false := by simpa using c76))
                        (try (have c76b2 : (FloatKind.f64.format.order t721 t705 == some Ordering.gt) = false := by simpa using c76))
                        (try (have c76b3 : ¬ (FloatKind.f64.format.order t721 t705 = some Ordering.gt) := by simpa using c76))
                        clear c76
                        obtain rfl := Option.some.inj H
                        have p704 : 0 ≤ (x3_1 : Int) := of_decide_eq_true (by first | (with_reducible assumption) | assumption)
                        have q704 : x3_1 < (l0.length : Int) := of_decide_eq_true (by first | (with_reducible assumption) | assumption)
                        obtain ⟨ad704, e704, hx704_0⟩ := Kd.at_int HR0.out x3_1 p704 q704
                        cases e704
                        replace hx704_0 := (HB.out.cell (World.block_lt_of_cell? w _ hx704_0)).trans hx704_0
                        replace p704 := eq_true p704
                        replace q704 := eq_true q704
                        go_wp2_with (first | ((with_reducible refine gate_callee (f := 25) rfl ?_); refine gL (some 31) Tryd.func25 #[.int .u64 (Go.bits .andNot .u64 (rd l0 x3_1) 9223372036854775808)] ?_; (with_reducible refine (w_fromBits.calls (Go.bits .andNot .u64 (rd l0 x3_1) 9223372036854775808) t705 _ A7.out).mono ?_); rintro e w' ⟨rfl, ⟨nd, rfl⟩⟩; refine ⟨_, rfl, ?_⟩) | ((with_reducible refine gate_callee (f := 13) rfl ?_); refine gL (some 34) Tryd.func13 #[.float .f64 t705] ?_; (with_reducible refine (num_Digits.calls kj1 t705 t706 t707 t708 _ A8.out).mono ?_); rintro e w95 ⟨rfl, hb⟩; refine ⟨_, rfl, ?_⟩; replace HB := lb HB hb; (try clear hb); (try clear hb2); (try clear hk); (try clear hi); have hcs96 := Hd.str_to (P := Tryd.prog) (k := .i64) Tryd.underlying9 (j := (ji11)) (s := t706) (y := y709) (by first | (with_reducible assumption) | exact of_decide_eq_true (by first | (with_reducible assumption) | assumption) | omega) (by first | (with_reducible assumption) | exact of_decide_eq_true (by first | (with_reducible assumption) | assumption) | omega) Ny709.out; have hcs97 := Hd.str_cat (P := Tryd.prog) (s := (⟨#[48, 46]⟩ : ByteArray)) (t := y709) (y := y710) (by first | (with_reducible assumption) | assumption | exact of_eq_true (by assumption) | omega) Ny710.out; have hcs97' := Hd.str_cat' (P := Tryd.prog) (s := (⟨#[48, 46]⟩ : ByteArray)) (t := y709) (y := y710) (by first | (with_reducible assumption) | assumption | exact of_eq_true (by assumption) | omega) Ny710.out; have hcs98 := Hd.str_cat (P := Tryd.prog) (s := y710) (t := (⟨#[101]⟩ : ByteArray)) (y := y711) (by first | (with_reducible assumption) | assumption | exact of_eq_true (by assumption) | omega) Ny711.out; have hcs98' := Hd.str_cat' (P := Tryd.prog) (s := y710) (t := (⟨#[101]⟩ : ByteArray)) (y := y711) (by first | (with_reducible assumption) | assumption | exact of_eq_true (by assumption) | omega) Ny711.out) | ((with_reducible refine gate_callee (f := 26) rfl ?_); refine gL (some 51) Tryd.func26 #[.int .i64 t707] ?_; (with_reducible refine (Hd.num_IntText.calls t707 t712 _ A16.out).mono ?_); rintro e w99 ⟨rfl, hb⟩; refine ⟨_, rfl, ?_⟩; replace HB := lb HB hb; (try clear hb); (try clear hb2); (try clear hk); (try clear hi); have hcs100 := Hd.str_cat (P := Tryd.prog) (s := y711) (t := t712) (y := y713) (by first | (with_reducible assumption) | assumption | exact of_eq_true (by assumption) | omega) Ny713.out; have hcs100' := Hd.str_cat' (P := Tryd.prog) (s := y711) (t := t712) (y := y713) (by first | (with_reducible assumption) | assumption | exact of_eq_true (by assumption) | omega) Ny713.out) | ((with_reducible refine gate_callee (f := 18) rfl ?_); refine gL (some 53) Tryd.func18 #[.string y713] ?_; (with_reducible refine (num_Parse.calls kj1 y713 t714 t715 _ A18.out).mono ?_); rintro e w101 ⟨rfl, hb⟩; refine ⟨_, rfl, ?_⟩; replace HB := lb HB hb; (try clear hb); (try clear hb2); (try clear hk); (try clear hi)) | ((with_reducible refine gate_callee (f := 27) rfl ?_); refine gL (some 57) Tryd.func27 #[.string y709] ?_; (with_reducible refine (Hd.w_times.calls y709 t716 _ A19.out).mono ?_); rintro e w102 ⟨rfl, hb⟩; refine ⟨_, rfl, ?_⟩; replace HB := lb HB hb; (try clear hb); (try clear hb2); (try clear hk); (try clear hi); have hcs103 := Hd.str_cat (P := Tryd.prog) (s := (⟨#[48, 46]⟩ : ByteArray)) (t := t716) (y := y717) (by first | (with_reducible assumption) | assumption | exact of_eq_true (by assumption) | omega) Ny717.out; have hcs103' := Hd.str_cat' (P := Tryd.prog) (s := (⟨#[48, 46]⟩ : ByteArray)) (t := t716) (y := y717) (by first | (with_reducible assumption) | assumption | exact of_eq_true (by assumption) | omega) Ny717.out; have hcs104 := Hd.str_cat (P := Tryd.prog) (s := y717) (t := (⟨#[101]⟩ : ByteArray)) (y := y718) (by first | (with_reducible assumption) | assumption | exact of_eq_true (by assumption) | omega) Ny718.out; have hcs104' := Hd.str_cat' (P := Tryd.prog) (s := y717) (t := (⟨#[101]⟩ : ByteArray)) (y := y718) (by first | (with_reducible assumption) | assumption | exact of_eq_true (by assumption) | omega) Ny718.out) | ((with_reducible refine gate_callee (f := 26) rfl ?_); refine gL (some 69) Tryd.func26 #[.int .i64 (wrap64 ((wrap64 (t707 + (t716.size : Int))) - (y709.size : Int)))] ?_; (with_reducible refine (Hd.num_IntText.calls (wrap64 ((wrap64 (t707 + (t716.size : Int))) - (y709.size : Int))) t719 _ A22.out).mono ?_); rintro e w105 ⟨rfl, hb⟩; refine ⟨_, rfl, ?_⟩; replace HB := lb HB hb; (try clear hb); (try clear hb2); (try clear hk); (try clear hi); have hcs106 := Hd.str_cat (P := Tryd.prog) (s := y718) (t := t719) (y := y720) (by first | (with_reducible assumption) | assumption | exact of_eq_true (by assumption) | omega) Ny720.out; have hcs106' := Hd.str_cat' (P := Tryd.prog) (s := y718) (t := t719) (y := y720) (by first | (with_reducible assumption) | assumption | exact of_eq_true (by assumption) | omega) Ny720.out) | ((with_reducible refine gate_callee (f := 18) rfl ?_); refine gL (some 71) Tryd.func18 #[.string y720] ?_; (with_reducible refine (num_Parse.calls kj1 y720 t721 t722 _ A24.out).mono ?_); rintro e w107 ⟨rfl, hb⟩; refine ⟨_, rfl, ?_⟩; replace HB := lb HB hb; (try clear hb); (try clear hb2); (try clear hk); (try clear hi); have hcs108 := Hd.str_cat (P := Tryd.prog) (s := (⟨#[48, 46]⟩ : ByteArray)) (t := t706) (y := y723) (by first | (with_reducible assumption) | assumption | exact of_eq_true (by assumption) | omega) Ny723.out; have hcs108' := Hd.str_cat' (P := Tryd.prog) (s := (⟨#[48, 46]⟩ : ByteArray)) (t := t706) (y := y723) (by first | (with_reducible assumption) | assumption | exact of_eq_true (by assumption) | omega) Ny723.out; have hcs109 := Hd.str_cat (P := Tryd.prog) (s := y723) (t := (⟨#[101]⟩ : ByteArray)) (y := y724) (by first | (with_reducible assumption) | assumption | exact of_eq_true (by assumption) | omega) Ny724.out; have hcs109' := Hd.str_cat' (P := Tryd.prog) (s := y723) (t := (⟨#[101]⟩ : ByteArray)) (y := y724) (by first | (with_reducible assumption) | assumption | exact of_eq_true (by assumption) | omega) Ny724.out) | ((with_reducible refine gate_callee (f := 26) rfl ?_); refine gL (some 79) Tryd.func26 #[.int .i64 t707] ?_; (with_reducible refine (Hd.num_IntText.calls t707 t725 _ A27.out).mono ?_); rintro e w110 ⟨rfl, hb⟩; refine ⟨_, rfl, ?_⟩; replace HB := lb HB hb; (try clear hb); (try clear hb2); (try clear hk); (try clear hi); have hcs111 := Hd.str_cat (P := Tryd.prog) (s := y724) (t := t725) (y := y726) (by first | (with_reducible assumption) | assumption | exact of_eq_true (by assumption) | omega) Ny726.out; have hcs111' := Hd.str_cat' (P := Tryd.prog) (s := y724) (t := t725) (y := y726) (by first | (with_reducible assumption) | assumption | exact of_eq_true (by assumption) | omega) Ny726.out) | ((with_reducible refine gate_callee (f := 18) rfl ?_); refine gL (some 81) Tryd.func18 #[.string y726] ?_; (with_reducible refine (num_Parse.calls kj1 y726 t727 t728 _ A29.out).mono ?_); rintro e w112 ⟨rfl, hb⟩; refine ⟨_, rfl, ?_⟩; replace HB := lb HB hb; (try clear hb); (try clear hb2); (try clear hk); (try clear hi)) | (go_at_call 20; (with_reducible refine (q_Bits.calls t714 t705 false _ A33.out).mono ?_); rintro e w' ⟨rfl, ⟨nd, rfl⟩⟩) | (go_at_call 20; (with_reducible refine (q_Bits.calls t721 t705 false _ A53.out).mono ?_); rintro e w' ⟨rfl, ⟨nd, rfl⟩⟩) | (go_at_call 20; (with_reducible refine (q_Bits.calls t727 t705 true _ A73.out).mono ?_); rintro e w' ⟨rfl, ⟨nd, rfl⟩⟩))
                        go_ret
                        exact ex (lk HB)
                       rw [if_neg c75] at H
                       have c75b0 : (FloatKind.f64.format.order t714 t705 == some Ordering.lt) = false := by simpa using c75
                       (try (have c75b1 : decide (FloatKind.f64.format.order t714 t705 = some Ordering.lt) = false := by simpa using c75))
                       (try (have c75b2 : (FloatKind.f64.format.order t714 t705 == some Ordering.lt) = false := by simpa using c75))
                       (try (have c75b3 : ¬ (FloatKind.f64.format.order t714 t705 = some Ordering.lt) := by simpa using c75))
                       clear c75
                       obtain rfl := Option.some.inj H
                       have p704 : 0 ≤ (x3_1 : Int) := of_decide_eq_true (by first | (with_reducible assumption) | assumption)
                       have q704 : x3_1 < (l0.length : Int) := of_decide_eq_true (by first | (with_reducible assumption) | assumption)
                       obtain ⟨ad704, e704, hx704_0⟩ := Kd.at_int HR0.out x3_1 p704 q704
                       cases e704
                       replace hx704_0 := (HB.out.cell (World.block_lt_of_cell? w _ hx704_0)).trans hx704_0
                       replace p704 := eq_true p704
                       replace q704 := eq_true q704
                       go_wp2_with (first | ((with_reducible refine gate_callee (f := 25) rfl ?_); refine gL (some 31) Tryd.func25 #[.int .u64 (Go.bits .andNot .u64 (rd l0 x3_1) 9223372036854775808)] ?_; (with_reducible refine (w_fromBits.calls (Go.bits .andNot .u64 (rd l0 x3_1) 9223372036854775808) t705 _ A7.out).mono ?_); rintro e w' ⟨rfl, ⟨nd, rfl⟩⟩; refine ⟨_, rfl, ?_⟩) | ((with_reducible refine gate_callee (f := 13) rfl ?_); refine gL (some 34) Tryd.func13 #[.float .f64 t705] ?_; (with_reducible refine (num_Digits.calls kj1 t705 t706 t707 t708 _ A8.out).mono ?_); rintro e w113 ⟨rfl, hb⟩; refine ⟨_, rfl, ?_⟩; replace HB := lb HB hb; (try clear hb); (try clear hb2); (try clear hk); (try clear hi); have hcs114 := Hd.str_to (P := Tryd.prog) (k := .i64) Tryd.underlying9 (j := (ji11)) (s := t706) (y := y709) (by first | (with_reducible assumption) | exact of_decide_eq_true (by first | (with_reducible assumption) | assumption) | omega) (by first | (with_reducible assumption) | exact of_decide_eq_true (by first | (with_reducible assumption) | assumption) | omega) Ny709.out; have hcs115 := Hd.str_cat (P := Tryd.prog) (s := (⟨#[48, 46]⟩ : ByteArray)) (t := y709) (y := y710) (by first | (with_reducible assumption) | assumption | exact of_eq_true (by assumption) | omega) Ny710.out; have hcs115' := Hd.str_cat' (P := Tryd.prog) (s := (⟨#[48, 46]⟩ : ByteArray)) (t := y709) (y := y710) (by first | (with_reducible assumption) | assumption | exact of_eq_true (by assumption) | omega) Ny710.out; have hcs116 := Hd.str_cat (P := Tryd.prog) (s := y710) (t := (⟨#[101]⟩ : ByteArray)) (y := y711) (by first | (with_reducible assumption) | assumption | exact of_eq_true (by assumption) | omega) Ny711.out; have hcs116' := Hd.str_cat' (P := Tryd.prog) (s := y710) (t := (⟨#[101]⟩ : ByteArray)) (y := y711) (by first | (with_reducible assumption) | assumption | exact of_eq_true (by assumption) | omega) Ny711.out) | ((with_reducible refine gate_callee (f := 26) rfl ?_); refine gL (some 51) Tryd.func26 #[.int .i64 t707] ?_; (with_reducible refine (Hd.num_IntText.calls t707 t712 _ A16.out).mono ?_); rintro e w117 ⟨rfl, hb⟩; refine ⟨_, rfl, ?_⟩; replace HB := lb HB hb; (try clear hb); (try clear hb2); (try clear hk); (try clear hi); have hcs118 := Hd.str_cat (P := Tryd.prog) (s := y711) (t := t712) (y := y713) (by first | (with_reducible assumption) | assumption | exact of_eq_true (by assumption) | omega) Ny713.out; have hcs118' := Hd.str_cat' (P := Tryd.prog) (s := y711) (t := t712) (y := y713) (by first | (with_reducible assumption) | assumption | exact of_eq_true (by assumption) | omega) Ny713.out) | ((with_reducible refine gate_callee (f := 18) rfl ?_); refine gL (some 53) Tryd.func18 #[.string y713] ?_; (with_reducible refine (num_Parse.calls kj1 y713 t714 t715 _ A18.out).mono ?_); rintro e w119 ⟨rfl, hb⟩; refine ⟨_, rfl, ?_⟩; replace HB := lb HB hb; (try clear hb); (try clear hb2); (try clear hk); (try clear hi)) | ((with_reducible refine gate_callee (f := 27) rfl ?_); refine gL (some 57) Tryd.func27 #[.string y709] ?_; (with_reducible refine (Hd.w_times.calls y709 t716 _ A19.out).mono ?_); rintro e w120 ⟨rfl, hb⟩; refine ⟨_, rfl, ?_⟩; replace HB := lb HB hb; (try clear hb); (try clear hb2); (try clear hk); (try clear hi); have hcs121 := Hd.str_cat (P := Tryd.prog) (s := (⟨#[48, 46]⟩ : ByteArray)) (t := t716) (y := y717) (by first | (with_reducible assumption) | assumption | exact of_eq_true (by assumption) | omega) Ny717.out; have hcs121' := Hd.str_cat' (P := Tryd.prog) (s := (⟨#[48, 46]⟩ : ByteArray)) (t := t716) (y := y717) (by first | (with_reducible assumption) | assumption | exact of_eq_true (by assumption) | omega) Ny717.out; have hcs122 := Hd.str_cat (P := Tryd.prog) (s := y717) (t := (⟨#[101]⟩ : ByteArray)) (y := y718) (by first | (with_reducible assumption) | assumption | exact of_eq_true (by assumption) | omega) Ny718.out; have hcs122' := Hd.str_cat' (P := Tryd.prog) (s := y717) (t := (⟨#[101]⟩ : ByteArray)) (y := y718) (by first | (with_reducible assumption) | assumption | exact of_eq_true (by assumption) | omega) Ny718.out) | ((with_reducible refine gate_callee (f := 26) rfl ?_); refine gL (some 69) Tryd.func26 #[.int .i64 (wrap64 ((wrap64 (t707 + (t716.size : Int))) - (y709.size : Int)))] ?_; (with_reducible refine (Hd.num_IntText.calls (wrap64 ((wrap64 (t707 + (t716.size : Int))) - (y709.size : Int))) t719 _ A22.out).mono ?_); rintro e w123 ⟨rfl, hb⟩; refine ⟨_, rfl, ?_⟩; replace HB := lb HB hb; (try clear hb); (try clear hb2); (try clear hk); (try clear hi); have hcs124 := Hd.str_cat (P := Tryd.prog) (s := y718) (t := t719) (y := y720) (by first | (with_reducible assumption) | assumption | exact of_eq_true (by assumption) | omega) Ny720.out; have hcs124' := Hd.str_cat' (P := Tryd.prog) (s := y718) (t := t719) (y := y720) (by first | (with_reducible assumption) | assumption | exact of_eq_true (by assumption) | omega) Ny720.out) | ((with_reducible refine gate_callee (f := 18) rfl ?_); refine gL (some 71) Tryd.func18 #[.string y720] ?_; (with_reducible refine (num_Parse.calls kj1 y720 t721 t722 _ A24.out).mono ?_); rintro e w125 ⟨rfl, hb⟩; refine ⟨_, rfl, ?_⟩; replace HB := lb HB hb; (try clear hb); (try clear hb2); (try clear hk); (try clear hi); have hcs126 := Hd.str_cat (P := Tryd.prog) (s := (⟨#[48, 46]⟩ : ByteArray)) (t := t706) (y := y723) (by first | (with_reducible assumption) | assumption | exact of_eq_true (by assumption) | omega) Ny723.out; have hcs126' := Hd.str_cat' (P := Tryd.prog) (s := (⟨#[48, 46]⟩ : ByteArray)) (t := t706) (y := y723) (by first | (with_reducible assumption) | assumption | exact of_eq_true (by assumption) | omega) Ny723.out; have hcs127 := Hd.str_cat (P := Tryd.prog) (s := y723) (t := (⟨#[101]⟩ : ByteArray)) (y := y724) (by first | (with_reducible assumption) | assumption | exact of_eq_true (by assumption) | omega) Ny724.out; have hcs127' := Hd.str_cat' (P := Tryd.prog) (s := y723) (t := (⟨#[101]⟩ : ByteArray)) (y := y724) (by first | (with_reducible assumption) | assumption | exact of_eq_true (by assumption) | omega) Ny724.out) | ((with_reducible refine gate_callee (f := 26) rfl ?_); refine gL (some 79) Tryd.func26 #[.int .i64 t707] ?_; (with_reducible refine (Hd.num_IntText.calls t707 t725 _ A27.out).mono ?_); rintro e w128 ⟨rfl, hb⟩; refine ⟨_, rfl, ?_⟩; replace HB := lb HB hb; (try clear hb); (try clear hb2); (try clear hk); (try clear hi); have hcs129 := Hd.str_cat (P := Tryd.prog) (s := y724) (t := t725) (y := y726) (by first | (with_reducible assumption) | assumption | exact of_eq_true (by assumption) | omega) Ny726.out; have hcs129' := Hd.str_cat' (P := Tryd.prog) (s := y724) (t := t725) (y := y726) (by first | (with_reducible assumption) | assumption | exact of_eq_true (by assumption) | omega) Ny726.out) | ((with_reducible refine gate_callee (f := 18) rfl ?_); refine gL (some 81) Tryd.func18 #[.string y726] ?_; (with_reducible refine (num_Parse.calls kj1 y726 t727 t728 _ A29.out).mono ?_); rintro e w130 ⟨rfl, hb⟩; refine ⟨_, rfl, ?_⟩; replace HB := lb HB hb; (try clear hb); (try clear hb2); (try clear hk); (try clear hi)) | (go_at_call 20; (with_reducible refine (q_Bits.calls t714 t705 false _ A33.out).mono ?_); rintro e w' ⟨rfl, ⟨nd, rfl⟩⟩) | (go_at_call 20; (with_reducible refine (q_Bits.calls t721 t705 false _ A53.out).mono ?_); rintro e w' ⟨rfl, ⟨nd, rfl⟩⟩) | (go_at_call 20; (with_reducible refine (q_Bits.calls t727 t705 true _ A73.out).mono ?_); rintro e w' ⟨rfl, ⟨nd, rfl⟩⟩))
                       go_ret
                       exact ex (lk HB)
                      replace c74 := Bool.eq_false_iff.mpr c74
                      subst c74
                      rw [if_neg (show ¬ (false = true) by decide)] at H
                      obtain rfl := Option.some.inj H
                      have p704 : 0 ≤ (x3_1 : Int) := of_decide_eq_true (by first | (with_reducible assumption) | assumption)
                      have q704 : x3_1 < (l0.length : Int) := of_decide_eq_true (by first | (with_reducible assumption) | assumption)
                      obtain ⟨ad704, e704, hx704_0⟩ := Kd.at_int HR0.out x3_1 p704 q704
                      cases e704
                      replace hx704_0 := (HB.out.cell (World.block_lt_of_cell? w _ hx704_0)).trans hx704_0
                      replace p704 := eq_true p704
                      replace q704 := eq_true q704
                      go_wp2_with (first | ((with_reducible refine gate_callee (f := 25) rfl ?_); refine gL (some 31) Tryd.func25 #[.int .u64 (Go.bits .andNot .u64 (rd l0 x3_1) 9223372036854775808)] ?_; (with_reducible refine (w_fromBits.calls (Go.bits .andNot .u64 (rd l0 x3_1) 9223372036854775808) t705 _ A7.out).mono ?_); rintro e w' ⟨rfl, ⟨nd, rfl⟩⟩; refine ⟨_, rfl, ?_⟩) | ((with_reducible refine gate_callee (f := 13) rfl ?_); refine gL (some 34) Tryd.func13 #[.float .f64 t705] ?_; (with_reducible refine (num_Digits.calls kj1 t705 t706 t707 t708 _ A8.out).mono ?_); rintro e w131 ⟨rfl, hb⟩; refine ⟨_, rfl, ?_⟩; replace HB := lb HB hb; (try clear hb); (try clear hb2); (try clear hk); (try clear hi); have hcs132 := Hd.str_to (P := Tryd.prog) (k := .i64) Tryd.underlying9 (j := (ji11)) (s := t706) (y := y709) (by first | (with_reducible assumption) | exact of_decide_eq_true (by first | (with_reducible assumption) | assumption) | omega) (by first | (with_reducible assumption) | exact of_decide_eq_true (by first | (with_reducible assumption) | assumption) | omega) Ny709.out; have hcs133 := Hd.str_cat (P := Tryd.prog) (s := (⟨#[48, 46]⟩ : ByteArray)) (t := y709) (y := y710) (by first | (with_reducible assumption) | assumption | exact of_eq_true (by assumption) | omega) Ny710.out; have hcs133' := Hd.str_cat' (P := Tryd.prog) (s := (⟨#[48, 46]⟩ : ByteArray)) (t := y709) (y := y710) (by first | (with_reducible assumption) | assumption | exact of_eq_true (by assumption) | omega) Ny710.out; have hcs134 := Hd.str_cat (P := Tryd.prog) (s := y710) (t := (⟨#[101]⟩ : ByteArray)) (y := y711) (by first | (with_reducible assumption) | assumption | exact of_eq_true (by assumption) | omega) Ny711.out; have hcs134' := Hd.str_cat' (P := Tryd.prog) (s := y710) (t := (⟨#[101]⟩ : ByteArray)) (y := y711) (by first | (with_reducible assumption) | assumption | exact of_eq_true (by assumption) | omega) Ny711.out) | ((with_reducible refine gate_callee (f := 26) rfl ?_); refine gL (some 51) Tryd.func26 #[.int .i64 t707] ?_; (with_reducible refine (Hd.num_IntText.calls t707 t712 _ A16.out).mono ?_); rintro e w135 ⟨rfl, hb⟩; refine ⟨_, rfl, ?_⟩; replace HB := lb HB hb; (try clear hb); (try clear hb2); (try clear hk); (try clear hi); have hcs136 := Hd.str_cat (P := Tryd.prog) (s := y711) (t := t712) (y := y713) (by first | (with_reducible assumption) | assumption | exact of_eq_true (by assumption) | omega) Ny713.out; have hcs136' := Hd.str_cat' (P := Tryd.prog) (s := y711) (t := t712) (y := y713) (by first | (with_reducible assumption) | assumption | exact of_eq_true (by assumption) | omega) Ny713.out) | ((with_reducible refine gate_callee (f := 18) rfl ?_); refine gL (some 53) Tryd.func18 #[.string y713] ?_; (with_reducible refine (num_Parse.calls kj1 y713 t714 t715 _ A18.out).mono ?_); rintro e w137 ⟨rfl, hb⟩; refine ⟨_, rfl, ?_⟩; replace HB := lb HB hb; (try clear hb); (try clear hb2); (try clear hk); (try clear hi)) | ((with_reducible refine gate_callee (f := 27) rfl ?_); refine gL (some 57) Tryd.func27 #[.string y709] ?_; (with_reducible refine (Hd.w_times.calls y709 t716 _ A19.out).mono ?_); rintro e w138 ⟨rfl, hb⟩; refine ⟨_, rfl, ?_⟩; replace HB := lb HB hb; (try clear hb); (try clear hb2); (try clear hk); (try clear hi); have hcs139 := Hd.str_cat (P := Tryd.prog) (s := (⟨#[48, 46]⟩ : ByteArray)) (t := t716) (y := y717) (by first | (with_reducible assumption) | assumption | exact of_eq_true (by assumption) | omega) Ny717.out; have hcs139' := Hd.str_cat' (P := Tryd.prog) (s := (⟨#[48, 46]⟩ : ByteArray)) (t := t716) (y := y717) (by first | (with_reducible assumption) | assumption | exact of_eq_true (by assumption) | omega) Ny717.out; have hcs140 := Hd.str_cat (P := Tryd.prog) (s := y717) (t := (⟨#[101]⟩ : ByteArray)) (y := y718) (by first | (with_reducible assumption) | assumption | exact of_eq_true (by assumption) | omega) Ny718.out; have hcs140' := Hd.str_cat' (P := Tryd.prog) (s := y717) (t := (⟨#[101]⟩ : ByteArray)) (y := y718) (by first | (with_reducible assumption) | assumption | exact of_eq_true (by assumption) | omega) Ny718.out) | ((with_reducible refine gate_callee (f := 26) rfl ?_); refine gL (some 69) Tryd.func26 #[.int .i64 (wrap64 ((wrap64 (t707 + (t716.size : Int))) - (y709.size : Int)))] ?_; (with_reducible refine (Hd.num_IntText.calls (wrap64 ((wrap64 (t707 + (t716.size : Int))) - (y709.size : Int))) t719 _ A22.out).mono ?_); rintro e w141 ⟨rfl, hb⟩; refine ⟨_, rfl, ?_⟩; replace HB := lb HB hb; (try clear hb); (try clear hb2); (try clear hk); (try clear hi); have hcs142 := Hd.str_cat (P := Tryd.prog) (s := y718) (t := t719) (y := y720) (by first | (with_reducible assumption) | assumption | exact of_eq_true (by assumption) | omega) Ny720.out; have hcs142' := Hd.str_cat' (P := Tryd.prog) (s := y718) (t := t719) (y := y720) (by first | (with_reducible assumption) | assumption | exact of_eq_true (by assumption) | omega) Ny720.out) | ((with_reducible refine gate_callee (f := 18) rfl ?_); refine gL (some 71) Tryd.func18 #[.string y720] ?_; (with_reducible refine (num_Parse.calls kj1 y720 t721 t722 _ A24.out).mono ?_); rintro e w143 ⟨rfl, hb⟩; refine ⟨_, rfl, ?_⟩; replace HB := lb HB hb; (try clear hb); (try clear hb2); (try clear hk); (try clear hi); have hcs144 := Hd.str_cat (P := Tryd.prog) (s := (⟨#[48, 46]⟩ : ByteArray)) (t := t706) (y := y723) (by first | (with_reducible assumption) | assumption | exact of_eq_true (by assumption) | omega) Ny723.out; have hcs144' := Hd.str_cat' (P := Tryd.prog) (s := (⟨#[48, 46]⟩ : ByteArray)) (t := t706) (y := y723) (by first | (with_reducible assumption) | assumption | exact of_eq_true (by assumption) | omega) Ny723.out; have hcs145 := Hd.str_cat (P := Tryd.prog) (s := y723) (t := (⟨#[101]⟩ : ByteArray)) (y := y724) (by first | (with_reducible assumption) | assumption | exact of_eq_true (by assumption) | omega) Ny724.out; have hcs145' := Hd.str_cat' (P := Tryd.prog) (s := y723) (t := (⟨#[101]⟩ : ByteArray)) (y := y724) (by first | (with_reducible assumption) | assumption | exact of_eq_true (by assumption) | omega) Ny724.out) | ((with_reducible refine gate_callee (f := 26) rfl ?_); refine gL (some 79) Tryd.func26 #[.int .i64 t707] ?_; (with_reducible refine (Hd.num_IntText.calls t707 t725 _ A27.out).mono ?_); rintro e w146 ⟨rfl, hb⟩; refine ⟨_, rfl, ?_⟩; replace HB := lb HB hb; (try clear hb); (try clear hb2); (try clear hk); (try clear hi); have hcs147 := Hd.str_cat (P := Tryd.prog) (s := y724) (t := t725) (y := y726) (by first | (with_reducible assumption) | assumption | exact of_eq_true (by assumption) | omega) Ny726.out; have hcs147' := Hd.str_cat' (P := Tryd.prog) (s := y724) (t := t725) (y := y726) (by first | (with_reducible assumption) | assumption | exact of_eq_true (by assumption) | omega) Ny726.out) | ((with_reducible refine gate_callee (f := 18) rfl ?_); refine gL (some 81) Tryd.func18 #[.string y726] ?_; (with_reducible refine (num_Parse.calls kj1 y726 t727 t728 _ A29.out).mono ?_); rintro e w148 ⟨rfl, hb⟩; refine ⟨_, rfl, ?_⟩; replace HB := lb HB hb; (try clear hb); (try clear hb2); (try clear hk); (try clear hi)) | (go_at_call 20; (with_reducible refine (q_Bits.calls t714 t705 false _ A33.out).mono ?_); rintro e w' ⟨rfl, ⟨nd, rfl⟩⟩) | (go_at_call 20; (with_reducible refine (q_Bits.calls t721 t705 false _ A53.out).mono ?_); rintro e w' ⟨rfl, ⟨nd, rfl⟩⟩) | (go_at_call 20; (with_reducible refine (q_Bits.calls t727 t705 false _ A73.out).mono ?_); rintro e w' ⟨rfl, ⟨nd, rfl⟩⟩))
                      go_ret
                      exact ex (lk HB)
                     rw [if_neg c32] at H
                     have c32b0 : (t728 == 0) = false := beq_eq_false_iff_ne.mpr c32
                     have c32b1 : (t728 != 0) = true := bne_iff_ne.mpr c32
                     obtain rfl := Option.some.inj H
                     have p704 : 0 ≤ (x3_1 : Int) := of_decide_eq_true (by first | (with_reducible assumption) | assumption)
                     have q704 : x3_1 < (l0.length : Int) := of_decide_eq_true (by first | (with_reducible assumption) | assumption)
                     obtain ⟨ad704, e704, hx704_0⟩ := Kd.at_int HR0.out x3_1 p704 q704
                     cases e704
                     replace hx704_0 := (HB.out.cell (World.block_lt_of_cell? w _ hx704_0)).trans hx704_0
                     replace p704 := eq_true p704
                     replace q704 := eq_true q704
                     go_wp2_with (first | ((with_reducible refine gate_callee (f := 25) rfl ?_); refine gL (some 31) Tryd.func25 #[.int .u64 (Go.bits .andNot .u64 (rd l0 x3_1) 9223372036854775808)] ?_; (with_reducible refine (w_fromBits.calls (Go.bits .andNot .u64 (rd l0 x3_1) 9223372036854775808) t705 _ A7.out).mono ?_); rintro e w' ⟨rfl, ⟨nd, rfl⟩⟩; refine ⟨_, rfl, ?_⟩) | ((with_reducible refine gate_callee (f := 13) rfl ?_); refine gL (some 34) Tryd.func13 #[.float .f64 t705] ?_; (with_reducible refine (num_Digits.calls kj1 t705 t706 t707 t708 _ A8.out).mono ?_); rintro e w149 ⟨rfl, hb⟩; refine ⟨_, rfl, ?_⟩; replace HB := lb HB hb; (try clear hb); (try clear hb2); (try clear hk); (try clear hi); have hcs150 := Hd.str_to (P := Tryd.prog) (k := .i64) Tryd.underlying9 (j := (ji11)) (s := t706) (y := y709) (by first | (with_reducible assumption) | exact of_decide_eq_true (by first | (with_reducible assumption) | assumption) | omega) (by first | (with_reducible assumption) | exact of_decide_eq_true (by first | (with_reducible assumption) | assumption) | omega) Ny709.out; have hcs151 := Hd.str_cat (P := Tryd.prog) (s := (⟨#[48, 46]⟩ : ByteArray)) (t := y709) (y := y710) (by first | (with_reducible assumption) | assumption | exact of_eq_true (by assumption) | omega) Ny710.out; have hcs151' := Hd.str_cat' (P := Tryd.prog) (s := (⟨#[48, 46]⟩ : ByteArray)) (t := y709) (y := y710) (by first | (with_reducible assumption) | assumption | exact of_eq_true (by assumption) | omega) Ny710.out; have hcs152 := Hd.str_cat (P := Tryd.prog) (s := y710) (t := (⟨#[101]⟩ : ByteArray)) (y := y711) (by first | (with_reducible assumption) | assumption | exact of_eq_true (by assumption) | omega) Ny711.out; have hcs152' := Hd.str_cat' (P := Tryd.prog) (s := y710) (t := (⟨#[101]⟩ : ByteArray)) (y := y711) (by first | (with_reducible assumption) | assumption | exact of_eq_true (by assumption) | omega) Ny711.out) | ((with_reducible refine gate_callee (f := 26) rfl ?_); refine gL (some 51) Tryd.func26 #[.int .i64 t707] ?_; (with_reducible refine (Hd.num_IntText.calls t707 t712 _ A16.out).mono ?_); rintro e w153 ⟨rfl, hb⟩; refine ⟨_, rfl, ?_⟩; replace HB := lb HB hb; (try clear hb); (try clear hb2); (try clear hk); (try clear hi); have hcs154 := Hd.str_cat (P := Tryd.prog) (s := y711) (t := t712) (y := y713) (by first | (with_reducible assumption) | assumption | exact of_eq_true (by assumption) | omega) Ny713.out; have hcs154' := Hd.str_cat' (P := Tryd.prog) (s := y711) (t := t712) (y := y713) (by first | (with_reducible assumption) | assumption | exact of_eq_true (by assumption) | omega) Ny713.out) | ((with_reducible refine gate_callee (f := 18) rfl ?_); refine gL (some 53) Tryd.func18 #[.string y713] ?_; (with_reducible refine (num_Parse.calls kj1 y713 t714 t715 _ A18.out).mono ?_); rintro e w155 ⟨rfl, hb⟩; refine ⟨_, rfl, ?_⟩; replace HB := lb HB hb; (try clear hb); (try clear hb2); (try clear hk); (try clear hi)) | ((with_reducible refine gate_callee (f := 27) rfl ?_); refine gL (some 57) Tryd.func27 #[.string y709] ?_; (with_reducible refine (Hd.w_times.calls y709 t716 _ A19.out).mono ?_); rintro e w156 ⟨rfl, hb⟩; refine ⟨_, rfl, ?_⟩; replace HB := lb HB hb; (try clear hb); (try clear hb2); (try clear hk); (try clear hi); have hcs157 := Hd.str_cat (P := Tryd.prog) (s := (⟨#[48, 46]⟩ : ByteArray)) (t := t716) (y := y717) (by first | (with_reducible assumption) | assumption | exact of_eq_true (by assumption) | omega) Ny717.out; have hcs157' := Hd.str_cat' (P := Tryd.prog) (s := (⟨#[48, 46]⟩ : ByteArray)) (t := t716) (y := y717) (by first | (with_reducible assumption) | assumption | exact of_eq_true (by assumption) | omega) Ny717.out; have hcs158 := Hd.str_cat (P := Tryd.prog) (s := y717) (t := (⟨#[101]⟩ : ByteArray)) (y := y718) (by first | (with_reducible assumption) | assumption | exact of_eq_true (by assumption) | omega) Ny718.out; have hcs158' := Hd.str_cat' (P := Tryd.prog) (s := y717) (t := (⟨#[101]⟩ : ByteArray)) (y := y718) (by first | (with_reducible assumption) | assumption | exact of_eq_true (by assumption) | omega) Ny718.out) | ((with_reducible refine gate_callee (f := 26) rfl ?_); refine gL (some 69) Tryd.func26 #[.int .i64 (wrap64 ((wrap64 (t707 + (t716.size : Int))) - (y709.size : Int)))] ?_; (with_reducible refine (Hd.num_IntText.calls (wrap64 ((wrap64 (t707 + (t716.size : Int))) - (y709.size : Int))) t719 _ A22.out).mono ?_); rintro e w159 ⟨rfl, hb⟩; refine ⟨_, rfl, ?_⟩; replace HB := lb HB hb; (try clear hb); (try clear hb2); (try clear hk); (try clear hi); have hcs160 := Hd.str_cat (P := Tryd.prog) (s := y718) (t := t719) (y := y720) (by first | (with_reducible assumption) | assumption | exact of_eq_true (by assumption) | omega) Ny720.out; have hcs160' := Hd.str_cat' (P := Tryd.prog) (s := y718) (t := t719) (y := y720) (by first | (with_reducible assumption) | assumption | exact of_eq_true (by assumption) | omega) Ny720.out) | ((with_reducible refine gate_callee (f := 18) rfl ?_); refine gL (some 71) Tryd.func18 #[.string y720] ?_; (with_reducible refine (num_Parse.calls kj1 y720 t721 t722 _ A24.out).mono ?_); rintro e w161 ⟨rfl, hb⟩; refine ⟨_, rfl, ?_⟩; replace HB := lb HB hb; (try clear hb); (try clear hb2); (try clear hk); (try clear hi); have hcs162 := Hd.str_cat (P := Tryd.prog) (s := (⟨#[48, 46]⟩ : ByteArray)) (t := t706) (y := y723) (by first | (with_reducible assumption) | assumption | exact of_eq_true (by assumption) | omega) Ny723.out; have hcs162' := Hd.str_cat' (P := Tryd.prog) (s := (⟨#[48, 46]⟩ : ByteArray)) (t := t706) (y := y723) (by first | (with_reducible assumption) | assumption | exact of_eq_true (by assumption) | omega) Ny723.out; have hcs163 := Hd.str_cat (P := Tryd.prog) (s := y723) (t := (⟨#[101]⟩ : ByteArray)) (y := y724) (by first | (with_reducible assumption) | assumption | exact of_eq_true (by assumption) | omega) Ny724.out; have hcs163' := Hd.str_cat' (P := Tryd.prog) (s := y723) (t := (⟨#[101]⟩ : ByteArray)) (y := y724) (by first | (with_reducible assumption) | assumption | exact of_eq_true (by assumption) | omega) Ny724.out) | ((with_reducible refine gate_callee (f := 26) rfl ?_); refine gL (some 79) Tryd.func26 #[.int .i64 t707] ?_; (with_reducible refine (Hd.num_IntText.calls t707 t725 _ A27.out).mono ?_); rintro e w164 ⟨rfl, hb⟩; refine ⟨_, rfl, ?_⟩; replace HB := lb HB hb; (try clear hb); (try clear hb2); (try clear hk); (try clear hi); have hcs165 := Hd.str_cat (P := Tryd.prog) (s := y724) (t := t725) (y := y726) (by first | (with_reducible assumption) | assumption | exact of_eq_true (by assumption) | omega) Ny726.out; have hcs165' := Hd.str_cat' (P := Tryd.prog) (s := y724) (t := t725) (y := y726) (by first | (with_reducible assumption) | assumption | exact of_eq_true (by assumption) | omega) Ny726.out) | ((with_reducible refine gate_callee (f := 18) rfl ?_); refine gL (some 81) Tryd.func18 #[.string y726] ?_; (with_reducible refine (num_Parse.calls kj1 y726 t727 t728 _ A29.out).mono ?_); rintro e w166 ⟨rfl, hb⟩; refine ⟨_, rfl, ?_⟩; replace HB := lb HB hb; (try clear hb); (try clear hb2); (try clear hk); (try clear hi)))
                     go_ret
                     exact ex (lk HB)
                    rw [if_neg c31] at H
                    have c31b0 : (t722 == 0) = false := beq_eq_false_iff_ne.mpr c31
                    have c31b1 : (t722 != 0) = true := bne_iff_ne.mpr c31
                    obtain rfl := Option.some.inj H
                    have p704 : 0 ≤ (x3_1 : Int) := of_decide_eq_true (by first | (with_reducible assumption) | assumption)
                    have q704 : x3_1 < (l0.length : Int) := of_decide_eq_true (by first | (with_reducible assumption) | assumption)
                    obtain ⟨ad704, e704, hx704_0⟩ := Kd.at_int HR0.out x3_1 p704 q704
                    cases e704
                    replace hx704_0 := (HB.out.cell (World.block_lt_of_cell? w _ hx704_0)).trans hx704_0
                    replace p704 := eq_true p704
                    replace q704 := eq_true q704
                    go_wp2_with (first | ((with_reducible refine gate_callee (f := 25) rfl ?_); refine gL (some 31) Tryd.func25 #[.int .u64 (Go.bits .andNot .u64 (rd l0 x3_1) 9223372036854775808)] ?_; (with_reducible refine (w_fromBits.calls (Go.bits .andNot .u64 (rd l0 x3_1) 9223372036854775808) t705 _ A7.out).mono ?_); rintro e w' ⟨rfl, ⟨nd, rfl⟩⟩; refine ⟨_, rfl, ?_⟩) | ((with_reducible refine gate_callee (f := 13) rfl ?_); refine gL (some 34) Tryd.func13 #[.float .f64 t705] ?_; (with_reducible refine (num_Digits.calls kj1 t705 t706 t707 t708 _ A8.out).mono ?_); rintro e w167 ⟨rfl, hb⟩; refine ⟨_, rfl, ?_⟩; replace HB := lb HB hb; (try clear hb); (try clear hb2); (try clear hk); (try clear hi); have hcs168 := Hd.str_to (P := Tryd.prog) (k := .i64) Tryd.underlying9 (j := (ji11)) (s := t706) (y := y709) (by first | (with_reducible assumption) | exact of_decide_eq_true (by first | (with_reducible assumption) | assumption) | omega) (by first | (with_reducible assumption) | exact of_decide_eq_true (by first | (with_reducible assumption) | assumption) | omega) Ny709.out; have hcs169 := Hd.str_cat (P := Tryd.prog) (s := (⟨#[48, 46]⟩ : ByteArray)) (t := y709) (y := y710) (by first | (with_reducible assumption) | assumption | exact of_eq_true (by assumption) | omega) Ny710.out; have hcs169' := Hd.str_cat' (P := Tryd.prog) (s := (⟨#[48, 46]⟩ : ByteArray)) (t := y709) (y := y710) (by first | (with_reducible assumption) | assumption | exact of_eq_true (by assumption) | omega) Ny710.out; have hcs170 := Hd.str_cat (P := Tryd.prog) (s := y710) (t := (⟨#[101]⟩ : ByteArray)) (y := y711) (by first | (with_reducible assumption) | assumption | exact of_eq_true (by assumption) | omega) Ny711.out; have hcs170' := Hd.str_cat' (P := Tryd.prog) (s := y710) (t := (⟨#[101]⟩ : ByteArray)) (y := y711) (by first | (with_reducible assumption) | assumption | exact of_eq_true (by assumption) | omega) Ny711.out) | ((with_reducible refine gate_callee (f := 26) rfl ?_); refine gL (some 51) Tryd.func26 #[.int .i64 t707] ?_; (with_reducible refine (Hd.num_IntText.calls t707 t712 _ A16.out).mono ?_); rintro e w171 ⟨rfl, hb⟩; refine ⟨_, rfl, ?_⟩; replace HB := lb HB hb; (try clear hb); (try clear hb2); (try clear hk); (try clear hi); have hcs172 := Hd.str_cat (P := Tryd.prog) (s := y711) (t := t712) (y := y713) (by first | (with_reducible assumption) | assumption | exact of_eq_true (by assumption) | omega) Ny713.out; have hcs172' := Hd.str_cat' (P := Tryd.prog) (s := y711) (t := t712) (y := y713) (by first | (with_reducible assumption) | assumption | exact of_eq_true (by assumption) | omega) Ny713.out) | ((with_reducible refine gate_callee (f := 18) rfl ?_); refine gL (some 53) Tryd.func18 #[.string y713] ?_; (with_reducible refine (num_Parse.calls kj1 y713 t714 t715 _ A18.out).mono ?_); rintro e w173 ⟨rfl, hb⟩; refine ⟨_, rfl, ?_⟩; replace HB := lb HB hb; (try clear hb); (try clear hb2); (try clear hk); (try clear hi)) | ((with_reducible refine gate_callee (f := 27) rfl ?_); refine gL (some 57) Tryd.func27 #[.string y709] ?_; (with_reducible refine (Hd.w_times.calls y709 t716 _ A19.out).mono ?_); rintro e w174 ⟨rfl, hb⟩; refine ⟨_, rfl, ?_⟩; replace HB := lb HB hb; (try clear hb); (try clear hb2); (try clear hk); (try clear hi); have hcs175 := Hd.str_cat (P := Tryd.prog) (s := (⟨#[48, 46]⟩ : ByteArray)) (t := t716) (y := y717) (by first | (with_reducible assumption) | assumption | exact of_eq_true (by assumption) | omega) Ny717.out; have hcs175' := Hd.str_cat' (P := Tryd.prog) (s := (⟨#[48, 46]⟩ : ByteArray)) (t := t716) (y := y717) (by first | (with_reducible assumption) | assumption | exact of_eq_true (by assumption) | omega) Ny717.out; have hcs176 := Hd.str_cat (P := Tryd.prog) (s := y717) (t := (⟨#[101]⟩ : ByteArray)) (y := y718) (by first | (with_reducible assumption) | assumption | exact of_eq_true (by assumption) | omega) Ny718.out; have hcs176' := Hd.str_cat' (P := Tryd.prog) (s := y717) (t := (⟨#[101]⟩ : ByteArray)) (y := y718) (by first | (with_reducible assumption) | assumption | exact of_eq_true (by assumption) | omega) Ny718.out) | ((with_reducible refine gate_callee (f := 26) rfl ?_); refine gL (some 69) Tryd.func26 #[.int .i64 (wrap64 ((wrap64 (t707 + (t716.size : Int))) - (y709.size : Int)))] ?_; (with_reducible refine (Hd.num_IntText.calls (wrap64 ((wrap64 (t707 + (t716.size : Int))) - (y709.size : Int))) t719 _ A22.out).mono ?_); rintro e w177 ⟨rfl, hb⟩; refine ⟨_, rfl, ?_⟩; replace HB := lb HB hb; (try clear hb); (try clear hb2); (try clear hk); (try clear hi); have hcs178 := Hd.str_cat (P := Tryd.prog) (s := y718) (t := t719) (y := y720) (by first | (with_reducible assumption) | assumption | exact of_eq_true (by assumption) | omega) Ny720.out; have hcs178' := Hd.str_cat' (P := Tryd.prog) (s := y718) (t := t719) (y := y720) (by first | (with_reducible assumption) | assumption | exact of_eq_true (by assumption) | omega) Ny720.out) | ((with_reducible refine gate_callee (f := 18) rfl ?_); refine gL (some 71) Tryd.func18 #[.string y720] ?_; (with_reducible refine (num_Parse.calls kj1 y720 t721 t722 _ A24.out).mono ?_); rintro e w179 ⟨rfl, hb⟩; refine ⟨_, rfl, ?_⟩; replace HB := lb HB hb; (try clear hb); (try clear hb2); (try clear hk); (try clear hi); have hcs180 := Hd.str_cat (P := Tryd.prog) (s := (⟨#[48, 46]⟩ : ByteArray)) (t := t706) (y := y723) (by first | (with_reducible assumption) | assumption | exact of_eq_true (by assumption) | omega) Ny723.out; have hcs180' := Hd.str_cat' (P := Tryd.prog) (s := (⟨#[48, 46]⟩ : ByteArray)) (t := t706) (y := y723) (by first | (with_reducible assumption) | assumption | exact of_eq_true (by assumption) | omega) Ny723.out; have hcs181 := Hd.str_cat (P := Tryd.prog) (s := y723) (t := (⟨#[101]⟩ : ByteArray)) (y := y724) (by first | (with_reducible assumption) | assumption | exact of_eq_true (by assumption) | omega) Ny724.out; have hcs181' := Hd.str_cat' (P := Tryd.prog) (s := y723) (t := (⟨#[101]⟩ : ByteArray)) (y := y724) (by first | (with_reducible assumption) | assumption | exact of_eq_true (by assumption) | omega) Ny724.out) | ((with_reducible refine gate_callee (f := 26) rfl ?_); refine gL (some 79) Tryd.func26 #[.int .i64 t707] ?_; (with_reducible refine (Hd.num_IntText.calls t707 t725 _ A27.out).mono ?_); rintro e w182 ⟨rfl, hb⟩; refine ⟨_, rfl, ?_⟩; replace HB := lb HB hb; (try clear hb); (try clear hb2); (try clear hk); (try clear hi); have hcs183 := Hd.str_cat (P := Tryd.prog) (s := y724) (t := t725) (y := y726) (by first | (with_reducible assumption) | assumption | exact of_eq_true (by assumption) | omega) Ny726.out; have hcs183' := Hd.str_cat' (P := Tryd.prog) (s := y724) (t := t725) (y := y726) (by first | (with_reducible assumption) | assumption | exact of_eq_true (by assumption) | omega) Ny726.out) | ((with_reducible refine gate_callee (f := 18) rfl ?_); refine gL (some 81) Tryd.func18 #[.string y726] ?_; (with_reducible refine (num_Parse.calls kj1 y726 t727 t728 _ A29.out).mono ?_); rintro e w184 ⟨rfl, hb⟩; refine ⟨_, rfl, ?_⟩; replace HB := lb HB hb; (try clear hb); (try clear hb2); (try clear hk); (try clear hi)))
                    go_ret
                    exact ex (lk HB)
                   rw [if_neg c30] at H
                   have c30b0 : (t715 == 0) = false := beq_eq_false_iff_ne.mpr c30
                   have c30b1 : (t715 != 0) = true := bne_iff_ne.mpr c30
                   obtain rfl := Option.some.inj H
                   have p704 : 0 ≤ (x3_1 : Int) := of_decide_eq_true (by first | (with_reducible assumption) | assumption)
                   have q704 : x3_1 < (l0.length : Int) := of_decide_eq_true (by first | (with_reducible assumption) | assumption)
                   obtain ⟨ad704, e704, hx704_0⟩ := Kd.at_int HR0.out x3_1 p704 q704
                   cases e704
                   replace hx704_0 := (HB.out.cell (World.block_lt_of_cell? w _ hx704_0)).trans hx704_0
                   replace p704 := eq_true p704
                   replace q704 := eq_true q704
                   go_wp2_with (first | ((with_reducible refine gate_callee (f := 25) rfl ?_); refine gL (some 31) Tryd.func25 #[.int .u64 (Go.bits .andNot .u64 (rd l0 x3_1) 9223372036854775808)] ?_; (with_reducible refine (w_fromBits.calls (Go.bits .andNot .u64 (rd l0 x3_1) 9223372036854775808) t705 _ A7.out).mono ?_); rintro e w' ⟨rfl, ⟨nd, rfl⟩⟩; refine ⟨_, rfl, ?_⟩) | ((with_reducible refine gate_callee (f := 13) rfl ?_); refine gL (some 34) Tryd.func13 #[.float .f64 t705] ?_; (with_reducible refine (num_Digits.calls kj1 t705 t706 t707 t708 _ A8.out).mono ?_); rintro e w185 ⟨rfl, hb⟩; refine ⟨_, rfl, ?_⟩; replace HB := lb HB hb; (try clear hb); (try clear hb2); (try clear hk); (try clear hi); have hcs186 := Hd.str_to (P := Tryd.prog) (k := .i64) Tryd.underlying9 (j := (ji11)) (s := t706) (y := y709) (by first | (with_reducible assumption) | exact of_decide_eq_true (by first | (with_reducible assumption) | assumption) | omega) (by first | (with_reducible assumption) | exact of_decide_eq_true (by first | (with_reducible assumption) | assumption) | omega) Ny709.out; have hcs187 := Hd.str_cat (P := Tryd.prog) (s := (⟨#[48, 46]⟩ : ByteArray)) (t := y709) (y := y710) (by first | (with_reducible assumption) | assumption | exact of_eq_true (by assumption) | omega) Ny710.out; have hcs187' := Hd.str_cat' (P := Tryd.prog) (s := (⟨#[48, 46]⟩ : ByteArray)) (t := y709) (y := y710) (by first | (with_reducible assumption) | assumption | exact of_eq_true (by assumption) | omega) Ny710.out; have hcs188 := Hd.str_cat (P := Tryd.prog) (s := y710) (t := (⟨#[101]⟩ : ByteArray)) (y := y711) (by first | (with_reducible assumption) | assumption | exact of_eq_true (by assumption) | omega) Ny711.out; have hcs188' := Hd.str_cat' (P := Tryd.prog) (s := y710) (t := (⟨#[101]⟩ : ByteArray)) (y := y711) (by first | (with_reducible assumption) | assumption | exact of_eq_true (by assumption) | omega) Ny711.out) | ((with_reducible refine gate_callee (f := 26) rfl ?_); refine gL (some 51) Tryd.func26 #[.int .i64 t707] ?_; (with_reducible refine (Hd.num_IntText.calls t707 t712 _ A16.out).mono ?_); rintro e w189 ⟨rfl, hb⟩; refine ⟨_, rfl, ?_⟩; replace HB := lb HB hb; (try clear hb); (try clear hb2); (try clear hk); (try clear hi); have hcs190 := Hd.str_cat (P := Tryd.prog) (s := y711) (t := t712) (y := y713) (by first | (with_reducible assumption) | assumption | exact of_eq_true (by assumption) | omega) Ny713.out; have hcs190' := Hd.str_cat' (P := Tryd.prog) (s := y711) (t := t712) (y := y713) (by first | (with_reducible assumption) | assumption | exact of_eq_true (by assumption) | omega) Ny713.out) | ((with_reducible refine gate_callee (f := 18) rfl ?_); refine gL (some 53) Tryd.func18 #[.string y713] ?_; (with_reducible refine (num_Parse.calls kj1 y713 t714 t715 _ A18.out).mono ?_); rintro e w191 ⟨rfl, hb⟩; refine ⟨_, rfl, ?_⟩; replace HB := lb HB hb; (try clear hb); (try clear hb2); (try clear hk); (try clear hi)) | ((with_reducible refine gate_callee (f := 27) rfl ?_); refine gL (some 57) Tryd.func27 #[.string y709] ?_; (with_reducible refine (Hd.w_times.calls y709 t716 _ A19.out).mono ?_); rintro e w192 ⟨rfl, hb⟩; refine ⟨_, rfl, ?_⟩; replace HB := lb HB hb; (try clear hb); (try clear hb2); (try clear hk); (try clear hi); have hcs193 := Hd.str_cat (P := Tryd.prog) (s := (⟨#[48, 46]⟩ : ByteArray)) (t := t716) (y := y717) (by first | (with_reducible assumption) | assumption | exact of_eq_true (by assumption) | omega) Ny717.out; have hcs193' := Hd.str_cat' (P := Tryd.prog) (s := (⟨#[48, 46]⟩ : ByteArray)) (t := t716) (y := y717) (by first | (with_reducible assumption) | assumption | exact of_eq_true (by assumption) | omega) Ny717.out; have hcs194 := Hd.str_cat (P := Tryd.prog) (s := y717) (t := (⟨#[101]⟩ : ByteArray)) (y := y718) (by first | (with_reducible assumption) | assumption | exact of_eq_true (by assumption) | omega) Ny718.out; have hcs194' := Hd.str_cat' (P := Tryd.prog) (s := y717) (t := (⟨#[101]⟩ : ByteArray)) (y := y718) (by first | (with_reducible assumption) | assumption | exact of_eq_true (by assumption) | omega) Ny718.out) | ((with_reducible refine gate_callee (f := 26) rfl ?_); refine gL (some 69) Tryd.func26 #[.int .i64 (wrap64 ((wrap64 (t707 + (t716.size : Int))) - (y709.size : Int)))] ?_; (with_reducible refine (Hd.num_IntText.calls (wrap64 ((wrap64 (t707 + (t716.size : Int))) - (y709.size : Int))) t719 _ A22.out).mono ?_); rintro e w195 ⟨rfl, hb⟩; refine ⟨_, rfl, ?_⟩; replace HB := lb HB hb; (try clear hb); (try clear hb2); (try clear hk); (try clear hi); have hcs196 := Hd.str_cat (P := Tryd.prog) (s := y718) (t := t719) (y := y720) (by first | (with_reducible assumption) | assumption | exact of_eq_true (by assumption) | omega) Ny720.out; have hcs196' := Hd.str_cat' (P := Tryd.prog) (s := y718) (t := t719) (y := y720) (by first | (with_reducible assumption) | assumption | exact of_eq_true (by assumption) | omega) Ny720.out) | ((with_reducible refine gate_callee (f := 18) rfl ?_); refine gL (some 71) Tryd.func18 #[.string y720] ?_; (with_reducible refine (num_Parse.calls kj1 y720 t721 t722 _ A24.out).mono ?_); rintro e w197 ⟨rfl, hb⟩; refine ⟨_, rfl, ?_⟩; replace HB := lb HB hb; (try clear hb); (try clear hb2); (try clear hk); (try clear hi); have hcs198 := Hd.str_cat (P := Tryd.prog) (s := (⟨#[48, 46]⟩ : ByteArray)) (t := t706) (y := y723) (by first | (with_reducible assumption) | assumption | exact of_eq_true (by assumption) | omega) Ny723.out; have hcs198' := Hd.str_cat' (P := Tryd.prog) (s := (⟨#[48, 46]⟩ : ByteArray)) (t := t706) (y := y723) (by first | (with_reducible assumption) | assumption | exact of_eq_true (by assumption) | omega) Ny723.out; have hcs199 := Hd.str_cat (P := Tryd.prog) (s := y723) (t := (⟨#[101]⟩ : ByteArray)) (y := y724) (by first | (with_reducible assumption) | assumption | exact of_eq_true (by assumption) | omega) Ny724.out; have hcs199' := Hd.str_cat' (P := Tryd.prog) (s := y723) (t := (⟨#[101]⟩ : ByteArray)) (y := y724) (by first | (with_reducible assumption) | assumption | exact of_eq_true (by assumption) | omega) Ny724.out) | ((with_reducible refine gate_callee (f := 26) rfl ?_); refine gL (some 79) Tryd.func26 #[.int .i64 t707] ?_; (with_reducible refine (Hd.num_IntText.calls t707 t725 _ A27.out).mono ?_); rintro e w200 ⟨rfl, hb⟩; refine ⟨_, rfl, ?_⟩; replace HB := lb HB hb; (try clear hb); (try clear hb2); (try clear hk); (try clear hi); have hcs201 := Hd.str_cat (P := Tryd.prog) (s := y724) (t := t725) (y := y726) (by first | (with_reducible assumption) | assumption | exact of_eq_true (by assumption) | omega) Ny726.out; have hcs201' := Hd.str_cat' (P := Tryd.prog) (s := y724) (t := t725) (y := y726) (by first | (with_reducible assumption) | assumption | exact of_eq_true (by assumption) | omega) Ny726.out) | ((with_reducible refine gate_callee (f := 18) rfl ?_); refine gL (some 81) Tryd.func18 #[.string y726] ?_; (with_reducible refine (num_Parse.calls kj1 y726 t727 t728 _ A29.out).mono ?_); rintro e w202 ⟨rfl, hb⟩; refine ⟨_, rfl, ?_⟩; replace HB := lb HB hb; (try clear hb); (try clear hb2); (try clear hk); (try clear hi)))
                   go_ret
                   exact ex (lk HB)
                  rw [if_neg c28] at H
                  exact absurd H (by simp)
                 rw [if_neg c26] at H
                 exact absurd H (by simp)
                rw [if_neg c25] at H
                exact absurd H (by simp)
               rw [if_neg c23] at H
               exact absurd H (by simp)
              rw [if_neg c21] at H
              exact absurd H (by simp)
             rw [if_neg c20] at H
             exact absurd H (by simp)
            rw [if_neg c17] at H
            exact absurd H (by simp)
           rw [if_neg c15] at H
           exact absurd H (by simp)
          rw [if_neg c14] at H
          exact absurd H (by simp)
         rw [if_neg c13] at H
         exact absurd H (by simp)
        rw [if_neg c12] at H
        exact absurd H (by simp)
       rw [if_neg c6] at H
       exact absurd H (by simp)
      rw [if_neg c5] at H
      exact absurd H (by simp)
     replace c4 := Bool.eq_false_iff.mpr c4
     subst c4
     rw [if_neg (show ¬ (false = true) by decide)] at H
     replace H := Option.bind_eq_some_iff.mp H
     obtain ⟨t703, A2030, H⟩ := H
     replace H : (some t703) = some r := H
     have A203 := Aside0.mk A2030
     clear A2030
     obtain rfl := Option.some.inj H
     go_wp2_with (first | ((with_reducible refine gate_callee (f := 17) rfl ?_); refine gL (some 122) Tryd.func17 #[] ?_; (with_reducible refine (w_wakes.calls kj1  t703 _ A203.out).mono ?_); rintro e w204 ⟨rfl, hb⟩; refine ⟨_, rfl, ?_⟩; replace HB := lb HB hb; (try clear hb); (try clear hb2); (try clear hk); (try clear hi)))
     go_ret
     exact ex (lk HB)
def w_NumShortest.Pure : Prop := ∀ (l0 : List Int), l0.length ≤ maxLen → l0.length * 8 ≤ 140737488351232 → (∀ x ∈ l0, (Lit.int .u64 x).wf = true) → ∃ k, w_NumShortest.f k l0 = some true
theorem w_NumShortest.walk (P : w_NumShortest.Pure) (a0 : Option Addr) (len0 cap0 : Nat) (z0 : List Int) (w : World) (w0 : (a0 = none ∧ len0 = 0 ∧ cap0 = 0 ∧ z0 = []) ∨ ∃ x, a0 = some x ∧ len0 ≤ cap0 ∧ cap0 ≤ maxLen ∧ z0.length = cap0 ∧ (∀ i, i < z0.length → w.cell? (x.add i) = some (.int .u64 (z0.getD i 0))) ∧ ∀ n ∈ z0, (Lit.int .u64 n).wf = true) (y0 : len0 * 8 ≤ 140737488351232) :
  Calls Tryd.prog 7 #[.slice a0 len0 cap0] w fun e w' => e = .returned (.bool true) ∧ Below w.heap.size w w' := by
 obtain ⟨l0, rfl, hr0, hm0, hw0, hc0⟩ := ReadsInt.ofRowC w0
 obtain ⟨k, h⟩ := P l0 hm0 y0 hw0
 refine (w_NumShortest.calls k _ _ l0 true w (Kd.C_of_reads (d := (0 : Int)) (h1 := fun _ => rfl) hr0) hc0 h).mono ?_
 rintro e w' ⟨rfl, hd⟩
 exact ⟨rfl, hd⟩
end Go.Proofs.YtjlnfnfdibfniaaDoor.F
namespace Go.Proofs.YtjlnfnfdibfniaaDoor.Pl
open F Hd Go.RowKit Go.Proofs.YtjlnfnfdibfniaaDoorW.PrintWords Go.Proofs.YtjlnfnfdibfniaaDoorW.PrintMore
theorem w64 {n : Int} (h0 : -9223372036854775808 ≤ n) (h1 : n ≤ 9223372036854775807) : wrap64 n = n := by unfold wrap64; omega
theorem u64w {n : Int} (h0 : 0 ≤ n) (h1 : n < 18446744073709551616) : IntKind.u64.wrap n = n := by rw [IntKind.wrap_u64]; omega
theorem rd_get (l : List Int) (i : Nat) (h : i < l.length) : rd l (i : Int) = l[i] := by
 unfold rd
 rw [Int.toNat_natCast, List.getD_eq_getElem?_getD, List.getElem?_eq_getElem h]; rfl
def L (n : Nat) : List Int := lim 4294967296 n
theorem L_zero : L 0 = [] := lim_zero _
theorem L_nv (n : Nat) : nv 4294967296 (L n) = n := nv_lim (by decide) n
theorem L_wf (n : Nat) : Wf 4294967296 (L n) := wf_lim (by decide) n
def Few (n : Nat) : Prop := (L n).length ≤ 1000000
theorem few_of {n s : Nat} (h : n < 4294967296 ^ s) (hs : s ≤ 1000000) : Few n := Nat.le_trans (lim_len (by decide) s n h) hs
theorem trim_runs (l : List Int) (hw : Wf 4294967296 l) (hl : l.length ≤ 10000000) : Runs (fun k => num_nat_trim.l0 k l) (L (nv 4294967296 l)) := by
 generalize hn : l.length = n at hl
 induction n generalizing l with
 | zero =>
  have : l = [] := List.length_eq_zero_iff.1 hn
  subst this
  refine Runs.suc ?_
  simp only [num_nat_trim.l0]
  refine Runs.no (by simp) ?_
  exact (Runs.pure _).of (by rw [nv, L_zero])
 | succ n ih =>
  obtain ⟨m, x, rfl⟩ : ∃ m x, l = m ++ [x] := by
   rcases snoc_cases l with h | h
   ·
    rw [h] at hn; simp at hn
   ·
    exact h
  have hlen : m.length = n := by simpa using hn
  have hll : (m ++ [x]).length = m.length + 1 := by simp
  have hwr : wrap64 (((m ++ [x]).length : Int) - 1) = (m.length : Int) := by rw [hll, w64 (by omega) (by omega)]; omega
  have hrd : rd (m ++ [x]) (m.length : Int) = x := by
   rw [rd_get _ _ (by rw [hll]; omega)]; simp
  refine Runs.suc ?_
  simp only [num_nat_trim.l0]
  rw [hwr, hrd]
  refine Runs.yes (by rw [hll]; omega) (Runs.yes (by omega) (Runs.yes (by rw [hll]; omega) ?_))
  have hx := hw x (by simp)
  by_cases h0 : x = 0
  ·
   refine Runs.yes h0 (Runs.yes (by rw [hll]; omega) ?_)
   rw [h0, nv_snoc_zero, Int.toNat_natCast, List.take_left']
   ·
    exact ih m hw.left hlen (by omega)
   ·
    rfl
  ·
   refine Runs.no h0 ?_
   refine (Runs.pure _).of ?_
   exact (lim_snoc (by decide) hw.left (by omega) hx.2).symm
theorem trim_f (l : List Int) (hw : Wf 4294967296 l) (hl : l.length ≤ 10000000) : Runs (fun k => num_nat_trim.f k l) (L (nv 4294967296 l)) := trim_runs l hw hl
theorem of_f (n : Nat) (h : n < 18446744073709551616) : Runs (fun k => num_of.f k (n : Int)) (L n) := by
 simp only [num_of.f]
 refine Runs.bind (trim_f _ ?_ (by simp)) ?_
 ·
  intro x hx
  simp only [List.mem_cons, List.not_mem_nil, or_false] at hx
  omega
 ·
  refine (Runs.pure _).of ?_
  congr 1
  simp only [nv]
  omega
theorem times_loop (l : List Int) (hw : Wf 4294967296 l) (hlen : l.length ≤ 1000000) (m : Nat) (hm : m < 4294967296) :
  ∀ (d i : Nat), i + d = l.length → ∀ (out : List Int) (c : Nat), out.length = l.length + 1 → Wf 4294967296 (out.take i) → c < 4294967296 →
  Runs (fun k => num_nat_times.l0 k l (m : Int) out (c : Int) l (l.length : Int) (i : Int)) (L (nv 4294967296 (out.take i) + 4294967296 ^ i * (c + m * nv 4294967296 (l.drop i)))) := by
 intro d
 induction d with
 | zero =>
  intro i hi out c ho hwo hc
  obtain rfl : i = l.length := by omega
  refine Runs.suc ?_
  simp only [num_nat_times.l0]
  refine Runs.no (by omega) (Runs.yes (by omega) (Runs.yes (by omega) ?_))
  rw [show ((c : Int) % 4294967296) = (c : Int) by omega, Int.toNat_natCast]
  have hset : out.set l.length (c : Int) = out.take l.length ++ [(c : Int)] := by
   have := take_set_succ out l.length (c : Int) (by omega)
   rw [← this, List.take_of_length_le (by rw [List.length_set]; omega)]
  rw [hset]
  refine Runs.bind (trim_f _ (hwo.append (Wf.one (by omega) (by omega))) (by simp; omega)) ((Runs.pure _).of ?_)
  rw [nv_append, nv_one, List.length_take, Nat.min_eq_left (by omega), List.drop_of_length_le (Nat.le_refl _)]
  simp [nv]
 | succ d ih =>
  intro i hi out c ho hwo hc
  have hil : i < l.length := by omega
  have hx := hw.get hil
  obtain ⟨y, hy⟩ := Int.eq_ofNat_of_zero_le hx.1
  have hy1 : y < 4294967296 := by omega
  have hym : y * m ≤ 4294967295 * 4294967295 := Nat.mul_le_mul (by omega) (by omega)
  refine Runs.suc ?_
  simp only [num_nat_times.l0]
  rw [rd_get l i hil, hy, u64w (n := (y : Int)) (by omega) (by omega), u64w (n := (m : Int)) (by omega) (by omega)]
  have e1 : (y : Int) * (m : Int) = ((y * m : Nat) : Int) := by simp
  rw [e1, u64w (n := ((y * m : Nat) : Int)) (by omega) (by omega), u64w (n := (c : Int) + ((y * m : Nat) : Int)) (by omega) (by omega)]
  have e2 : ((c : Int) + ((y * m : Nat) : Int)) % 4294967296 = (((c + y * m) % 4294967296 : Nat) : Int) := by omega
  have e3 : ((c : Int) + ((y * m : Nat) : Int)) / 4294967296 = (((c + y * m) / 4294967296 : Nat) : Int) := by omega
  rw [e2, e3, w64 (by omega) (by omega), Int.toNat_natCast]
  refine Runs.yes (by omega) (Runs.yes (by omega) (Runs.yes (by omega) (Runs.yes (by omega) ?_)))
  have hq : (c + y * m) % 4294967296 + 4294967296 * ((c + y * m) / 4294967296) = c + y * m := Nat.mod_add_div ..
  have hr : (c + y * m) % 4294967296 < 4294967296 := Nat.mod_lt _ (by decide)
  have hq2 : (c + y * m) / 4294967296 < 4294967296 := by omega
  generalize (c + y * m) % 4294967296 = r at *
  generalize (c + y * m) / 4294967296 = q at *
  have ht := take_set_succ out i (r : Int) (by omega)
  have := ih (i + 1) (by omega) (out.set i (r : Int)) q (by rw [List.length_set]; exact ho) (by rw [ht]; exact hwo.append (Wf.one (by omega) (by omega))) hq2
  refine Runs.of this ?_
  congr 1
  rw [ht, nv_append, nv_one, List.length_take, Nat.min_eq_left (by omega), nv_drop _ l i hil, hy, Int.toNat_natCast]
  simp only [Int.toNat_natCast]
  generalize nv 4294967296 (List.take i out) = N
  generalize nv 4294967296 (l.drop (i + 1)) = D
  rw [Nat.pow_succ]
  generalize 4294967296 ^ i = p
  grind
theorem times_f (a m p : Nat) (ha : Few a) (hm : m < 4294967296) (hp : p < 4294967296) : Runs (fun k => num_nat_times.f k (L a) (m : Int) (p : Int)) (L (a * m + p)) := by
 have ha' := ha
 unfold Few at ha'
 simp only [num_nat_times.f]
 rw [w64 (by omega) (by omega), u64w (n := (p : Int)) (by omega) (by omega)]
 have e : ((L a).length + 1 : Int).toNat = (L a).length + 1 := by omega
 rw [e]
 refine Runs.yes (by omega) (Runs.yes (by omega) ?_)
 refine Runs.of (times_loop (L a) (L_wf a) ha' m hm (L a).length 0 (by omega) _ p (by simp) (by rw [List.take_zero]; exact Wf.nil _) hp) ?_
 congr 1
 rw [List.take_zero, List.drop_zero, L_nv, nv]
 grind
theorem few_mono {a b : Nat} (h : a ≤ b) (hb : Few b) : Few a := by
 refine few_of (s := (L b).length) (Nat.lt_of_le_of_lt h ?_) hb
 exact lim_le (by decide) b
theorem tens_l1 (n : Nat) : ∀ (a : Nat), Few (a * 10 ^ n) → n ≤ 1000000 → Runs (fun k => num_nat_tens.l1 k (L a) (n : Int)) (L (a * 10 ^ n)) := by
 induction n with
 | zero =>
  intro a ha _
  refine Runs.suc ?_
  simp only [num_nat_tens.l1]
  exact Runs.no (by omega) ((Runs.pure _).of (by simp))
 | succ n ih =>
  intro a ha hn
  refine Runs.suc ?_
  simp only [num_nat_tens.l1]
  have hp : 0 < 10 ^ (n + 1) := Nat.pow_pos (by decide)
  refine Runs.yes (by omega) (Runs.bind (times_f a 10 0 (few_mono (Nat.le_mul_of_pos_right a hp) ha) (by decide) (by decide)) ?_)
  rw [w64 (by omega) (by omega), show ((n + 1 : Nat) : Int) - 1 = (n : Int) by omega]
  have e : a * 10 ^ (n + 1) = (a * 10 + 0) * 10 ^ n := by rw [Nat.pow_succ]; grind
  rw [e]
  exact ih (a * 10 + 0) (by rw [← e]; exact ha) (by omega)
theorem tens_l0 (q : Nat) : ∀ (a n : Nat), n / 9 = q → Few (a * 10 ^ n) → n ≤ 1000000 → Runs (fun k => num_nat_tens.l0 k (L a) (n : Int)) (L (a * 10 ^ n)) := by
 induction q with
 | zero =>
  intro a n hq ha hn
  refine Runs.suc ?_
  simp only [num_nat_tens.l0]
  exact Runs.no (by omega) (tens_l1 n a ha hn)
 | succ q ih =>
  intro a n hq ha hn
  refine Runs.suc ?_
  simp only [num_nat_tens.l0]
  obtain ⟨m, rfl⟩ : ∃ m, n = m + 9 := ⟨n - 9, by omega⟩
  have hp : 0 < 10 ^ (m + 9) := Nat.pow_pos (by decide)
  refine Runs.yes (by omega) (Runs.bind (times_f a 1000000000 0 (few_mono (Nat.le_mul_of_pos_right a hp) ha) (by decide) (by decide)) ?_)
  rw [w64 (by omega) (by omega), show ((m + 9 : Nat) : Int) - 9 = (m : Int) by omega]
  have e : a * 10 ^ (m + 9) = (a * 1000000000 + 0) * 10 ^ m := by rw [Nat.pow_add]; grind
  rw [e]
  exact ih _ m (by omega) (by rw [← e]; exact ha) (by omega)
theorem tens_f (a n : Nat) (h : Few (a * 10 ^ n)) (hn : n ≤ 1000000) : Runs (fun k => num_nat_tens.f k (L a) (n : Int)) (L (a * 10 ^ n)) := tens_l0 _ a n rfl h hn
end Go.Proofs.YtjlnfnfdibfniaaDoor.Pl
namespace Go.Proofs.YtjlnfnfdibfniaaDoor.Pl
open F Hd Go.RowKit Go.Proofs.YtjlnfnfdibfniaaDoorW.PrintWords Go.Proofs.YtjlnfnfdibfniaaDoorW.PrintMore
theorem bitLen_spec : ∀ (f x : Nat), x < 2 ^ f → x < 2 ^ Lib.bitLenAux f x ∧ (0 < x → 0 < Lib.bitLenAux f x ∧ 2 ^ (Lib.bitLenAux f x - 1) ≤ x) := by
 intro f
 induction f with
 | zero =>
  intro x h
  have : x = 0 := by simpa using h
  subst this; simp [Lib.bitLenAux]
 | succ f ih =>
  intro x h
  rw [Lib.bitLenAux]
  by_cases h0 : x = 0
  ·
   subst h0; simp
  ·
   rw [if_neg h0]
   have h2 : x / 2 < 2 ^ f := by rw [Nat.pow_succ] at h; omega
   obtain ⟨g1, g2⟩ := ih (x / 2) h2
   have hz : x / 2 = 0 → Lib.bitLenAux f (x / 2) = 0 := by
    intro h3
    rw [h3]
    cases f with
    | zero => rfl
    | succ f => rw [Lib.bitLenAux, if_pos rfl]
   generalize Lib.bitLenAux f (x / 2) = s at *
   refine ⟨?_, fun _ => ⟨by omega, ?_⟩⟩
   ·
    rw [Nat.add_comm 1 s, Nat.pow_succ]; omega
   ·
    rw [show 1 + s - 1 = s by omega]
    rcases Nat.eq_zero_or_pos (x / 2) with h3 | h3
    ·
     rw [hz h3]; simp; omega
    ·
     obtain ⟨g3, g4⟩ := g2 h3
     obtain ⟨t, rfl⟩ : ∃ t, s = t + 1 := ⟨s - 1, by omega⟩
     rw [Nat.add_sub_cancel] at g4
     rw [Nat.pow_succ]; omega
theorem size_f (n : Nat) (h : Few n) : ∃ s : Nat, (∀ r, num_nat_size.f (L n) = some r ↔ r = (s : Int)) ∧ n < 2 ^ s ∧ (0 < n → 0 < s ∧ 2 ^ (s - 1) ≤ n) ∧ s ≤ 32000000 := by
 unfold Few at h
 rcases Nat.eq_zero_or_pos n with h0 | h0
 ·
  refine ⟨0, ?_, by rw [h0]; simp, fun h => by omega, by omega⟩
  intro r
  rw [h0, L_zero]
  unfold num_nat_size.f
  rw [if_pos (by simp)]
  constructor
  ·
   intro e; injection e with e; rw [← e]; rfl
  ·
   intro e; rw [e]; rfl
 ·
  obtain ⟨l, x, e, hx0, hx1⟩ := lim_last (B := 4294967296) (by decide) n h0
  have e' : L n = l ++ [x] := e
  rw [e'] at h
  have hll : (l ++ [x]).length = l.length + 1 := by simp
  obtain ⟨y, rfl⟩ := Int.eq_ofNat_of_zero_le (Int.le_of_lt hx0)
  have hv : n = nv 4294967296 l + 4294967296 ^ l.length * y := by
   have := L_nv n
   rw [e', nv_append, nv_one, Int.toNat_natCast] at this
   exact this.symm
  have hl : nv 4294967296 l < 4294967296 ^ l.length := nv_lt (by decide) (by have := L_wf n; rw [e'] at this; exact this.left)
  have hp : 4294967296 ^ l.length = 2 ^ (32 * l.length) := by rw [Nat.pow_mul]
  rw [hp] at hv hl
  have hy0 : 0 < y := by omega
  have hy : y < 4294967296 := by omega
  obtain ⟨g1, g2⟩ := bitLen_spec 64 y (by omega)
  obtain ⟨g2, g3⟩ := g2 hy0
  have g4 : Lib.bitLenAux 64 y ≤ 32 := by
   rcases Nat.lt_or_ge 32 (Lib.bitLenAux 64 y) with h5 | h5
   ·
    have := Nat.pow_le_pow_right (n := 2) (by decide) (show 32 ≤ Lib.bitLenAux 64 y - 1 by omega)
    have e32 : 2 ^ 32 = 4294967296 := by decide
    omega
   ·
    exact h5
  refine ⟨32 * l.length + Lib.bitLenAux 64 y, ?_, ?_, fun _ => ⟨by omega, ?_⟩, by omega⟩
  ·
   intro r
   rw [e']
   unfold num_nat_size.f
   rw [w64 (n := ((l ++ [(y : Int)]).length : Int) - 1) (by omega) (by omega), show ((l ++ [(y : Int)]).length : Int) - 1 = (l.length : Int) by omega]
   rw [if_neg (by omega), if_pos (by omega), if_pos (by omega), rd_get _ _ (by omega)]
   rw [List.getElem_append_right (Nat.le_refl _)]
   simp only [Nat.sub_self, List.getElem_cons_zero]
   unfold bits_Len32.f
   rw [if_pos (by omega), Option.bind_some, Int.toNat_natCast, w64 (n := 32 * (l.length : Int)) (by omega) (by omega)]
   show some (wrap64 (32 * (l.length : Int) + (Lib.bitLenAux 64 y : Int))) = some r ↔ _
   rw [w64 (by omega) (by omega)]
   constructor
   ·
    intro e; injection e with e; omega
   ·
    intro e; rw [e]; congr 1
  ·
   rw [Nat.pow_add, hv]
   generalize 2 ^ (32 * l.length) = p at *
   have : p * (y + 1) ≤ p * 2 ^ Lib.bitLenAux 64 y := Nat.mul_le_mul_left p g1
   rw [Nat.mul_add] at this
   omega
  ·
   rw [show 32 * l.length + Lib.bitLenAux 64 y - 1 = 32 * l.length + (Lib.bitLenAux 64 y - 1) by omega, Nat.pow_add, hv]
   generalize 2 ^ (32 * l.length) = p at *
   have : p * 2 ^ (Lib.bitLenAux 64 y - 1) ≤ p * y := Nat.mul_le_mul_left p g3
   omega
theorem wraps_u32 (n : Int) (h0 : 0 ≤ n) (h1 : n < 2 ^ 32) : IntKind.u32.wrap n = n := by rw [IntKind.wrap_u32]; omega
theorem join32 (s w c : Nat) (hs : s < 32) (hc : c < 2 ^ s) : Go.bits .or .u32 (((w * 2 ^ s : Nat) : Int) % 4294967296) (c : Int) = ((w * 2 ^ s % 4294967296 + c : Nat) : Int) := by
 have h2 : (2 : Int) ^ 32 = 4294967296 := by decide
 have h3 : 2 ^ 32 = 2 ^ (32 - s) * 2 ^ s := by rw [← Nat.pow_add]; congr 1; omega
 have hle : 2 ^ s ≤ 2 ^ 31 := Nat.pow_le_pow_right (by decide) (by omega)
 have hm : w * 2 ^ s % 4294967296 = (w % 2 ^ (32 - s)) * 2 ^ s := by
  rw [show (4294967296 : Nat) = 2 ^ (32 - s) * 2 ^ s by rw [← h3], Nat.mul_mod_mul_right]
 have e : ((w * 2 ^ s : Nat) : Int) % 4294967296 = (((w % 2 ^ (32 - s)) * 2 ^ s : Nat) : Int) := by rw [← hm]; omega
 have hlt : (w % 2 ^ (32 - s)) * 2 ^ s < 4294967296 := by rw [← hm]; exact Nat.mod_lt _ (by decide)
 have hdv : (((w % 2 ^ (32 - s)) * 2 ^ s : Nat) : Int) % 2 ^ s = 0 := by
  have : ((2 : Int) ^ s) = ((2 ^ s : Nat) : Int) := by simp
  rw [this, ← Int.natCast_emod, Nat.mul_mod_left]; rfl
 have hcc : (c : Int) < 2 ^ s := by exact_mod_cast hc
 rw [e, bits_join .u32 32 (by decide) wraps_u32 s _ _ (by omega) hdv (by rw [h2]; omega) (by omega) hcc (by rw [h2]; omega), hm]
 omega
theorem up_loop (l : List Int) (hw : Wf 4294967296 l) (hlen : l.length ≤ 1000000) (n : Nat) :
  ∀ (d i : Nat), i + d = l.length → ∀ (out : List Int) (c : Nat), out.length ≤ 8000000 + i → Wf 4294967296 out → c < 2 ^ (n % 32) →
  Runs (fun k => num_nat_up.l0 k (n : Int) out (c : Int) l (l.length : Int) (i : Int)) (L (nv 4294967296 out + 4294967296 ^ out.length * (c + 2 ^ (n % 32) * nv 4294967296 (l.drop i)))) := by
 have hs : n % 32 < 32 := Nat.mod_lt _ (by decide)
 have hpl : 2 ^ (n % 32) ≤ 2 ^ 31 := Nat.pow_le_pow_right (by decide) (by omega)
 have ht : Int.tmod (n : Int) 32 = ((n % 32 : Nat) : Int) := by rw [Int.tmod_eq_emod_of_nonneg (by omega)]; omega
 generalize n % 32 = s at *
 intro d
 induction d with
 | zero =>
  intro i hi out c ho hwo hc
  obtain rfl : i = l.length := by omega
  refine Runs.suc ?_
  simp only [num_nat_up.l0]
  refine Runs.no (by omega) (Runs.yes (by omega) ?_)
  refine Runs.bind (trim_f _ (hwo.append (Wf.one (by omega) (by omega))) (by simp; omega)) ((Runs.pure _).of ?_)
  rw [nv_append, nv_one, List.drop_of_length_le (Nat.le_refl _)]
  simp [nv]
 | succ d ih =>
  intro i hi out c ho hwo hc
  have hil : i < l.length := by omega
  have hx := hw.get hil
  obtain ⟨y, hy⟩ := Int.eq_ofNat_of_zero_le hx.1
  have hy1 : y < 4294967296 := by omega
  have hyp : y * 2 ^ s < 4294967296 * 2 ^ s := Nat.mul_lt_mul_of_pos_right hy1 (Nat.two_pow_pos _)
  refine Runs.suc ?_
  simp only [num_nat_up.l0]
  have hsh : shl .u64 (y : Int) (s : Int) = ((y * 2 ^ s : Nat) : Int) := by
   unfold shl
   have e : min (s : Int).toNat IntKind.u64.bits = s := by rw [Int.toNat_natCast]; show min s 64 = s; omega
   rw [e]
   have e2 : (y : Int) * 2 ^ s = ((y * 2 ^ s : Nat) : Int) := by simp
   rw [e2]
   exact u64w (by omega) (by omega)
  rw [rd_get l i hil, hy, u64w (n := (y : Int)) (by omega) (by omega), ht, hsh, join32 s y c hs hc]
  have hq : y * 2 ^ s % 4294967296 + 4294967296 * (y * 2 ^ s / 4294967296) = y * 2 ^ s := Nat.mod_add_div ..
  have h3 : 4294967296 = 2 ^ (32 - s) * 2 ^ s := by rw [← Nat.pow_add, show 32 - s + s = 32 by omega]
  have hr : y * 2 ^ s % 4294967296 + c < 4294967296 := by
   have h4 : y * 2 ^ s % (2 ^ (32 - s) * 2 ^ s) = (y % 2 ^ (32 - s)) * 2 ^ s := Nat.mul_mod_mul_right ..
   rw [← h3] at h4
   have h5 : (y % 2 ^ (32 - s) + 1) * 2 ^ s ≤ 2 ^ (32 - s) * 2 ^ s := Nat.mul_le_mul_right _ (Nat.mod_lt _ (Nat.two_pow_pos _))
   rw [← h3, Nat.add_mul, Nat.one_mul] at h5
   omega
  have hq2 : y * 2 ^ s / 4294967296 < 2 ^ s := Nat.div_lt_of_lt_mul hyp
  have e3 : ((y * 2 ^ s : Nat) : Int) / 4294967296 % 4294967296 = ((y * 2 ^ s / 4294967296 : Nat) : Int) := by omega
  rw [e3, w64 (by omega) (by omega)]
  refine Runs.yes (by omega) (Runs.yes (by omega) (Runs.yes (by omega) (Runs.yes (by omega) (Runs.yes (by omega) ?_))))
  have := ih (i + 1) (by omega) (out ++ [((y * 2 ^ s % 4294967296 + c : Nat) : Int)]) (y * 2 ^ s / 4294967296) (by simp; omega) (hwo.append (Wf.one (by omega) (by omega))) hq2
  refine Runs.of this ?_
  congr 1
  rw [nv_append, nv_one, List.length_append, List.length_singleton, nv_drop _ l i hil, hy, Int.toNat_natCast]
  simp only [Int.toNat_natCast]
  generalize y * 2 ^ s / 4294967296 = q at *
  generalize y * 2 ^ s % 4294967296 = r at *
  generalize nv 4294967296 out = N
  generalize nv 4294967296 (l.drop (i + 1)) = D
  rw [Nat.pow_succ]
  generalize 4294967296 ^ out.length = p
  generalize 2 ^ s = t at *
  grind
theorem up_f (a n : Nat) (ha : Few a) (hn : n ≤ 100000000) : Runs (fun k => num_nat_up.f k (L a) (n : Int)) (L (a * 2 ^ n)) := by
 have ha' := ha
 unfold Few at ha'
 simp only [num_nat_up.f]
 have e1 : Int.tdiv (n : Int) 32 = ((n / 32 : Nat) : Int) := by rw [Int.tdiv_eq_ediv_of_nonneg (by omega)]; omega
 rw [e1, w64 (n := ((n / 32 : Nat) : Int)) (by omega) (by omega), w64 (n := ((n / 32 : Nat) : Int) + _) (by omega) (by omega), w64 (by omega) (by omega)]
 refine Runs.yes (by omega) (Runs.yes (by omega) (Runs.yes (by omega) ?_))
 rw [Int.toNat_natCast]
 refine Runs.of (up_loop (L a) (L_wf a) ha' n (L a).length 0 (by omega) _ 0 (by simp; omega) (Wf.zeros (by decide) _) (Nat.two_pow_pos _)) ?_
 congr 1
 rw [nv_zeros, List.length_replicate, List.drop_zero, L_nv]
 have : 2 ^ n = 4294967296 ^ (n / 32) * 2 ^ (n % 32) := by
  rw [show (4294967296 : Nat) = 2 ^ 32 by decide, ← Nat.pow_mul, ← Nat.pow_add]
  congr 1; omega
 rw [this]
 grind
def cmpN (a b : Nat) : Int := if a < b then -1 else if b < a then 1 else 0
theorem against_loop (a b : List Int) (ha : Wf 4294967296 a) (hb : Wf 4294967296 b) (hlen : a.length = b.length) (hl : a.length ≤ 1000000) :
  ∀ j, j ≤ a.length → Runs (fun k => num_nat_against.l0 k a b ((j : Int) - 1)) (cmpN (nv 4294967296 (a.take j)) (nv 4294967296 (b.take j))) := by
 intro j
 induction j with
 | zero =>
  intro _
  refine Runs.suc ?_
  simp only [num_nat_against.l0]
  exact Runs.no (by omega) ((Runs.pure _).of (by simp [nv, cmpN]))
 | succ j ih =>
  intro hj
  have h1 : j < a.length := by omega
  have h2 : j < b.length := by omega
  refine Runs.suc ?_
  simp only [num_nat_against.l0]
  rw [show ((j + 1 : Nat) : Int) - 1 = (j : Int) by omega, rd_get a j h1, rd_get b j h2, w64 (by omega) (by omega)]
  refine Runs.yes (by omega) (Runs.yes (by omega) (Runs.yes (by omega) (Runs.yes (by omega) ?_)))
  obtain ⟨x, hx⟩ := Int.eq_ofNat_of_zero_le (ha.get h1).1
  obtain ⟨y, hy⟩ := Int.eq_ofNat_of_zero_le (hb.get h2).1
  have g1 := nv_lt (B := 4294967296) (by decide) (l := a.take j) (fun z hz => ha z (List.mem_of_mem_take hz))
  have g2 := nv_lt (B := 4294967296) (by decide) (l := b.take j) (fun z hz => hb z (List.mem_of_mem_take hz))
  rw [List.length_take, Nat.min_eq_left (by omega)] at g1 g2
  rw [nv_take_succ _ a j h1, nv_take_succ _ b j h2, hx, hy, Int.toNat_natCast, Int.toNat_natCast]
  have ih := ih (by omega)
  generalize nv 4294967296 (a.take j) = N at *
  generalize nv 4294967296 (b.take j) = M at *
  generalize 4294967296 ^ j = p at *
  by_cases c1 : x < y
  ·
   refine Runs.yes (by omega) ((Runs.pure _).of ?_)
   have : p * (x + 1) ≤ p * y := Nat.mul_le_mul_left p c1
   rw [Nat.mul_add] at this
   unfold cmpN
   rw [if_pos (by omega)]
  ·
   refine Runs.no (by omega) ?_
   by_cases c2 : y < x
   ·
    refine Runs.yes (by omega) ((Runs.pure _).of ?_)
    have : p * (y + 1) ≤ p * x := Nat.mul_le_mul_left p c2
    rw [Nat.mul_add] at this
    unfold cmpN
    rw [if_neg (by omega), if_pos (by omega)]
   ·
    refine Runs.no (by omega) ?_
    have : x = y := by omega
    subst this
    refine ih.of ?_
    unfold cmpN
    generalize p * x = z
    by_cases c3 : N < M
    ·
     rw [if_pos c3, if_pos (by omega)]
    ·
     rw [if_neg c3, if_neg (show ¬ N + z < M + z by omega)]
     by_cases c4 : M < N
     ·
      rw [if_pos c4, if_pos (by omega)]
     ·
      rw [if_neg c4, if_neg (by omega)]
theorem lim_lt {B : Nat} (hB : 2 ≤ B) {a b : Nat} (h : (lim B a).length < (lim B b).length) : a < b := by
 rcases Nat.lt_or_ge a b with h1 | h1
 ·
  exact h1
 ·
  have := lim_len hB (lim B a).length b (Nat.lt_of_le_of_lt h1 (lim_le hB a))
  omega
theorem against_f (a b : Nat) (ha : Few a) : Runs (fun k => num_nat_against.f k (L a) (L b)) (cmpN a b) := by
 unfold Few at ha
 simp only [num_nat_against.f]
 by_cases h1 : (L a).length < (L b).length
 ·
  refine Runs.yes (by omega) ((Runs.pure _).of ?_)
  have := lim_lt (by decide) h1
  unfold cmpN; rw [if_pos this]
 ·
  refine Runs.no (by omega) ?_
  by_cases h2 : (L b).length < (L a).length
  ·
   refine Runs.yes (by omega) ((Runs.pure _).of ?_)
   have := lim_lt (by decide) h2
   unfold cmpN; rw [if_neg (by omega), if_pos this]
  ·
   refine Runs.no (by omega) ?_
   have he : (L a).length = (L b).length := by omega
   have := against_loop (L a) (L b) (L_wf a) (L_wf b) he ha (L a).length (Nat.le_refl _)
   rw [w64 (by omega) (by omega)]
   refine this.of ?_
   have e1 : (L a).take (L a).length = L a := List.take_length
   have e2 : (L b).take (L a).length = L b := by rw [he]; exact List.take_length
   rw [e1, e2, L_nv, L_nv]
theorem plus_l0 (l s : List Int) (hw : Wf 4294967296 l) (hws : Wf 4294967296 s) (hlen : l.length ≤ 1000001) (hsl : s.length ≤ l.length) :
  ∀ (d i : Nat), i + d = l.length → ∀ (out : List Int) (c : Nat), out.length = l.length + 1 → Wf 4294967296 (out.take i) → c < 2 →
  Runs (fun k => num_nat_plus.l0 k l s out (c : Int) l (l.length : Int) (i : Int)) (L (nv 4294967296 (out.take i) + 4294967296 ^ i * (c + nv 4294967296 (l.drop i) + nv 4294967296 (s.drop i)))) := by
 intro d
 induction d with
 | zero =>
  intro i hi out c ho hwo hc
  obtain rfl : i = l.length := by omega
  refine Runs.suc ?_
  simp only [num_nat_plus.l0]
  refine Runs.no (by omega) (Runs.yes (by omega) (Runs.yes (by omega) ?_))
  rw [show ((c : Int) % 4294967296) = (c : Int) by omega, Int.toNat_natCast]
  have hset : out.set l.length (c : Int) = out.take l.length ++ [(c : Int)] := by
   have := take_set_succ out l.length (c : Int) (by omega)
   rw [← this, List.take_of_length_le (by rw [List.length_set]; omega)]
  rw [hset]
  refine Runs.bind (trim_f _ (hwo.append (Wf.one (by omega) (by omega))) (by simp; omega)) ((Runs.pure _).of ?_)
  rw [nv_append, nv_one, List.length_take, Nat.min_eq_left (by omega), List.drop_of_length_le (Nat.le_refl _), List.drop_of_length_le hsl]
  simp [nv]
 | succ d ih =>
  intro i hi out c ho hwo hc
  have hil : i < l.length := by omega
  obtain ⟨y, hy⟩ := Int.eq_ofNat_of_zero_le (hw.get hil).1
  have hy1 : y < 4294967296 := by have := (hw.get hil).2; omega
  refine Runs.suc ?_
  simp only [num_nat_plus.l0]
  rw [rd_get l i hil, hy, u64w (n := (y : Int)) (by omega) (by omega), u64w (n := (c : Int) + (y : Int)) (by omega) (by omega), w64 (by omega) (by omega), Int.toNat_natCast]
  refine Runs.yes (by omega) (Runs.yes (by omega) (Runs.yes (by omega) ?_))
  by_cases his : i < s.length
  ·
   obtain ⟨z, hz⟩ := Int.eq_ofNat_of_zero_le (hws.get his).1
   have hz1 : z < 4294967296 := by have := (hws.get his).2; omega
   rw [rd_get s i his, hz, u64w (n := (z : Int)) (by omega) (by omega), u64w (n := (c : Int) + (y : Int) + (z : Int)) (by omega) (by omega)]
   refine Runs.yes (by omega) (Runs.yes (by omega) ?_)
   have e2 : ((c : Int) + (y : Int) + (z : Int)) % 4294967296 = (((c + y + z) % 4294967296 : Nat) : Int) := by omega
   have e3 : ((c : Int) + (y : Int) + (z : Int)) / 4294967296 = (((c + y + z) / 4294967296 : Nat) : Int) := by omega
   rw [e2, e3]
   have hq : (c + y + z) % 4294967296 + 4294967296 * ((c + y + z) / 4294967296) = c + y + z := Nat.mod_add_div ..
   have hr : (c + y + z) % 4294967296 < 4294967296 := Nat.mod_lt _ (by decide)
   have hq2 : (c + y + z) / 4294967296 < 2 := by omega
   generalize (c + y + z) % 4294967296 = r at *
   generalize (c + y + z) / 4294967296 = q at *
   have ht := take_set_succ out i (r : Int) (by omega)
   have := ih (i + 1) (by omega) (out.set i (r : Int)) q (by rw [List.length_set]; exact ho) (by rw [ht]; exact hwo.append (Wf.one (by omega) (by omega))) hq2
   refine Runs.of this ?_
   congr 1
   rw [ht, nv_append, nv_one, List.length_take, Nat.min_eq_left (by omega), nv_drop _ l i hil, nv_drop _ s i his, hy, hz]
   simp only [Int.toNat_natCast]
   generalize nv 4294967296 (List.take i out) = N
   generalize nv 4294967296 (l.drop (i + 1)) = D
   generalize nv 4294967296 (s.drop (i + 1)) = E
   rw [Nat.pow_succ]
   generalize 4294967296 ^ i = p
   grind
  ·
   refine Runs.no (by omega) (Runs.yes (by omega) ?_)
   have e2 : ((c : Int) + (y : Int)) % 4294967296 = (((c + y) % 4294967296 : Nat) : Int) := by omega
   have e3 : ((c : Int) + (y : Int)) / 4294967296 = (((c + y) / 4294967296 : Nat) : Int) := by omega
   rw [e2, e3]
   have hq : (c + y) % 4294967296 + 4294967296 * ((c + y) / 4294967296) = c + y := Nat.mod_add_div ..
   have hr : (c + y) % 4294967296 < 4294967296 := Nat.mod_lt _ (by decide)
   have hq2 : (c + y) / 4294967296 < 2 := by omega
   generalize (c + y) % 4294967296 = r at *
   generalize (c + y) / 4294967296 = q at *
   have ht := take_set_succ out i (r : Int) (by omega)
   have := ih (i + 1) (by omega) (out.set i (r : Int)) q (by rw [List.length_set]; exact ho) (by rw [ht]; exact hwo.append (Wf.one (by omega) (by omega))) hq2
   refine Runs.of this ?_
   congr 1
   rw [ht, nv_append, nv_one, List.length_take, Nat.min_eq_left (by omega), nv_drop _ l i hil, hy, List.drop_of_length_le (show s.length ≤ i + 1 by omega), List.drop_of_length_le (show s.length ≤ i by omega)]
   simp only [Int.toNat_natCast, nv]
   generalize nv 4294967296 (List.take i out) = N
   generalize nv 4294967296 (l.drop (i + 1)) = D
   rw [Nat.pow_succ]
   generalize 4294967296 ^ i = p
   grind
theorem plus_l101 (l s : List Int) (hw : Wf 4294967296 l) (hws : Wf 4294967296 s) (hlen : l.length ≤ 1000001) (hsl : s.length ≤ l.length) :
  ∀ (d i : Nat), i + d = l.length → ∀ (out : List Int) (c : Nat), out.length = l.length + 1 → Wf 4294967296 (out.take i) → c < 2 →
  Runs (fun k => num_nat_plus.l101 k l s out (c : Int) l (l.length : Int) (i : Int)) (L (nv 4294967296 (out.take i) + 4294967296 ^ i * (c + nv 4294967296 (l.drop i) + nv 4294967296 (s.drop i)))) := by
 intro d
 induction d with
 | zero =>
  intro i hi out c ho hwo hc
  obtain rfl : i = l.length := by omega
  refine Runs.suc ?_
  simp only [num_nat_plus.l101]
  refine Runs.no (by omega) (Runs.yes (by omega) (Runs.yes (by omega) ?_))
  rw [show ((c : Int) % 4294967296) = (c : Int) by omega, Int.toNat_natCast]
  have hset : out.set l.length (c : Int) = out.take l.length ++ [(c : Int)] := by
   have := take_set_succ out l.length (c : Int) (by omega)
   rw [← this, List.take_of_length_le (by rw [List.length_set]; omega)]
  rw [hset]
  refine Runs.bind (trim_f _ (hwo.append (Wf.one (by omega) (by omega))) (by simp; omega)) ((Runs.pure _).of ?_)
  rw [nv_append, nv_one, List.length_take, Nat.min_eq_left (by omega), List.drop_of_length_le (Nat.le_refl _), List.drop_of_length_le hsl]
  simp [nv]
 | succ d ih =>
  intro i hi out c ho hwo hc
  have hil : i < l.length := by omega
  obtain ⟨y, hy⟩ := Int.eq_ofNat_of_zero_le (hw.get hil).1
  have hy1 : y < 4294967296 := by have := (hw.get hil).2; omega
  refine Runs.suc ?_
  simp only [num_nat_plus.l101]
  rw [rd_get l i hil, hy, u64w (n := (y : Int)) (by omega) (by omega), u64w (n := (c : Int) + (y : Int)) (by omega) (by omega), w64 (by omega) (by omega), Int.toNat_natCast]
  refine Runs.yes (by omega) (Runs.yes (by omega) (Runs.yes (by omega) ?_))
  by_cases his : i < s.length
  ·
   obtain ⟨z, hz⟩ := Int.eq_ofNat_of_zero_le (hws.get his).1
   have hz1 : z < 4294967296 := by have := (hws.get his).2; omega
   rw [rd_get s i his, hz, u64w (n := (z : Int)) (by omega) (by omega), u64w (n := (c : Int) + (y : Int) + (z : Int)) (by omega) (by omega)]
   refine Runs.yes (by omega) (Runs.yes (by omega) ?_)
   have e2 : ((c : Int) + (y : Int) + (z : Int)) % 4294967296 = (((c + y + z) % 4294967296 : Nat) : Int) := by omega
   have e3 : ((c : Int) + (y : Int) + (z : Int)) / 4294967296 = (((c + y + z) / 4294967296 : Nat) : Int) := by omega
   rw [e2, e3]
   have hq : (c + y + z) % 4294967296 + 4294967296 * ((c + y + z) / 4294967296) = c + y + z := Nat.mod_add_div ..
   have hr : (c + y + z) % 4294967296 < 4294967296 := Nat.mod_lt _ (by decide)
   have hq2 : (c + y + z) / 4294967296 < 2 := by omega
   generalize (c + y + z) % 4294967296 = r at *
   generalize (c + y + z) / 4294967296 = q at *
   have ht := take_set_succ out i (r : Int) (by omega)
   have := ih (i + 1) (by omega) (out.set i (r : Int)) q (by rw [List.length_set]; exact ho) (by rw [ht]; exact hwo.append (Wf.one (by omega) (by omega))) hq2
   refine Runs.of this ?_
   congr 1
   rw [ht, nv_append, nv_one, List.length_take, Nat.min_eq_left (by omega), nv_drop _ l i hil, nv_drop _ s i his, hy, hz]
   simp only [Int.toNat_natCast]
   generalize nv 4294967296 (List.take i out) = N
   generalize nv 4294967296 (l.drop (i + 1)) = D
   generalize nv 4294967296 (s.drop (i + 1)) = E
   rw [Nat.pow_succ]
   generalize 4294967296 ^ i = p
   grind
  ·
   refine Runs.no (by omega) (Runs.yes (by omega) ?_)
   have e2 : ((c : Int) + (y : Int)) % 4294967296 = (((c + y) % 4294967296 : Nat) : Int) := by omega
   have e3 : ((c : Int) + (y : Int)) / 4294967296 = (((c + y) / 4294967296 : Nat) : Int) := by omega
   rw [e2, e3]
   have hq : (c + y) % 4294967296 + 4294967296 * ((c + y) / 4294967296) = c + y := Nat.mod_add_div ..
   have hr : (c + y) % 4294967296 < 4294967296 := Nat.mod_lt _ (by decide)
   have hq2 : (c + y) / 4294967296 < 2 := by omega
   generalize (c + y) % 4294967296 = r at *
   generalize (c + y) / 4294967296 = q at *
   have ht := take_set_succ out i (r : Int) (by omega)
   have := ih (i + 1) (by omega) (out.set i (r : Int)) q (by rw [List.length_set]; exact ho) (by rw [ht]; exact hwo.append (Wf.one (by omega) (by omega))) hq2
   refine Runs.of this ?_
   congr 1
   rw [ht, nv_append, nv_one, List.length_take, Nat.min_eq_left (by omega), nv_drop _ l i hil, hy, List.drop_of_length_le (show s.length ≤ i + 1 by omega), List.drop_of_length_le (show s.length ≤ i by omega)]
   simp only [Int.toNat_natCast, nv]
   generalize nv 4294967296 (List.take i out) = N
   generalize nv 4294967296 (l.drop (i + 1)) = D
   rw [Nat.pow_succ]
   generalize 4294967296 ^ i = p
   grind
theorem plus_f (a b : Nat) (ha : Few a) (hb : Few b) : Runs (fun k => num_nat_plus.f k (L a) (L b)) (L (a + b)) := by
 unfold Few at ha hb
 simp only [num_nat_plus.f]
 rw [w64 (n := ((L b).length : Int) + 1) (by omega) (by omega), w64 (n := ((L a).length : Int) + 1) (by omega) (by omega)]
 rw [show (((L b).length : Int) + 1).toNat = (L b).length + 1 by omega, show (((L a).length : Int) + 1).toNat = (L a).length + 1 by omega]
 by_cases h : (L a).length < (L b).length
 ·
  refine Runs.yes (by omega) (Runs.yes (by omega) (Runs.yes (by omega) ?_))
  refine (plus_l0 (L b) (L a) (L_wf b) (L_wf a) (by omega) (by omega) (L b).length 0 (by omega) _ 0 (by simp) (by rw [List.take_zero]; exact Wf.nil _) (by omega)).of ?_
  congr 1
  rw [List.take_zero, List.drop_zero, List.drop_zero, L_nv, L_nv, nv]; grind
 ·
  refine Runs.no (by omega) (Runs.yes (by omega) (Runs.yes (by omega) ?_))
  refine (plus_l101 (L a) (L b) (L_wf a) (L_wf b) (by omega) (by omega) (L a).length 0 (by omega) _ 0 (by simp) (by rw [List.take_zero]; exact Wf.nil _) (by omega)).of ?_
  congr 1
  rw [List.take_zero, List.drop_zero, List.drop_zero, L_nv, L_nv, nv]; grind
theorem less_digit (w b y : Nat) (hw : w < 4294967296) (hb : b < 2) (hy : y < 4294967296) :
  ∃ d q : Nat, IntKind.u64.wrap (IntKind.u64.wrap ((w : Int) - b) - y) % 4294967296 = (d : Int) ∧ IntKind.u64.wrap (IntKind.u64.wrap ((w : Int) - b) - y) / 9223372036854775808 = (q : Int) ∧ d < 4294967296 ∧ q < 2 ∧ w + 4294967296 * q = d + b + y := by
 rw [IntKind.wrap_u64, IntKind.wrap_u64]
 by_cases h : b + y ≤ w
 ·
  exact ⟨w - b - y, 0, by omega, by omega, by omega, by omega, by omega⟩
 ·
  exact ⟨w + 4294967296 - b - y, 1, by omega, by omega, by omega, by omega, by omega⟩
theorem less_digit0 (w b : Nat) (hw : w < 4294967296) (hb : b < 2) :
  ∃ d q : Nat, IntKind.u64.wrap ((w : Int) - b) % 4294967296 = (d : Int) ∧ IntKind.u64.wrap ((w : Int) - b) / 9223372036854775808 = (q : Int) ∧ d < 4294967296 ∧ q < 2 ∧ w + 4294967296 * q = d + b := by
 rw [IntKind.wrap_u64]
 by_cases h : b ≤ w
 ·
  exact ⟨w - b, 0, by omega, by omega, by omega, by omega, by omega⟩
 ·
  exact ⟨w + 4294967296 - b, 1, by omega, by omega, by omega, by omega, by omega⟩
theorem less_loop (l s : List Int) (hw : Wf 4294967296 l) (hws : Wf 4294967296 s) (hlen : l.length ≤ 1000000) :
  ∀ (d i : Nat), i + d = l.length → ∀ (out : List Int) (c : Nat), out.length = l.length → Wf 4294967296 (out.take i) → c < 2 → c + nv 4294967296 (s.drop i) ≤ nv 4294967296 (l.drop i) →
  Runs (fun k => num_nat_less.l0 k s out (c : Int) l (l.length : Int) (i : Int)) (L (nv 4294967296 (out.take i) + 4294967296 ^ i * (nv 4294967296 (l.drop i) - (c + nv 4294967296 (s.drop i))))) := by
 intro d
 induction d with
 | zero =>
  intro i hi out c ho hwo hc hle
  obtain rfl : i = l.length := by omega
  rw [List.drop_of_length_le (Nat.le_refl _)] at hle ⊢
  rw [nv] at hle ⊢
  refine Runs.suc ?_
  simp only [num_nat_less.l0]
  refine Runs.no (by omega) ?_
  have : out.take l.length = out := List.take_of_length_le (by omega)
  rw [this] at hwo ⊢
  exact Runs.bind (trim_f _ hwo (by omega)) ((Runs.pure _).of (by simp))
 | succ d ih =>
  intro i hi out c ho hwo hc hle
  have hil : i < l.length := by omega
  obtain ⟨w, hy⟩ := Int.eq_ofNat_of_zero_le (hw.get hil).1
  have hw1 : w < 4294967296 := by have := (hw.get hil).2; omega
  refine Runs.suc ?_
  simp only [num_nat_less.l0]
  rw [rd_get l i hil, hy, u64w (n := (w : Int)) (by omega) (by omega), w64 (by omega) (by omega), Int.toNat_natCast]
  refine Runs.yes (by omega) (Runs.yes (by omega) (Runs.yes (by omega) ?_))
  rw [nv_drop _ l i hil, hy, Int.toNat_natCast] at hle ⊢
  by_cases his : i < s.length
  ·
   obtain ⟨y, hz⟩ := Int.eq_ofNat_of_zero_le (hws.get his).1
   have hz1 : y < 4294967296 := by have := (hws.get his).2; omega
   rw [rd_get s i his, hz, u64w (n := (y : Int)) (by omega) (by omega)]
   obtain ⟨r, q, e2, e3, hr, hq2, hq⟩ := less_digit w c y hw1 hc hz1
   rw [e2, e3]
   refine Runs.yes (by omega) (Runs.yes (by omega) ?_)
   have ht := take_set_succ out i (r : Int) (by omega)
   rw [nv_drop _ s i his, hz, Int.toNat_natCast] at hle ⊢
   have := ih (i + 1) (by omega) (out.set i (r : Int)) q (by rw [List.length_set]; exact ho) (by rw [ht]; exact hwo.append (Wf.one (by omega) (by omega))) hq2 (by omega)
   refine Runs.of this ?_
   congr 1
   rw [ht, nv_append, nv_one, List.length_take, Nat.min_eq_left (by omega)]
   simp only [Int.toNat_natCast]
   generalize nv 4294967296 (List.take i out) = N
   generalize nv 4294967296 (l.drop (i + 1)) = D at *
   generalize nv 4294967296 (s.drop (i + 1)) = E at *
   rw [Nat.pow_succ]
   generalize 4294967296 ^ i = p
   obtain ⟨X, hX⟩ : ∃ X, D = X + (q + E) := ⟨D - (q + E), by omega⟩
   rw [show D - (q + E) = X by omega, show w + 4294967296 * D - (c + (y + 4294967296 * E)) = r + 4294967296 * X by omega]
   grind
  ·
   refine Runs.no (by omega) ?_
   obtain ⟨r, q, e2, e3, hr, hq2, hq⟩ := less_digit0 w c hw1 hc
   rw [e2, e3]
   refine Runs.yes (by omega) ?_
   have ht := take_set_succ out i (r : Int) (by omega)
   have hs1 : s.drop (i + 1) = [] := List.drop_of_length_le (by omega)
   rw [List.drop_of_length_le (show s.length ≤ i by omega), nv] at hle ⊢
   have := ih (i + 1) (by omega) (out.set i (r : Int)) q (by rw [List.length_set]; exact ho) (by rw [ht]; exact hwo.append (Wf.one (by omega) (by omega))) hq2 (by rw [hs1, nv]; omega)
   refine Runs.of this ?_
   congr 1
   rw [ht, nv_append, nv_one, List.length_take, Nat.min_eq_left (by omega), hs1, nv]
   simp only [Int.toNat_natCast]
   generalize nv 4294967296 (List.take i out) = N
   generalize nv 4294967296 (l.drop (i + 1)) = D at *
   rw [Nat.pow_succ]
   generalize 4294967296 ^ i = p
   obtain ⟨X, hX⟩ : ∃ X, D = X + q := ⟨D - q, by omega⟩
   rw [show D - (q + 0) = X by omega, show w + 4294967296 * D - (c + 0) = r + 4294967296 * X by omega]
   grind
theorem less_f (a b : Nat) (ha : Few a) (h : b ≤ a) : Runs (fun k => num_nat_less.f k (L a) (L b)) (L (a - b)) := by
 unfold Few at ha
 simp only [num_nat_less.f]
 rw [Int.toNat_natCast]
 refine Runs.yes (by omega) (Runs.yes (by omega) ?_)
 refine (less_loop (L a) (L b) (L_wf a) (L_wf b) ha (L a).length 0 (by omega) _ 0 (by simp) (by rw [List.take_zero]; exact Wf.nil _) (by omega) (by rw [List.drop_zero, List.drop_zero, L_nv, L_nv]; omega)).of ?_
 congr 1
 rw [List.take_zero, List.drop_zero, List.drop_zero, L_nv, L_nv, nv]
 simp
end Go.Proofs.YtjlnfnfdibfniaaDoor.Pl
namespace Go.Proofs.YtjlnfnfdibfniaaDoor.Pl
open F Hd Go.RowKit Go.Proofs.YtjlnfnfdibfniaaDoorW.PrintWords Go.Proofs.YtjlnfnfdibfniaaDoorW.PrintMore
def dnB (r b : Nat) (ev : Bool) : Bool := decide (r < b) || (decide (r = b) && ev)
def upB (r s a : Nat) (ev : Bool) : Bool := decide (s < r + a) || (decide (s = r + a) && ev)
def adjB (r s d : Nat) (down up : Bool) : Bool := up && (!down || decide (s < 2 * r) || (decide (s = 2 * r) && decide (d % 2 = 1)))
theorem cmpN_cases (a b : Nat) : a < b ∧ cmpN a b = -1 ∨ a = b ∧ cmpN a b = 0 ∨ b < a ∧ cmpN a b = 1 := by
 unfold cmpN
 rcases Nat.lt_trichotomy a b with h | h | h
 ·
  exact .inl ⟨h, if_pos h⟩
 ·
  exact .inr (.inl ⟨h, by rw [if_neg (by omega), if_neg (by omega)]⟩)
 ·
  exact .inr (.inr ⟨h, by rw [if_neg (by omega), if_pos h]⟩)
theorem sh_inner (s b a : Nat) (ev : Bool) (l : List Int) (x : Int) (R : List Int × Int) (hs : 0 < s) (B : Nat) (hB : Few B) : ∀ (q r d : Nat), r / s = q → r ≤ B → d + q ≤ 200 →
  Runs (fun k => num_shortest.l1 k (L (r % s)) (L s) (L b) (L a) ev l ((d + q : Nat) : Int) x) R → Runs (fun k => num_shortest.l1 k (L r) (L s) (L b) (L a) ev l (d : Int) x) R := by
 intro q
 induction q with
 | zero =>
  intro r d hq hr hd h
  have hlt : r < s := by
   rcases Nat.lt_or_ge r s with c | c
   ·
    exact c
   ·
    have := Nat.div_pos c hs; omega
  rw [Nat.mod_eq_of_lt hlt] at h
  exact h
 | succ q ih =>
  intro r d hq hr hd h
  have hge : s ≤ r := by
   rcases Nat.lt_or_ge r s with c | c
   ·
    rw [Nat.div_eq_of_lt c] at hq; omega
   ·
    exact c
  refine Runs.suc ?_
  simp only [num_shortest.l1]
  refine Runs.bind (against_f r s (few_mono hr hB)) ?_
  refine Runs.yes (by rcases cmpN_cases r s with ⟨h1, h2⟩ | ⟨h1, h2⟩ | ⟨h1, h2⟩ <;> omega) (Runs.bind (less_f r s (few_mono hr hB) hge) ?_)
  rw [show ((d : Int) + 1) % 256 = ((d + 1 : Nat) : Int) by omega]
  have hq2 : (r - s) / s = q := by
   have e : r = r - s + s := by omega
   have := Nat.add_div_right (r - s) hs
   rw [← e] at this
   omega
  refine ih (r - s) (d + 1) hq2 (by omega) (by omega) ?_
  have hm : (r - s) % s = r % s := by
   have e : r = r - s + s := by omega
   conv => rhs; rw [e, Nat.add_mod_right]
  rw [hm, show d + 1 + q = d + (q + 1) by omega]
  exact h
theorem sh_test (r s b a : Nat) (d : Int) (ev : Bool) (l : List Int) (x : Int) (R : List Int × Int) (hr : r < s) (hF : Few (s + a))
  (h : Runs (fun k => num_shortest.j2 k (L r) (L s) (L b) (L a) ev l d (dnB r b ev) (upB r s a ev) x) R) : Runs (fun k => num_shortest.l1 k (L r) (L s) (L b) (L a) ev l d x) R := by
 have hfr : Few r := few_mono (by omega) hF
 have hfa : Few a := few_mono (by omega) hF
 have hfra : Few (r + a) := few_mono (by omega) hF
 refine Runs.suc ?_
 simp only [num_shortest.l1]
 refine Runs.bind (against_f r s hfr) ?_
 have e0 : cmpN r s = -1 := by unfold cmpN; rw [if_pos hr]
 refine Runs.no (by rw [e0]; decide) (Runs.bind (against_f r b hfr) (Runs.bind (plus_f r a hfr hfa) ?_))
 refine Runs.bind (against_f (r + a) s hfra) ?_
 have eu : ∀ z, cmpN (r + a) s = z → (z = -1 → upB r s a ev = false) ∧ (z = 0 → upB r s a ev = ev) ∧ (z = 1 → upB r s a ev = true) := by
  intro z hz
  unfold upB
  rcases cmpN_cases (r + a) s with ⟨h1, h2⟩ | ⟨h1, h2⟩ | ⟨h1, h2⟩
  ·
   rw [decide_eq_false (show ¬ s < r + a by omega), decide_eq_false (show ¬ s = r + a by omega)]
   refine ⟨fun _ => by simp, fun h => by omega, fun h => by omega⟩
  ·
   rw [decide_eq_false (show ¬ s < r + a by omega), decide_eq_true h1.symm]
   refine ⟨fun h => by omega, fun _ => by simp, fun h => by omega⟩
  ·
   rw [decide_eq_true h1]
   refine ⟨fun h => by omega, fun h => by omega, fun _ => by simp⟩
 have ed : ∀ z, cmpN r b = z → (z = -1 → dnB r b ev = true) ∧ (z = 0 → dnB r b ev = ev) ∧ (z = 1 → dnB r b ev = false) := by
  intro z hz
  unfold dnB
  rcases cmpN_cases r b with ⟨h1, h2⟩ | ⟨h1, h2⟩ | ⟨h1, h2⟩
  ·
   rw [decide_eq_true h1]
   refine ⟨fun _ => by simp, fun h => by omega, fun h => by omega⟩
  ·
   rw [decide_eq_false (show ¬ r < b by omega), decide_eq_true h1]
   refine ⟨fun h => by omega, fun _ => by simp, fun h => by omega⟩
  ·
   rw [decide_eq_false (show ¬ r < b by omega), decide_eq_false (show ¬ r = b by omega)]
   refine ⟨fun h => by omega, fun h => by omega, fun _ => by simp⟩
 have cu : cmpN (r + a) s = -1 ∨ cmpN (r + a) s = 0 ∨ cmpN (r + a) s = 1 := by rcases cmpN_cases (r + a) s with h | h | h <;> simp [h.2]
 have cd : cmpN r b = -1 ∨ cmpN r b = 0 ∨ cmpN r b = 1 := by rcases cmpN_cases r b with h | h | h <;> simp [h.2]
 have up3 : ∀ D : Bool, D = dnB r b ev → Runs (fun k => if cmpN (r + a) s > 0 then num_shortest.j2 k (L r) (L s) (L b) (L a) ev l d D true x else if cmpN (r + a) s = 0 then num_shortest.j2 k (L r) (L s) (L b) (L a) ev l d D ev x else num_shortest.j2 k (L r) (L s) (L b) (L a) ev l d D false x) R := by
  intro D hD
  rw [hD]
  rcases cu with hu | hu | hu
  ·
   refine Runs.no (by omega) (Runs.no (by omega) ?_)
   rw [← (eu _ hu).1 rfl]; exact h
  ·
   refine Runs.no (by omega) (Runs.yes hu ?_)
   rw [(eu _ hu).2.1 rfl] at h; exact h
  ·
   refine Runs.yes (by omega) ?_
   rw [← (eu _ hu).2.2 rfl]; exact h
 rcases cd with hd | hd | hd
 ·
  exact Runs.yes (by omega) (up3 true ((ed _ hd).1 rfl).symm)
 ·
  exact Runs.no (by omega) (Runs.yes hd (up3 ev ((ed _ hd).2.1 rfl).symm))
 ·
  exact Runs.no (by omega) (Runs.no (by omega) (up3 false ((ed _ hd).2.2 rfl).symm))
theorem sh_skip (r s b a : Nat) (ev down : Bool) (x : Int) (R : List Int × Int) (hx : -100000 ≤ x) (hx1 : x ≤ 100000) (h : Runs (fun k => num_shortest.l0 k (L r) (L s) (L b) (L a) ev [] (x - 1)) R) :
  Runs (fun k => num_shortest.j2 k (L r) (L s) (L b) (L a) ev [] 48 down false x) R := by
 refine Runs.suc ?_
 simp only [num_shortest.j2]
 refine Runs.yes rfl (Runs.yes trivial (Runs.suc ?_))
 simp only [num_shortest.j3]
 rw [w64 (by omega) (by omega)]
 exact Runs.yes rfl h
theorem sh_go (r s b a : Nat) (ev : Bool) (l : List Int) (d x : Int) (R : List Int × Int) (hl : l.length ≤ 100000) (hn : ¬ (l = [] ∧ d = 48)) (h : Runs (fun k => num_shortest.l0 k (L r) (L s) (L b) (L a) ev (l ++ [d]) x) R) :
  Runs (fun k => num_shortest.j2 k (L r) (L s) (L b) (L a) ev l d false false x) R := by
 have j3 : Runs (fun k => num_shortest.j3 k (L r) (L s) (L b) (L a) ev l d false false false x) R := by
  refine Runs.suc ?_
  simp only [num_shortest.j3]
  refine Runs.no Bool.false_ne_true (Runs.no Bool.false_ne_true (Runs.suc ?_))
  simp only [num_shortest.j4]
  exact Runs.yes rfl (Runs.yes (by omega) h)
 refine Runs.suc ?_
 simp only [num_shortest.j2]
 by_cases h1 : l.length = 0
 ·
  refine Runs.yes (by omega) (Runs.no (fun h2 => hn ⟨List.length_eq_zero_iff.1 h1, h2⟩) j3)
 ·
  exact Runs.no (by omega) j3
theorem sh_stop (r s b a d : Nat) (ev down up : Bool) (l : List Int) (x : Int) (hl : l.length ≤ 100000) (hd : d ≤ 200) (hr : Few (r * 2)) (hs : down = true ∨ up = true) (hn : ¬ (l = [] ∧ d = 48 ∧ up = false)) :
  Runs (fun k => num_shortest.j2 k (L r) (L s) (L b) (L a) ev l (d : Int) down up x) (l ++ [((d + (adjB r s d down up).toNat : Nat) : Int)], x) := by
 have j4 : Runs (fun k => num_shortest.j4 k (L r) (L s) (L b) (L a) ev l (d : Int) down up false x) (l ++ [((d + (adjB r s d down up).toNat : Nat) : Int)], x) := by
  refine Runs.suc ?_
  simp only [num_shortest.j4]
  have hr1 : Few r := few_mono (by omega) hr
  have e1 := up_f r 1 hr1 (by decide)
  rw [Nat.pow_one] at e1
  refine Runs.no Bool.false_ne_true (Runs.bind e1 (Runs.bind (against_f (r * 2) s hr) ?_))
  have hm : Int.tmod (d : Int) 2 = ((d % 2 : Nat) : Int) := by rw [Int.tmod_eq_emod_of_nonneg (by omega)]; omega
  rw [hm, show ((d : Int) + 1) % 256 = ((d + 1 : Nat) : Int) by omega]
  have plain : ∀ e : Bool, e = false → Runs (fun _ => if l.length < 140737488355328 then some (l ++ [(d : Int)], x) else none) (l ++ [((d + e.toNat : Nat) : Int)], x) := by
   intro e he
   rw [he]
   exact Runs.yes (by omega) (Runs.pure _)
  have more : ∀ e : Bool, e = true → Runs (fun _ => if l.length < 140737488355328 then some (l ++ [((d + 1 : Nat) : Int)], x) else none) (l ++ [((d + e.toNat : Nat) : Int)], x) := by
   intro e he
   rw [he]
   exact Runs.yes (by omega) (Runs.pure _)
  unfold adjB
  cases up with
  | false => exact Runs.no Bool.false_ne_true (plain _ (by simp))
  | true =>
   refine Runs.yes rfl ?_
   cases down with
   | false => exact Runs.no Bool.false_ne_true (more _ (by simp))
   | true =>
    refine Runs.yes rfl ?_
    rcases cmpN_cases (r * 2) s with ⟨h1, h2⟩ | ⟨h1, h2⟩ | ⟨h1, h2⟩
    ·
     refine Runs.no (by omega) (Runs.no (by omega) (plain _ ?_))
     rw [decide_eq_false (show ¬ s < 2 * r by omega), decide_eq_false (show ¬ s = 2 * r by omega)]; rfl
    ·
     refine Runs.no (by omega) (Runs.yes h2 ?_)
     rw [decide_eq_false (show ¬ s < 2 * r by omega), decide_eq_true (show s = 2 * r by omega)]
     by_cases h3 : d % 2 = 1
     ·
      rw [decide_eq_true h3]; exact Runs.yes (by omega) (more _ rfl)
     ·
      rw [decide_eq_false h3]; exact Runs.no (by omega) (plain _ rfl)
    ·
     refine Runs.yes (by omega) (more _ ?_)
     rw [decide_eq_true (show s < 2 * r by omega)]; rfl
 have j3 : Runs (fun k => num_shortest.j3 k (L r) (L s) (L b) (L a) ev l (d : Int) down up false x) (l ++ [((d + (adjB r s d down up).toNat : Nat) : Int)], x) := by
  refine Runs.suc ?_
  simp only [num_shortest.j3]
  refine Runs.no Bool.false_ne_true ?_
  cases down with
  | true => exact Runs.yes rfl j4
  | false =>
   have : up = true := by rcases hs with h | h; cases h; exact h
   rw [this] at j4 ⊢
   exact Runs.no Bool.false_ne_true j4
 refine Runs.suc ?_
 simp only [num_shortest.j2]
 by_cases h1 : l.length = 0
 ·
  refine Runs.yes (by omega) ?_
  by_cases h2 : d = 48
  ·
   have : up = true := by
    cases up with
    | true => rfl
    | false => exact absurd ⟨List.length_eq_zero_iff.1 h1, h2, rfl⟩ hn
   rw [this] at j3 ⊢
   exact Runs.yes (by omega) j3
  ·
   exact Runs.no (by omega) j3
 ·
  exact Runs.no (by omega) j3
def dg : Nat → Nat → Nat → Nat → List Nat
 | 0, _, _, _ => []
 | J + 1, r, s, e => if J = 0 then [r * 10 / s + e] else r * 10 / s :: dg J (r * 10 % s) s e
def ints (l : List Nat) : List Int := l.map (fun q => ((48 + q : Nat) : Int))
def rem (r s i : Nat) : Nat := r * 10 ^ i % s
theorem rem_succ (r s i : Nat) : rem (r * 10 % s) s i = rem r s (i + 1) := by
 unfold rem
 rw [Nat.mod_mul_mod, Nat.pow_succ]
 congr 1; grind
theorem quo_succ (r s i : Nat) (hs : 0 < s) (hi : 0 < i) : (r * 10 ^ (i + 1) / s) % 10 = ((r * 10 % s) * 10 ^ i / s) % 10 := by
 have h1 : r * 10 ^ (i + 1) = (r * 10 % s) * 10 ^ i + s * (r * 10 / s * 10 ^ i) := by
  have := Nat.mod_add_div (r * 10) s
  rw [Nat.pow_succ]
  generalize r * 10 % s = u at *
  generalize r * 10 / s = v at *
  have h2 : r * (10 ^ i * 10) = (r * 10) * 10 ^ i := by grind
  rw [h2, ← this]; grind
 rw [h1, Nat.add_mul_div_left _ _ hs]
 obtain ⟨j, rfl⟩ : ∃ j, i = j + 1 := ⟨i - 1, by omega⟩
 rw [Nat.pow_succ 10 j]
 generalize (r * 10 % s) * (10 ^ j * 10) / s = u
 generalize r * 10 / s = v
 have : v * (10 ^ j * 10) = 10 * (v * 10 ^ j) := by grind
 rw [this]; omega
def dn (r s b i : Nat) (ev : Bool) : Bool := dnB (rem r s i) (b * 10 ^ i) ev
def up (r s a i : Nat) (ev : Bool) : Bool := upB (rem r s i) s (a * 10 ^ i) ev
def adj (r s b a i : Nat) (ev : Bool) : Nat := (adjB (rem r s i) s (r * 10 ^ i / s) (dn r s b i ev) (up r s a i ev)).toNat
theorem dn_succ (r s b i : Nat) (ev : Bool) : dn (r * 10 % s) s (b * 10) i ev = dn r s b (i + 1) ev := by
 unfold dn; rw [rem_succ, Nat.pow_succ]; congr 1; grind
theorem up_succ (r s a i : Nat) (ev : Bool) : up (r * 10 % s) s (a * 10) i ev = up r s a (i + 1) ev := by
 unfold up; rw [rem_succ, Nat.pow_succ]; congr 1; grind
theorem adjB_par (r s d d' : Nat) (down up : Bool) (h : d % 2 = d' % 2) : adjB r s d down up = adjB r s d' down up := by
 unfold adjB; rw [h]
theorem adj_succ (r s b a i : Nat) (ev : Bool) (hs : 0 < s) (hi : 0 < i) : adj (r * 10 % s) s (b * 10) (a * 10) i ev = adj r s b a (i + 1) ev := by
 unfold adj
 rw [rem_succ, dn_succ, up_succ]
 congr 1
 refine adjB_par _ _ _ _ _ _ ?_
 have := quo_succ r s i hs hi
 omega
theorem sh_run (s : Nat) (ev : Bool) (x : Int) (hx : -100000 ≤ x) (hx1 : x ≤ 100000) (hs : 0 < s) : ∀ (J r b a : Nat) (l : List Int), 1 ≤ J → r < s → (∀ i, 1 ≤ i → i < J → dn r s b i ev = false ∧ up r s a i ev = false) → (dn r s b J ev = true ∨ up r s a J ev = true) →
  (l ≠ [] ∨ r * 10 / s ≠ 0 ∨ J = 1 ∧ up r s a 1 ev = true) → l.length + J ≤ 100000 → Few (s * 20 + b * 10 ^ J + a * 10 ^ J) →
  Runs (fun k => num_shortest.l0 k (L r) (L s) (L b) (L a) ev l x) (l ++ ints (dg J r s (adj r s b a J ev)), x) := by
 intro J
 induction J with
 | zero => intro r b a l h; omega
 | succ J ih =>
  intro r b a l _ hr hno hyes hfirst hl hF
  have hp : 1 ≤ 10 ^ J := Nat.pow_pos (by decide)
  have hpp : 10 ^ (J + 1) = 10 ^ J * 10 := Nat.pow_succ ..
  have hb : b * 10 ≤ b * 10 ^ (J + 1) := by rw [hpp]; exact Nat.mul_le_mul_left _ (by omega)
  have ha : a * 10 ≤ a * 10 ^ (J + 1) := by rw [hpp]; exact Nat.mul_le_mul_left _ (by omega)
  have hq : r * 10 / s ≤ 9 := by
   have : r * 10 / s < 10 := Nat.div_lt_of_lt_mul (by omega)
   omega
  have hml : r * 10 % s < s := Nat.mod_lt _ hs
  refine Runs.suc ?_
  simp only [num_shortest.l0]
  have t1 := tens_f r 1 (by rw [Nat.pow_one]; exact few_mono (by omega) hF) (by decide)
  have t2 := tens_f b 1 (by rw [Nat.pow_one]; exact few_mono (by omega) hF) (by decide)
  have t3 := tens_f a 1 (by rw [Nat.pow_one]; exact few_mono (by omega) hF) (by decide)
  rw [Nat.pow_one] at t1 t2 t3
  refine Runs.bind t1 (Runs.bind t2 (Runs.bind t3 ?_))
  refine sh_inner s (b * 10) (a * 10) ev l x _ hs (r * 10) (few_mono (by omega) hF) (r * 10 / s) (r * 10) 48 rfl (Nat.le_refl _) (by omega) ?_
  refine sh_test (r * 10 % s) s (b * 10) (a * 10) _ ev l x _ hml (few_mono (by omega) hF) ?_
  have e1 : dnB (r * 10 % s) (b * 10) ev = dn r s b 1 ev := by unfold dn rem; rw [Nat.pow_one]
  have e2 : upB (r * 10 % s) s (a * 10) ev = up r s a 1 ev := by unfold up rem; rw [Nat.pow_one]
  rw [e1, e2]
  rcases Nat.eq_zero_or_pos J with hJ | hJ
  ·
   subst hJ
   have e3 : dg 1 r s (adj r s b a 1 ev) = [r * 10 / s + adj r s b a 1 ev] := rfl
   rw [Nat.zero_add] at hyes ⊢
   rw [e3]
   have := sh_stop (r * 10 % s) s (b * 10) (a * 10) (48 + r * 10 / s) ev (dn r s b 1 ev) (up r s a 1 ev) l x (by omega) (by omega) (few_mono (by omega) hF) hyes (by
    rintro ⟨g1, g2, g3⟩
    rcases hfirst with h | h | ⟨_, h⟩
    ·
     exact h g1
    ·
     omega
    ·
     rw [g3] at h; cases h)
   refine this.of ?_
   have e4 : adjB (r * 10 % s) s (48 + r * 10 / s) (dn r s b 1 ev) (up r s a 1 ev) = adjB (rem r s 1) s (r * 10 ^ 1 / s) (dn r s b 1 ev) (up r s a 1 ev) := by
    unfold rem
    rw [Nat.pow_one]
    exact adjB_par _ _ _ _ _ _ (by omega)
   rw [e4]
   unfold adj ints
   rw [List.map_singleton, Nat.add_assoc]
  ·
   obtain ⟨n1, n2⟩ := hno 1 (by omega) (by omega)
   rw [n1, n2]
   refine sh_go _ _ _ _ _ _ _ _ _ (by omega) ?_ ?_
   ·
    rintro ⟨g1, g2⟩
    rcases hfirst with h | h | ⟨h, _⟩
    ·
     exact h g1
    ·
     omega
    ·
     omega
   ·
    have ih := ih (r * 10 % s) (b * 10) (a * 10) (l ++ [((48 + r * 10 / s : Nat) : Int)]) (by omega) hml (fun i h1 h2 => by
     rw [dn_succ, up_succ]; exact hno (i + 1) (by omega) (by omega)) (by rw [dn_succ, up_succ]; exact hyes) (.inl (by simp)) (by rw [List.length_append, List.length_singleton]; omega) (by
      refine few_mono ?_ hF
      rw [hpp]
      have e5 : b * 10 * 10 ^ J = b * (10 ^ J * 10) := by grind
      have e6 : a * 10 * 10 ^ J = a * (10 ^ J * 10) := by grind
      omega)
    rw [adj_succ r s b a J ev hs hJ] at ih
    refine ih.of ?_
    have e7 : dg (J + 1) r s (adj r s b a (J + 1) ev) = r * 10 / s :: dg J (r * 10 % s) s (adj r s b a (J + 1) ev) := by
     rw [dg, if_neg (by omega)]
    rw [e7]
    unfold ints
    rw [List.map_cons, List.append_assoc]
    rfl
end Go.Proofs.YtjlnfnfdibfniaaDoor.Pl
namespace Go.Proofs.YtjlnfnfdibfniaaDoor.Pl
open Ieee
def rungVal (r : Nat) : Nat := if r < 2 ^ 52 then r else (2 ^ 52 + r % 2 ^ 52) * 2 ^ (r / 2 ^ 52 - 1)
theorem rungVal_succ (r : Nat) : rungVal r < rungVal (r + 1) := by
 unfold rungVal
 by_cases h1 : r + 1 < 2 ^ 52
 ·
  rw [if_pos h1, if_pos (by omega)]; omega
 ·
  rw [if_neg h1]
  by_cases h2 : r < 2 ^ 52
  ·
   rw [if_pos h2]
   have : r + 1 = 2 ^ 52 := by omega
   rw [this]; omega
  ·
   rw [if_neg h2]
   obtain ⟨q, hq⟩ : ∃ q, q = r / 2 ^ 52 := ⟨_, rfl⟩
   obtain ⟨s, hs⟩ : ∃ s, s = r % 2 ^ 52 := ⟨_, rfl⟩
   have hd : r = 2 ^ 52 * q + s := by rw [hq, hs]; exact (Nat.div_add_mod r (2 ^ 52)).symm
   have hs' : s < 2 ^ 52 := by rw [hs]; exact Nat.mod_lt _ (by decide)
   have hq' : 1 ≤ q := by omega
   rw [← hq, ← hs]
   by_cases h3 : s + 1 < 2 ^ 52
   ·
    have e1 : (r + 1) / 2 ^ 52 = q := by omega
    have e2 : (r + 1) % 2 ^ 52 = s + 1 := by omega
    rw [e1, e2]
    exact Nat.mul_lt_mul_of_pos_right (by omega) (Nat.two_pow_pos _)
   ·
    have e1 : (r + 1) / 2 ^ 52 = q + 1 := by omega
    have e2 : (r + 1) % 2 ^ 52 = 0 := by omega
    rw [e1, e2]
    have e3 : q + 1 - 1 = (q - 1) + 1 := by omega
    rw [e3, Nat.pow_succ]
    have hp := Nat.two_pow_pos (q - 1)
    calc (2 ^ 52 + s) * 2 ^ (q - 1) < (2 ^ 52 * 2) * 2 ^ (q - 1) := Nat.mul_lt_mul_of_pos_right (by omega) hp
     _ = (2 ^ 52 + 0) * (2 ^ (q - 1) * 2) := by rw [Nat.add_zero, Nat.mul_assoc, Nat.mul_comm 2]
theorem rungVal_lt {r t : Nat} (h : r < t) : rungVal r < rungVal t := by
 induction h with
 | refl => exact rungVal_succ r
 | step _ ih => exact Nat.lt_trans ih (rungVal_succ _)
theorem rungVal_lt_iff {r t : Nat} : rungVal r < rungVal t ↔ r < t := by
 constructor
 ·
  intro h
  rcases Nat.lt_trichotomy r t with h1 | h1 | h1
  ·
   exact h1
  ·
   subst h1; omega
  ·
   have := rungVal_lt h1; omega
 ·
  exact rungVal_lt
def srung (x : Nat) : Int := if x / 2 ^ 63 % 2 == 1 then -((x % 2 ^ 63 : Nat) : Int) else ((x % 2 ^ 63 : Nat) : Int)
def isNum (x : Nat) : Prop := x % 2 ^ 63 ≤ 2047 * 2 ^ 52
theorem weight : double.signWeight = 2 ^ 63 := rfl
theorem infR : double.infRung = 2047 * 2 ^ 52 := rfl
theorem bin : double.binade = 2 ^ 52 := rfl
theorem read_nan {y : Nat} (h : ¬ isNum y) : double.read y = .nan (y / 2 ^ 63 % 2 == 1) (y % 2 ^ 63 - 2047 * 2 ^ 52) := by
 unfold isNum at h
 have h1 : ¬ y % double.signWeight < double.binade := by rw [weight, bin]; omega
 have h2 : ¬ y % double.signWeight < double.infRung := by rw [weight, infR]; omega
 have h3 : ¬ y % double.signWeight = double.infRung := by rw [weight, infR]; omega
 unfold Format.read
 simp only []
 rw [if_neg h1, if_neg h2, if_neg h3, weight, infR]
theorem order_nan_left {x y : Nat} (h : ¬ isNum x) : double.order x y = none := by
 unfold Format.order
 rw [read_nan h]
 rfl
theorem order_nan_right {x y : Nat} (h : ¬ isNum y) : double.order x y = none := by
 unfold Format.order
 rw [read_nan h]
 cases double.read x <;> rfl
theorem read_num {x : Nat} (h : x % 2 ^ 63 < 2047 * 2 ^ 52) : ∃ m e : Nat, double.read x = .number (x / 2 ^ 63 % 2 == 1) m (double.leastPlace + (e : Int)) ∧ m * 2 ^ e = rungVal (x % 2 ^ 63) := by
 unfold rungVal
 by_cases h1 : x % 2 ^ 63 < 2 ^ 52
 ·
  have g1 : x % double.signWeight < double.binade := by rw [weight, bin]; exact h1
  refine ⟨x % 2 ^ 63, 0, ?_, by rw [if_pos h1]; omega⟩
  unfold Format.read
  simp only []
  rw [if_pos g1, weight, Int.natCast_zero, Int.add_zero]
 ·
  have g1 : ¬ x % double.signWeight < double.binade := by rw [weight, bin]; exact h1
  have g2 : x % double.signWeight < double.infRung := by rw [weight, infR]; exact h
  refine ⟨2 ^ 52 + x % 2 ^ 63 % 2 ^ 52, x % 2 ^ 63 / 2 ^ 52 - 1, ?_, by rw [if_neg h1]⟩
  unfold Format.read
  simp only []
  rw [if_neg g1, if_pos g2, weight, bin]
theorem read_inf {x : Nat} (h : x % 2 ^ 63 = 2047 * 2 ^ 52) : double.read x = .infinity (x / 2 ^ 63 % 2 == 1) := by
 have h1 : ¬ x % double.signWeight < double.binade := by rw [weight, bin]; omega
 have h2 : ¬ x % double.signWeight < double.infRung := by rw [weight, infR]; omega
 have h3 : x % double.signWeight = double.infRung := by rw [weight, infR]; omega
 unfold Format.read
 simp only []
 rw [if_neg h1, if_neg h2, if_pos h3, weight]
theorem compare_congr {a b c d : Int} (h1 : a < b ↔ c < d) (h2 : b < a ↔ d < c) : compare a b = compare c d := by
 simp only [compare, compareOfLessAndEq]
 by_cases e1 : a < b
 ·
  rw [if_pos e1, if_pos (h1.1 e1)]
 ·
  rw [if_neg e1, if_neg (fun h => e1 (h1.2 h))]
  by_cases e2 : b < a
  ·
   rw [if_neg (show ¬ a = b by omega), if_neg (show ¬ c = d by have := h2.1 e2; omega)]
  ·
   have h3 : ¬ d < c := fun h => e2 (h2.2 h)
   have h4 : ¬ c < d := fun h => e1 (h1.2 h)
   rw [if_pos (show a = b by omega), if_pos (show c = d by omega)]
theorem cmp_lt {a b : Int} (h : a < b) : compare a b = .lt := by simp only [compare, compareOfLessAndEq]; rw [if_pos h]
theorem cmp_gt {a b : Int} (h : b < a) : compare a b = .gt := by simp only [compare, compareOfLessAndEq]; rw [if_neg (by omega), if_neg (by omega)]
theorem cmp_eq {a b : Int} (h : a = b) : compare a b = .eq := by simp only [compare, compareOfLessAndEq]; rw [if_neg (by omega), if_pos h]
theorem cmp_lt_iff {a b : Int} : compare a b = .lt ↔ a < b := by
 rcases Int.lt_trichotomy a b with h | h | h
 ·
  simp [cmp_lt h, h]
 ·
  simp only [cmp_eq h]; constructor <;> intro h' <;> first | cases h' | omega
 ·
  simp only [cmp_gt h]; constructor <;> intro h' <;> first | cases h' | omega
theorem cmp_gt_iff {a b : Int} : compare a b = .gt ↔ b < a := by
 rcases Int.lt_trichotomy a b with h | h | h
 ·
  simp only [cmp_lt h]; constructor <;> intro h' <;> first | cases h' | omega
 ·
  simp only [cmp_eq h]; constructor <;> intro h' <;> first | cases h' | omega
 ·
  simp [cmp_gt h, h]
theorem cmp_eq_iff {a b : Int} : compare a b = .eq ↔ a = b := by
 rcases Int.lt_trichotomy a b with h | h | h
 ·
  rw [cmp_lt h]; exact ⟨(fun h' => nomatch h'), (fun h' => by omega)⟩
 ·
  rw [cmp_eq h]; exact ⟨fun _ => h, fun _ => rfl⟩
 ·
  rw [cmp_gt h]; exact ⟨(fun h' => nomatch h'), (fun h' => by omega)⟩
def sg (s : Bool) (v : Nat) : Int := if s then -(v : Int) else (v : Int)
theorem sg_scale (s t : Bool) (a b p : Nat) (hp : 0 < p) : (sg s a < sg t b ↔ sg s (a * p) < sg t (b * p)) := by
 have k1 : ∀ a b : Nat, a < b ↔ a * p < b * p := fun a b => (Nat.mul_lt_mul_right hp).symm
 have h1 := k1 a b
 have h2 := k1 b a
 have h3 := k1 0 a
 have h4 := k1 0 b
 rw [Nat.zero_mul] at h3 h4
 generalize a * p = a' at *
 generalize b * p = b' at *
 cases s <;> cases t <;> simp only [sg] <;> simp <;> omega
theorem sg_mono (s t : Bool) {r u : Nat} : (sg s (rungVal r) < sg t (rungVal u) ↔ sg s r < sg t u) := by
 have h1 := @rungVal_lt_iff r u
 have h2 := @rungVal_lt_iff u r
 have h3 := @rungVal_lt_iff 0 r
 have h4 := @rungVal_lt_iff 0 u
 have h0 : rungVal 0 = 0 := rfl
 rw [h0] at h3 h4
 generalize rungVal r = r' at *
 generalize rungVal u = u' at *
 cases s <;> cases t <;> simp only [sg] <;> simp <;> omega
theorem srung_eq (x : Nat) : srung x = sg (x / 2 ^ 63 % 2 == 1) (x % 2 ^ 63) := rfl
theorem signed_eq (s : Bool) (m u : Nat) : signed s m u = sg s (m * 2 ^ u) := by
 unfold signed sg
 rw [Nat.shiftLeft_eq]
theorem order_eq {x y : Nat} (hx : isNum x) (hy : isNum y) : double.order x y = some (compare (srung x) (srung y)) := by
 unfold isNum at hx hy
 unfold Format.order
 rw [srung_eq, srung_eq]
 by_cases ix : x % 2 ^ 63 = 2047 * 2 ^ 52
 ·
  rw [read_inf ix]
  by_cases iy : y % 2 ^ 63 = 2047 * 2 ^ 52
  ·
   rw [read_inf iy, ix, iy]
   cases (x / 2 ^ 63 % 2 == 1) <;> cases (y / 2 ^ 63 % 2 == 1) <;> rfl
  ·
   obtain ⟨m, e, hr, _⟩ := read_num (x := y) (by omega)
   rw [hr, ix]
   have hlt : y % 2 ^ 63 < 2047 * 2 ^ 52 := by omega
   generalize y % 2 ^ 63 = v at hlt
   cases (x / 2 ^ 63 % 2 == 1) <;> cases (y / 2 ^ 63 % 2 == 1) <;> first | exact congrArg some (cmp_lt (by simp only [sg]; simp; omega)).symm | exact congrArg some (cmp_gt (by simp only [sg]; simp; omega)).symm
 ·
  by_cases iy : y % 2 ^ 63 = 2047 * 2 ^ 52
  ·
   obtain ⟨m, e, hr, _⟩ := read_num (x := x) (by omega)
   rw [hr, read_inf iy, iy]
   have hlt : x % 2 ^ 63 < 2047 * 2 ^ 52 := by omega
   generalize x % 2 ^ 63 = v at hlt
   cases (x / 2 ^ 63 % 2 == 1) <;> cases (y / 2 ^ 63 % 2 == 1) <;> first | exact congrArg some (cmp_lt (by simp only [sg]; simp; omega)).symm | exact congrArg some (cmp_gt (by simp only [sg]; simp; omega)).symm
  ·
   obtain ⟨m, e, hr, hm⟩ := read_num (x := x) (by omega)
   obtain ⟨n, q, hs, hn⟩ := read_num (x := y) (by omega)
   rw [hr, hs]
   simp only [Datum.order]
   rw [signed_eq, signed_eq]
   refine congrArg some (compare_congr ?_ ?_)
   ·
    rw [← sg_mono (r := x % 2 ^ 63) (u := y % 2 ^ 63), ← hm, ← hn]
    rcases Nat.le_total e q with h | h
    ·
     have e1 : min (double.leastPlace + (e : Int)) (double.leastPlace + (q : Int)) = double.leastPlace + e := by omega
     rw [e1]
     have e2 : (double.leastPlace + (e : Int) - (double.leastPlace + e)).toNat = 0 := by omega
     have e3 : (double.leastPlace + (q : Int) - (double.leastPlace + e)).toNat = q - e := by omega
     rw [e2, e3]
     have hq : q = (q - e) + e := by omega
     rw [sg_scale _ _ _ _ (2 ^ e) (Nat.two_pow_pos _)]
     rw [Nat.mul_assoc, Nat.mul_assoc, ← Nat.pow_add, ← Nat.pow_add, Nat.zero_add, ← hq]
    ·
     have e1 : min (double.leastPlace + (e : Int)) (double.leastPlace + (q : Int)) = double.leastPlace + q := by omega
     rw [e1]
     have e2 : (double.leastPlace + (e : Int) - (double.leastPlace + q)).toNat = e - q := by omega
     have e3 : (double.leastPlace + (q : Int) - (double.leastPlace + q)).toNat = 0 := by omega
     rw [e2, e3]
     have hq : e = (e - q) + q := by omega
     rw [sg_scale _ _ _ _ (2 ^ q) (Nat.two_pow_pos _)]
     rw [Nat.mul_assoc, Nat.mul_assoc, ← Nat.pow_add, ← Nat.pow_add, Nat.zero_add, ← hq]
   ·
    rw [← sg_mono (r := y % 2 ^ 63) (u := x % 2 ^ 63), ← hm, ← hn]
    rcases Nat.le_total e q with h | h
    ·
     have e1 : min (double.leastPlace + (e : Int)) (double.leastPlace + (q : Int)) = double.leastPlace + e := by omega
     rw [e1]
     have e2 : (double.leastPlace + (e : Int) - (double.leastPlace + e)).toNat = 0 := by omega
     have e3 : (double.leastPlace + (q : Int) - (double.leastPlace + e)).toNat = q - e := by omega
     rw [e2, e3]
     have hq : q = (q - e) + e := by omega
     rw [sg_scale _ _ _ _ (2 ^ e) (Nat.two_pow_pos _)]
     rw [Nat.mul_assoc, Nat.mul_assoc, ← Nat.pow_add, ← Nat.pow_add, Nat.zero_add, ← hq]
    ·
     have e1 : min (double.leastPlace + (e : Int)) (double.leastPlace + (q : Int)) = double.leastPlace + q := by omega
     rw [e1]
     have e2 : (double.leastPlace + (e : Int) - (double.leastPlace + q)).toNat = e - q := by omega
     have e3 : (double.leastPlace + (q : Int) - (double.leastPlace + q)).toNat = 0 := by omega
     rw [e2, e3]
     have hq : e = (e - q) + q := by omega
     rw [sg_scale _ _ _ _ (2 ^ q) (Nat.two_pow_pos _)]
     rw [Nat.mul_assoc, Nat.mul_assoc, ← Nat.pow_add, ← Nat.pow_add, Nat.zero_add, ← hq]
theorem order_iff {x y : Nat} (c : Ordering) : (FloatKind.f64.format.order x y == some c) = true ↔ isNum x ∧ isNum y ∧ compare (srung x) (srung y) = c := by
 show (double.order x y == some c) = true ↔ _
 by_cases hx : isNum x
 ·
  by_cases hy : isNum y
  ·
   rw [order_eq hx hy]; simp [hx, hy]
  ·
   rw [order_nan_right hy]; simp [hy]
 ·
  rw [order_nan_left hx]; simp [hx]
theorem eq_iff {x y : Nat} : (FloatKind.f64.format.order x y == some Ordering.eq) = true ↔ isNum x ∧ isNum y ∧ srung x = srung y := by rw [order_iff, cmp_eq_iff]
theorem lt_iff {x y : Nat} : (FloatKind.f64.format.order x y == some Ordering.lt) = true ↔ isNum x ∧ isNum y ∧ srung x < srung y := by rw [order_iff, cmp_lt_iff]
theorem gt_iff {x y : Nat} : (FloatKind.f64.format.order x y == some Ordering.gt) = true ↔ isNum x ∧ isNum y ∧ srung y < srung x := by rw [order_iff, cmp_gt_iff]
end Go.Proofs.YtjlnfnfdibfniaaDoor.Pl
namespace Go.Proofs.YtjlnfnfdibfniaaDoor.Pl
def INF : Nat := 9218868437227405312
def mid (K : Nat) : Nat := rungVal K + rungVal (K + 1)
structure IsNear (N D K : Nat) : Prop where
 le : K ≤ INF
 lo : 0 < K → mid (K - 1) * D < 2 * N ∨ mid (K - 1) * D = 2 * N ∧ K % 2 = 0
 hi : K < INF → 2 * N < mid K * D ∨ 2 * N = mid K * D ∧ K % 2 = 0
theorem mid_lt {a b : Nat} (h : a < b) : mid a < mid b := by
 unfold mid
 have := rungVal_lt h
 have := rungVal_lt (show a + 1 < b + 1 by omega)
 omega
theorem mid_le {a b : Nat} (h : a ≤ b) : mid a ≤ mid b := by
 rcases Nat.lt_or_ge a b with h1 | h1
 ·
  exact Nat.le_of_lt (mid_lt h1)
 ·
  rw [show a = b by omega]; exact Nat.le_refl _
theorem IsNear.mono {N D N' D' K K' : Nat} (hD : 0 < D) (hD' : 0 < D') (h : IsNear N D K) (h' : IsNear N' D' K') (hle : N * D' ≤ N' * D) : K ≤ K' := by
 rcases Nat.lt_or_ge K' K with hlt | hge
 ·
  exfalso
  have h1 := h.lo (by omega)
  have h2 := h'.hi (by have := h.le; omega)
  have h3 : mid (K - 1) * D ≤ 2 * N := by omega
  have h4 : 2 * N' ≤ mid K' * D' := by omega
  have h5 : mid K' ≤ mid (K - 1) := mid_le (by omega)
  have a1 : mid (K - 1) * D * D' ≤ 2 * N * D' := Nat.mul_le_mul_right _ h3
  have a2 : 2 * N' * D ≤ mid K' * D' * D := Nat.mul_le_mul_right _ h4
  have a3 : mid K' * (D * D') ≤ mid (K - 1) * (D * D') := Nat.mul_le_mul_right _ h5
  have hp : 0 < D * D' := Nat.mul_pos hD hD'
  have e1 : mid (K - 1) * D * D' = mid (K - 1) * (D * D') := Nat.mul_assoc ..
  have e2 : mid K' * D' * D = mid K' * (D * D') := by rw [Nat.mul_assoc, Nat.mul_comm D']
  have e3 : 2 * N * D' = 2 * (N * D') := Nat.mul_assoc ..
  have e4 : 2 * N' * D = 2 * (N' * D) := Nat.mul_assoc ..
  have h6 : mid K' * (D * D') = mid (K - 1) * (D * D') := by omega
  have h7 : mid K' = mid (K - 1) := Nat.eq_of_mul_eq_mul_right hp h6
  have h8 : K' = K - 1 := by
   rcases Nat.lt_trichotomy K' (K - 1) with c | c | c
   ·
    have := mid_lt c; omega
   ·
    exact c
   ·
    omega
  have b1 : ¬ mid (K - 1) * D < 2 * N := by
   intro c
   have := (Nat.mul_lt_mul_right hD').2 c
   omega
  have b2 : ¬ 2 * N' < mid K' * D' := by
   intro c
   have := (Nat.mul_lt_mul_right hD).2 c
   omega
  rcases h1 with c | ⟨_, c⟩
  ·
   exact b1 c
  ·
   rcases h2 with g | ⟨_, g⟩
   ·
    exact b2 g
   ·
    omega
 ·
  exact hge
theorem IsNear.unique {N D N' D' K K' : Nat} (hD : 0 < D) (hD' : 0 < D') (h : IsNear N D K) (h' : IsNear N' D' K') (he : N * D' = N' * D) : K = K' :=
 Nat.le_antisymm (h.mono hD hD' h' (Nat.le_of_eq he)) (h'.mono hD' hD h (Nat.le_of_eq he.symm))
theorem near_of {N D K r : Nat} (h0 : rungVal K * D ≤ N) (h1 : N < rungVal (K + 1) * D) (hr : r = 0 ∧ (2 * N < mid K * D ∨ 2 * N = mid K * D ∧ K % 2 = 0) ∨ r = 1 ∧ (mid K * D < 2 * N ∨ mid K * D = 2 * N ∧ K % 2 = 1)) :
  IsNear N D (min (K + r) INF) := by
 have hD : 0 < D := by
  rcases Nat.eq_zero_or_pos D with h | h
  ·
   rw [h] at h1; omega
  ·
   exact h
 have low : ∀ J, 0 < J → J ≤ K → mid (J - 1) * D < 2 * N := by
  intro J hJ hJK
  have h2 : mid (J - 1) < 2 * rungVal K := by
   unfold mid
   have a := rungVal_lt (show J - 1 < J by omega)
   have b : rungVal J ≤ rungVal K := by
    rcases Nat.lt_or_ge J K with c | c
    ·
     exact Nat.le_of_lt (rungVal_lt c)
    ·
     rw [show J = K by omega]; exact Nat.le_refl _
   rw [show J - 1 + 1 = J by omega]; omega
  have h3 := (Nat.mul_lt_mul_right hD).2 h2
  rw [Nat.mul_assoc] at h3
  omega
 rcases hr with ⟨rfl, hr⟩ | ⟨rfl, hr⟩
 ·
  rcases Nat.lt_or_ge INF K with c | c
  ·
   rw [Nat.min_eq_right (by omega)]
   exact ⟨Nat.le_refl _, fun h => .inl (low INF h (by omega)), fun h => by omega⟩
  ·
   rw [Nat.min_eq_left (by omega)]
   exact ⟨by omega, fun h => .inl (low (K + 0) h (by omega)), fun _ => hr⟩
 ·
  rcases Nat.lt_or_ge K INF with c | c
  ·
   rw [Nat.min_eq_left (by omega)]
   refine ⟨by omega, fun _ => ?_, fun _ => .inl ?_⟩
   ·
    rw [Nat.add_sub_cancel]
    rcases hr with g | ⟨g, g'⟩
    ·
     exact .inl g
    ·
     exact .inr ⟨g, by omega⟩
   ·
    have h2 : 2 * rungVal (K + 1) < mid (K + 1) := by
     unfold mid
     have := rungVal_succ (K + 1)
     omega
    have h3 := (Nat.mul_lt_mul_right hD).2 h2
    rw [Nat.mul_assoc] at h3
    omega
  ·
   rw [Nat.min_eq_right (by omega)]
   exact ⟨Nat.le_refl _, fun h => .inl (low INF h c), fun h => by omega⟩
theorem rung_of {m E : Nat} (h : E = 0 ∨ 4503599627370496 ≤ m) (hm : m < 9007199254740992) : rungVal (E * 4503599627370496 + m) = m * 2 ^ E := by
 have e52 : (2 : Nat) ^ 52 = 4503599627370496 := by decide
 unfold rungVal
 rw [e52]
 by_cases h1 : m < 4503599627370496
 ·
  have : E = 0 := by omega
  subst this
  rw [if_pos (by omega)]; simp
 ·
  rw [if_neg (by omega)]
  have e1 : (E * 4503599627370496 + m) / 4503599627370496 - 1 = E := by omega
  have e2 : 4503599627370496 + (E * 4503599627370496 + m) % 4503599627370496 = m := by omega
  rw [e1, e2]
theorem rung_next {m E : Nat} (h : E = 0 ∨ 4503599627370496 ≤ m) (hm : m < 9007199254740992) : rungVal (E * 4503599627370496 + m + 1) = (m + 1) * 2 ^ E := by
 by_cases h1 : m + 1 < 9007199254740992
 ·
  have := rung_of (m := m + 1) (E := E) (by omega) h1
  rw [Nat.add_assoc]; exact this
 ·
  have : m + 1 = 9007199254740992 := by omega
  have h2 := rung_of (m := 4503599627370496) (E := E + 1) (by omega) (by omega)
  rw [show E * 4503599627370496 + m + 1 = (E + 1) * 4503599627370496 + 4503599627370496 by omega, h2, this, Nat.pow_succ]
  omega
def DecNear (dig : Nat) (x : Int) (K : Nat) : Prop := IsNear (dig * 10 ^ x.toNat * 2 ^ 1074) (10 ^ (-x).toNat) K
theorem DecNear.unique {dig : Nat} {x : Int} {K K' : Nat} (h : DecNear dig x K) (h' : DecNear dig x K') : K = K' :=
 IsNear.unique (Nat.pow_pos (by decide)) (Nat.pow_pos (by decide)) h h' rfl
theorem pow_join {a b c : Nat} (h : a + b = c) : 2 ^ c = 2 ^ a * 2 ^ b := by rw [← h, Nat.pow_add]
theorem mid_zero : mid 0 = 1 := by decide
theorem near_zero {N D : Nat} (h : 2 * N < D) : IsNear N D 0 := ⟨by decide, fun h => by omega, fun _ => .inl (by rw [mid_zero]; omega)⟩
theorem near_none {D : Nat} (h : 0 < D) : IsNear 0 D 0 := near_zero (by omega)
theorem pow_two {a b c d : Nat} (h : a + b = c + d) : 2 ^ a * 2 ^ b = 2 ^ c * 2 ^ d := by rw [← Nat.pow_add, ← Nat.pow_add, h]
theorem rung_inf : rungVal INF = 2 ^ 1024 * 2 ^ 1074 := by
 have := rung_of (m := 4503599627370496) (E := 2046) (by omega) (by omega)
 rw [show INF = 2046 * 4503599627370496 + 4503599627370496 by decide, this, show (4503599627370496 : Nat) = 2 ^ 52 by decide]
 exact pow_two (a := 52) (b := 2046) (c := 1024) (d := 1074) rfl
theorem near_inf {N D C : Nat} (e : rungVal INF = C) (hD : 0 < D) (h : C * D ≤ N) : IsNear N D INF := by
 refine ⟨Nat.le_refl _, fun _ => .inl ?_, fun h => by omega⟩
 have h1 : mid (INF - 1) < 2 * C := by
  rw [← e]
  unfold mid
  have := rungVal_succ (INF - 1)
  have e2 : INF - 1 + 1 = INF := by decide
  rw [e2] at this ⊢
  omega
 have h2 := (Nat.mul_lt_mul_right hD).2 h1
 rw [Nat.mul_assoc] at h2
 omega
theorem zero_aux {dig A B P T : Nat} (h3 : 2 * T ≤ B) (hT : 0 < T) (hd : dig < P) (h2 : P * B ≤ A) : 2 * (dig * T) < A := by
 have h4 : dig * (2 * T) ≤ dig * B := Nat.mul_le_mul_left _ h3
 have h5 : dig * B < P * B := Nat.mul_lt_mul_of_pos_right hd (by omega)
 rw [← Nat.mul_assoc, Nat.mul_comm dig 2, Nat.mul_assoc] at h4
 omega
theorem inf_aux {dig X A B P T V C : Nat} (h3 : V ≤ B) (h2 : B * A ≤ P * X) (hd : P ≤ dig) (hC : C = V * T) : C * A ≤ dig * X * T := by
 have h4 : P * X ≤ dig * X := Nat.mul_le_mul_right _ hd
 have h5 : V * A ≤ B * A := Nat.mul_le_mul_right _ h3
 have h7 := Nat.mul_le_mul_right T (Nat.le_trans h5 (Nat.le_trans h2 h4))
 refine Nat.le_trans (Nat.le_of_eq ?_) h7
 rw [hC, Nat.mul_assoc, Nat.mul_assoc, Nat.mul_comm T A]
theorem none_aux (A T : Nat) : 0 * A * T = 0 := by rw [Nat.zero_mul, Nat.zero_mul]
theorem dec_zero_small {dig n : Nat} {x : Int} (hd : dig < 10 ^ n) (h : (n : Int) + x ≤ -330) : DecNear dig x 0 := by
 unfold DecNear
 have hx : x.toNat = 0 := by omega
 rw [hx, Nat.pow_zero, Nat.mul_one]
 refine near_zero ?_
 have h1 : n + 330 ≤ (-x).toNat := by omega
 have h2 : (10 : Nat) ^ (n + 330) ≤ 10 ^ (-x).toNat := Nat.pow_le_pow_right (by decide) h1
 rw [Nat.pow_add] at h2
 exact zero_aux (by decide +kernel) (Nat.two_pow_pos 1074) hd h2
theorem dec_inf_great {dig n : Nat} {x : Int} (hd : 10 ^ n ≤ dig) (h : 309 ≤ (n : Int) + x) : DecNear dig x INF := by
 unfold DecNear
 have h1 : 309 + (-x).toNat ≤ n + x.toNat := by omega
 have h2 : (10 : Nat) ^ (309 + (-x).toNat) ≤ 10 ^ (n + x.toNat) := Nat.pow_le_pow_right (by decide) h1
 rw [Nat.pow_add, Nat.pow_add] at h2
 have h3 : 2 ^ 1024 ≤ 10 ^ 309 := by decide +kernel
 have hr := rung_inf
 generalize 2 ^ 1024 = V at *
 generalize 2 ^ 1074 = T at *
 exact near_inf hr (Nat.pow_pos (by decide)) (inf_aux h3 h2 hd rfl)
end Go.Proofs.YtjlnfnfdibfniaaDoor.Pl
namespace Go.Proofs.YtjlnfnfdibfniaaDoor.Pl
structure Sc (T K p q r s b a : Nat) : Prop where
 hT : 0 < T
 hs : 0 < s
 ha : 0 < a
 hb : 0 < b
 hbr : b < r
 hv : r * 10 ^ q * T = rungVal K * 10 ^ p * s
 hu : 2 * (r + a) * 10 ^ q * T = mid K * 10 ^ p * s
 hl : mid (K - 1) * 10 ^ p * s + 2 * b * 10 ^ q * T = 2 * r * 10 ^ q * T
theorem Sc.more {T K p q r s b a : Nat} (h : Sc T K p q r s b a) : Sc T K p (q + 1) r (s * 10) b a := by
 obtain ⟨h1, h2, h3, h4, h5, h6, h7, h8⟩ := h
 refine ⟨h1, by omega, h3, h4, h5, ?_, ?_, ?_⟩
 ·
  rw [Nat.pow_succ]; generalize 10 ^ q = Q at *; generalize 10 ^ p = P at *; grind
 ·
  rw [Nat.pow_succ]; generalize 10 ^ q = Q at *; generalize 10 ^ p = P at *; grind
 ·
  rw [Nat.pow_succ]; generalize 10 ^ q = Q at *; generalize 10 ^ p = P at *; grind
theorem Sc.less {T K p q r s b a : Nat} (h : Sc T K p q r s b a) : Sc T K (p + 1) q (r * 10) s (b * 10) (a * 10) := by
 obtain ⟨h1, h2, h3, h4, h5, h6, h7, h8⟩ := h
 refine ⟨h1, h2, by omega, by omega, by omega, ?_, ?_, ?_⟩
 ·
  rw [Nat.pow_succ]; generalize 10 ^ q = Q at *; generalize 10 ^ p = P at *; grind
 ·
  rw [Nat.pow_succ]; generalize 10 ^ q = Q at *; generalize 10 ^ p = P at *; grind
 ·
  rw [Nat.pow_succ]; generalize 10 ^ q = Q at *; generalize 10 ^ p = P at *; grind
theorem mul_lt_iff {a b c : Nat} (hc : 0 < c) : a * c < b * c ↔ a < b := ⟨fun h => Nat.lt_of_mul_lt_mul_right h, fun h => Nat.mul_lt_mul_of_pos_right h hc⟩
theorem mul_eq_iff {a b c : Nat} (hc : 0 < c) : a * c = b * c ↔ a = b := ⟨fun h => Nat.eq_of_mul_eq_mul_right hc h, fun h => by rw [h]⟩
theorem Sc.lo_iff {T K p q r s b a : Nat} (h : Sc T K p q r s b a) (J N A B : Nat) (hA : 0 < A) (hAB : 10 ^ q * B = 10 ^ p * 10 ^ J * A) :
  (mid (K - 1) * B < 2 * (N * A * T) ↔ 10 ^ J * r < N * s + 10 ^ J * b) ∧ (mid (K - 1) * B = 2 * (N * A * T) ↔ 10 ^ J * r = N * s + 10 ^ J * b) := by
 have hQ : 0 < 10 ^ q := Nat.pow_pos (by decide)
 have hl := h.hl
 have hC : 0 < s * 10 ^ q := Nat.mul_pos h.hs hQ
 have hD : 0 < 2 * A * 10 ^ q * T := Nat.mul_pos (Nat.mul_pos (by omega) hQ) h.hT
 have e1 : 2 * (N * A * T) * (s * 10 ^ q) = (N * s) * (2 * A * 10 ^ q * T) := by
  generalize 10 ^ q = Q; grind
 have e2 : mid (K - 1) * B * (s * 10 ^ q) + (10 ^ J * b) * (2 * A * 10 ^ q * T) = (10 ^ J * r) * (2 * A * 10 ^ q * T) := by
  have : mid (K - 1) * B * (s * 10 ^ q) = mid (K - 1) * s * (10 ^ q * B) := by generalize 10 ^ q = Q; grind
  rw [this, hAB]
  generalize 10 ^ q = Q at *; generalize 10 ^ p = P at *; generalize 10 ^ J = X at *
  generalize mid (K - 1) = m at *
  grind
 rw [← mul_lt_iff hC, e1, ← mul_eq_iff hC, e1]
 have e3 : (N * s + 10 ^ J * b) * (2 * A * 10 ^ q * T) = N * s * (2 * A * 10 ^ q * T) + 10 ^ J * b * (2 * A * 10 ^ q * T) := Nat.add_mul ..
 rw [← mul_lt_iff (a := 10 ^ J * r) hD, ← mul_eq_iff (a := 10 ^ J * r) hD, e3, ← e2]
 constructor
 ·
  constructor <;> intro h <;> omega
 ·
  constructor <;> intro h <;> omega
theorem Sc.hi_iff {T K p q r s b a : Nat} (h : Sc T K p q r s b a) (J N A B : Nat) (hA : 0 < A) (hAB : 10 ^ q * B = 10 ^ p * 10 ^ J * A) :
  (2 * (N * A * T) < mid K * B ↔ N * s < 10 ^ J * (r + a)) ∧ (2 * (N * A * T) = mid K * B ↔ N * s = 10 ^ J * (r + a)) := by
 have hQ : 0 < 10 ^ q := Nat.pow_pos (by decide)
 have hu := h.hu
 have hC : 0 < s * 10 ^ q := Nat.mul_pos h.hs hQ
 have hD : 0 < 2 * A * 10 ^ q * T := Nat.mul_pos (Nat.mul_pos (by omega) hQ) h.hT
 have e1 : 2 * (N * A * T) * (s * 10 ^ q) = (N * s) * (2 * A * 10 ^ q * T) := by
  generalize 10 ^ q = Q; grind
 have e2 : mid K * B * (s * 10 ^ q) = (10 ^ J * (r + a)) * (2 * A * 10 ^ q * T) := by
  have : mid K * B * (s * 10 ^ q) = mid K * s * (10 ^ q * B) := by generalize 10 ^ q = Q; grind
  rw [this, hAB]
  generalize 10 ^ q = Q at *; generalize 10 ^ p = P at *; generalize 10 ^ J = X at *
  generalize mid K = m at *
  grind
 rw [← mul_lt_iff hC, e1, e2, mul_lt_iff hD, ← mul_eq_iff hC, e1, e2, mul_eq_iff hD]
 exact ⟨Iff.rfl, Iff.rfl⟩
def RdK (K : Nat) (ev : Bool) (J N r s b a : Nat) : Prop := (10 ^ J * r < N * s + 10 ^ J * b ∨ 10 ^ J * r = N * s + 10 ^ J * b ∧ ev = true) ∧ (N * s < 10 ^ J * (r + a) ∨ N * s = 10 ^ J * (r + a) ∧ ev = true) ∧ 0 < K
theorem Sc.near_iff {T K p q r s b a : Nat} (h : Sc T K p q r s b a) (hK0 : 0 < K) (hK : K < INF) (J N A B : Nat) (hA : 0 < A) (hAB : 10 ^ q * B = 10 ^ p * 10 ^ J * A) (ev : Bool) (hev : ev = decide (K % 2 = 0)) :
  IsNear (N * A * T) B K ↔ RdK K ev J N r s b a := by
 obtain ⟨l1, l2⟩ := h.lo_iff J N A B hA hAB
 obtain ⟨u1, u2⟩ := h.hi_iff J N A B hA hAB
 have he : ev = true ↔ K % 2 = 0 := by rw [hev, decide_eq_true_eq]
 unfold RdK
 constructor
 ·
  intro g
  refine ⟨?_, ?_, hK0⟩
  ·
   rcases g.lo hK0 with g1 | ⟨g1, g2⟩
   ·
    exact .inl (l1.1 g1)
   ·
    exact .inr ⟨l2.1 g1, he.2 g2⟩
  ·
   rcases g.hi hK with g1 | ⟨g1, g2⟩
   ·
    exact .inl (u1.1 g1)
   ·
    exact .inr ⟨u2.1 g1, he.2 g2⟩
 ·
  rintro ⟨g1, g2, _⟩
  refine ⟨Nat.le_of_lt hK, fun _ => ?_, fun _ => ?_⟩
  ·
   rcases g1 with g1 | ⟨g1, g3⟩
   ·
    exact .inl (l1.2 g1)
   ·
    exact .inr ⟨l2.2 g1, he.1 g3⟩
  ·
   rcases g2 with g1 | ⟨g1, g3⟩
   ·
    exact .inl (u1.2 g1)
   ·
    exact .inr ⟨u2.2 g1, he.1 g3⟩
theorem dec_iff {K p q r s b a : Nat} (h : Sc (2 ^ 1074) K p q r s b a) (hK0 : 0 < K) (hK : K < INF) (J N : Nat) (ev : Bool) (hev : ev = decide (K % 2 = 0)) :
  DecNear N ((q : Int) - p - J) K ↔ RdK K ev J N r s b a := by
 unfold DecNear
 refine h.near_iff hK0 hK J N _ _ (Nat.pow_pos (by decide)) ?_ ev hev
 rw [← Nat.pow_add, ← Nat.pow_add, ← Nat.pow_add]
 congr 1
 omega
theorem start_sc (T K m E : Nat) (hT : 0 < T) (hK0 : 0 < K) (hm : m < 9007199254740992) (hEm : E = 0 ∨ 4503599627370496 ≤ m) (hKE : K = E * 4503599627370496 + m) (u w : Nat) (hw : 2 ^ u * T = 2 ^ E * 2 ^ w) :
  Sc T K 0 0 ((if m = 4503599627370496 ∧ 0 < E then 4 * m else 2 * m) * 2 ^ u) ((if m = 4503599627370496 ∧ 0 < E then 4 else 2) * 2 ^ w) (1 * 2 ^ u) ((if m = 4503599627370496 ∧ 0 < E then 2 else 1) * 2 ^ u) := by
 have hu : 0 < 2 ^ u := Nat.two_pow_pos u
 have hw0 : 0 < 2 ^ w := Nat.two_pow_pos w
 have hm0 : 0 < m := by omega
 have r0 : rungVal K = m * 2 ^ E := by rw [hKE]; exact rung_of hEm hm
 have r1 : rungVal (K + 1) = (m + 1) * 2 ^ E := by rw [hKE]; exact rung_next hEm hm
 have hmid : mid K = (2 * m + 1) * 2 ^ E := by unfold mid; rw [r0, r1]; grind
 by_cases c : m = 4503599627370496 ∧ 0 < E
 ·
  rw [if_pos c, if_pos c, if_pos c]
  obtain ⟨c1, c2⟩ := c
  obtain ⟨F, rfl⟩ : ∃ F, E = F + 1 := ⟨E - 1, by omega⟩
  have rm : rungVal (K - 1) = 9007199254740991 * 2 ^ F := by
   have : K - 1 = F * 4503599627370496 + 9007199254740991 := by omega
   rw [this]; exact rung_of (.inr (by omega)) (by omega)
  have hlo : mid (K - 1) = (9007199254740991 + 2 * m) * 2 ^ F := by
   unfold mid
   rw [show K - 1 + 1 = K by omega, rm, r0, Nat.pow_succ]; grind
  rw [Nat.pow_succ] at r0 hmid hw
  refine ⟨hT, Nat.mul_pos (by decide) hw0, Nat.mul_pos (by decide) hu, Nat.mul_pos (by decide) hu, ?_, ?_, ?_, ?_⟩
  ·
   rw [Nat.mul_comm 1, Nat.mul_comm (4 * m)]; exact Nat.mul_lt_mul_of_pos_left (by omega) hu
  ·
   rw [r0]; generalize 2 ^ u = U at *; generalize 2 ^ w = W at *; generalize 2 ^ F = G at *; grind
  ·
   rw [hmid]; generalize 2 ^ u = U at *; generalize 2 ^ w = W at *; generalize 2 ^ F = G at *; grind
  ·
   rw [hlo, c1]; generalize 2 ^ u = U at *; generalize 2 ^ w = W at *; generalize 2 ^ F = G at *; grind
 ·
  rw [if_neg c, if_neg c, if_neg c]
  have rm : rungVal (K - 1) = (m - 1) * 2 ^ E := by
   have h1 : K - 1 = E * 4503599627370496 + (m - 1) := by omega
   rw [h1]
   exact rung_of (by omega) (by omega)
  have hlo : mid (K - 1) = (2 * m - 1) * 2 ^ E := by
   unfold mid
   rw [show K - 1 + 1 = K by omega, rm, r0]
   obtain ⟨j, rfl⟩ : ∃ j, m = j + 1 := ⟨m - 1, by omega⟩
   rw [Nat.add_sub_cancel, show 2 * (j + 1) - 1 = 2 * j + 1 by omega]; grind
  refine ⟨hT, Nat.mul_pos (by decide) hw0, Nat.mul_pos (by decide) hu, Nat.mul_pos (by decide) hu, ?_, ?_, ?_, ?_⟩
  ·
   rw [Nat.mul_comm 1, Nat.mul_comm (2 * m)]; exact Nat.mul_lt_mul_of_pos_left (by omega) hu
  ·
   rw [r0]; generalize 2 ^ u = U at *; generalize 2 ^ w = W at *; generalize 2 ^ E = G at *; grind
  ·
   rw [hmid]; generalize 2 ^ u = U at *; generalize 2 ^ w = W at *; generalize 2 ^ E = G at *; grind
  ·
   rw [hlo]
   obtain ⟨j, rfl⟩ : ∃ j, m = j + 1 := ⟨m - 1, by omega⟩
   rw [show 2 * (j + 1) - 1 = 2 * j + 1 by omega]
   generalize 2 ^ u = U at *; generalize 2 ^ w = W at *; generalize 2 ^ E = G at *; grind
end Go.Proofs.YtjlnfnfdibfniaaDoor.Pl
namespace Go.Proofs.YtjlnfnfdibfniaaDoor.Pl
open Go.RowKit
def guess (n : Int) : Option Int := (FloatKind.f64.format.mul (floatOfInt .f64 n) 4599094314157230187).bind fun a => (Hd.math_Ceil.f a).bind fun b => floatToIntVal .f64 b .i64
def okG (n : Int) : Bool := match guess n with | some g => decide (-400 ≤ g ∧ g ≤ 400) | none => false
theorem guess_all : ∀ n : Fin 2400, okG ((n.val : Int) - 1200) = true := by decide +kernel
theorem guess_ok (n : Int) (h0 : -1200 ≤ n) (h1 : n < 1200) : ∃ a b g, FloatKind.f64.format.mul (floatOfInt .f64 n) 4599094314157230187 = some a ∧ Hd.math_Ceil.f a = some b ∧ floatToIntVal .f64 b .i64 = some g ∧ -400 ≤ g ∧ g ≤ 400 := by
 have := guess_all ⟨(n + 1200).toNat, by omega⟩
 have e : (((n + 1200).toNat : Nat) : Int) - 1200 = n := by omega
 simp only [e] at this
 unfold okG guess at this
 cases h2 : FloatKind.f64.format.mul (floatOfInt .f64 n) 4599094314157230187 with
 | none => rw [h2] at this; cases this
 | some a =>
  rw [h2, Option.bind_some] at this
  cases h3 : Hd.math_Ceil.f a with
  | none => rw [h3] at this; cases this
  | some b =>
   rw [h3, Option.bind_some] at this
   cases h4 : floatToIntVal .f64 b .i64 with
   | none => rw [h4] at this; cases this
   | some g =>
    rw [h4] at this
    have := of_decide_eq_true this
    exact ⟨a, b, g, rfl, h3, h4, this⟩
end Go.Proofs.YtjlnfnfdibfniaaDoor.Pl
namespace Go.Proofs.YtjlnfnfdibfniaaDoor.Pl
open Hd
def isDig (c : UInt8) : Bool := decide (48 ≤ c.toNat) && decide (c.toNat ≤ 57)
def val (l : List UInt8) : Nat := l.foldl (fun v c => 10 * v + (c.toNat - 48)) 0
theorem snoc_ind {α : Type} {P : List α → Prop} (h0 : P []) (h1 : ∀ l c, P l → P (l ++ [c])) (l : List α) : P l := by
 have h : ∀ r : List α, P r.reverse := by
  intro r
  induction r with
  | nil => exact h0
  | cons a r ih => rw [List.reverse_cons]; exact h1 _ _ ih
 have := h l.reverse
 rwa [List.reverse_reverse] at this
theorem val_snoc (l : List UInt8) (c : UInt8) : val (l ++ [c]) = 10 * val l + (c.toNat - 48) := by simp [val]
theorem val_lt (l : List UInt8) (h : ∀ c ∈ l, isDig c = true) : val l < 10 ^ l.length := by
 induction l using snoc_ind with
 | h0 => simp [val]
 | h1 l c ih =>
  have h1 := ih (fun c hc => h c (List.mem_append_left _ hc))
  have h2 := h c (List.mem_append_right _ (List.mem_singleton.2 rfl))
  simp only [isDig, Bool.and_eq_true, decide_eq_true_eq] at h2
  rw [val_snoc, List.length_append, List.length_singleton, Nat.pow_succ]
  omega
theorem dig_of (n : Nat) (h : n < 10) : (UInt8.ofNat (48 + n)).toNat = 48 + n := by
 rw [UInt8.toNat_ofNat']; omega
theorem dec_spec (n : Nat) (h : n < 10 ^ 20) : val (dec n) = n ∧ (∀ c ∈ dec n, isDig c = true) ∧ dec n ≠ [] ∧ (0 < n → ∀ c r, dec n = c :: r → c.toNat ≠ 48) := by
 induction n using Nat.strongRecOn with
 | _ n ih =>
  rw [dec_step n h]
  have hd := dig_of (n % 10) (Nat.mod_lt _ (by decide))
  unfold dec0
  by_cases h0 : n / 10 = 0
  ·
   rw [if_pos h0]
   refine ⟨?_, ?_, by simp, ?_⟩
   ·
    rw [val_snoc, hd]; simp [val]; omega
   ·
    intro c hc
    rw [List.nil_append, List.mem_singleton] at hc
    subst hc
    simp only [isDig, hd, Bool.and_eq_true, decide_eq_true_eq]; omega
   ·
    intro hn c r hr
    rw [List.nil_append, List.cons.injEq] at hr
    rw [← hr.1, hd]; omega
  ·
   rw [if_neg h0]
   obtain ⟨i1, i2, i3, i4⟩ := ih (n / 10) (by omega) (by omega)
   refine ⟨?_, ?_, by simp, ?_⟩
   ·
    rw [val_snoc, hd, i1]; omega
   ·
    intro c hc
    rcases List.mem_append.1 hc with hc | hc
    ·
     exact i2 c hc
    ·
     rw [List.mem_singleton] at hc
     subst hc
     simp only [isDig, hd, Bool.and_eq_true, decide_eq_true_eq]; omega
   ·
    intro hn c r hr
    cases hq : dec (n / 10) with
    | nil => exact absurd hq i3
    | cons a b =>
     rw [hq] at hr
     rw [List.cons_append, List.cons.injEq] at hr
     rw [← hr.1]
     exact i4 (by omega) a b hq
theorem decF_short : ∀ (f n e : Nat), n < 10 ^ (e + 1) → (decF f n).length ≤ e + 1
 | 0, _, _, _ => by simp [decF]
 | f + 1, n, 0, h => by
  rw [decF, if_pos (by omega)]; simp
 | f + 1, n, e + 1, h => by
  have h1 : n / 10 < 10 ^ (e + 1) := by rw [Nat.pow_succ] at h; omega
  have := decF_short f (n / 10) e h1
  rw [decF]
  split <;> simp <;> omega
theorem dec_short (n : Nat) (h : n ≤ 9223372036854775808) : (dec n).length ≤ 19 := decF_short 20 n 18 (by omega)
end Go.Proofs.YtjlnfnfdibfniaaDoor.Pl
namespace Go.Proofs.YtjlnfnfdibfniaaDoor.Pl
def sgn (l : List UInt8) : Bool × List UInt8 :=
 match l with
 | [] => (false, [])
 | c :: r => if c.toNat = 45 then (true, r) else if c.toNat = 43 then (false, r) else (false, c :: r)
def allDig (l : List UInt8) : Bool := l.all isDig
def digs (l : List UInt8) : List UInt8 × List UInt8 := (l.take (l.takeWhile isDig).length, l.drop (l.takeWhile isDig).length)
def expOf (l : List UInt8) : Option Int :=
 if (sgn l).2 = [] ∨ allDig (sgn l).2 = false then none else some (if (sgn l).1 = true then -(val (sgn l).2 : Int) else (val (sgn l).2 : Int))
def tailOf (ds : List UInt8) (x : Int) (l : List UInt8) : Option (List UInt8 × Int) :=
 if ds = [] then none else
 match l with
 | [] => some (ds, x)
 | c :: r => if c.toNat = 101 ∨ c.toNat = 69 then (expOf r).map (fun e => (ds, x + e)) else none
def dspec (l : List UInt8) : Option (List UInt8 × Int) :=
 match (digs l).2 with
 | [] => tailOf (digs l).1 0 []
 | c :: r => if c.toNat = 46 then tailOf ((digs l).1 ++ (digs r).1) (-((digs r).1.length : Int)) (digs r).2 else tailOf (digs l).1 0 (c :: r)
def lowc (c : UInt8) : UInt8 := if 65 ≤ c.toNat ∧ c.toNat ≤ 90 then UInt8.ofNat (c.toNat + 32) else c
def signBit (n : Bool) : Nat := if n = true then 9223372036854775808 else 0
def ParseTo (l : List UInt8) (b : Nat) (e : Int) : Prop :=
 if 400 < l.length then b = 0 ∧ e = 8 else
 if (sgn l).2.map lowc = [110, 97, 110] then b = 9221120237041090561 ∧ e = 0 else
 if (sgn l).2.map lowc = [105, 110, 102] ∨ (sgn l).2.map lowc = [105, 110, 102, 105, 110, 105, 116, 121] then b = INF + signBit (sgn l).1 ∧ e = 0 else
 match dspec (sgn l).2 with
 | none => b = 0 ∧ e = 8
 | some (ds, x) => e = 0 ∧ ∃ K, DecNear (val ds) x K ∧ b = K + signBit (sgn l).1
theorem ParseTo.unique {l : List UInt8} {b b' : Nat} {e e' : Int} (h : ParseTo l b e) (h' : ParseTo l b' e') : b = b' ∧ e = e' := by
 unfold ParseTo at h h'
 split at h
 ·
  rename_i c
  rw [if_pos c] at h'
  omega
 ·
  rename_i c
  rw [if_neg c] at h'
  split at h
  ·
   rename_i c
   rw [if_pos c] at h'
   omega
  ·
   rename_i c
   rw [if_neg c] at h'
   split at h
   ·
    rename_i c
    rw [if_pos c] at h'
    omega
   ·
    rename_i c
    rw [if_neg c] at h'
    cases hd : dspec (sgn l).2 with
    | none => rw [hd] at h h'; simp only at h h'; omega
    | some p =>
     obtain ⟨ds, x⟩ := p
     rw [hd] at h h'
     simp only at h h'
     obtain ⟨h1, K, h2, h3⟩ := h
     obtain ⟨g1, J, g2, g3⟩ := h'
     have := h2.unique g2
     exact ⟨by rw [h3, g3, this], by rw [h1, g1]⟩
def Ext (x x' : Int) : Prop := x' = x ∨ 90000 ≤ x ∧ 90000 ≤ x' ∨ x ≤ -90000 ∧ x' ≤ -90000
theorem DecNear.zero {x : Int} {K : Nat} (h : DecNear 0 x K) : K = 0 := by
 have h2 : DecNear 0 x 0 := by
  show IsNear _ _ 0
  rw [none_aux]
  exact near_none (Nat.pow_pos (by decide))
 exact h.unique h2
theorem dec_none (x : Int) : DecNear 0 x 0 := by
 show IsNear _ _ 0
 rw [none_aux]
 exact near_none (Nat.pow_pos (by decide))
theorem DecNear.ext {v n : Nat} {x x' : Int} {K : Nat} (hv : v < 10 ^ n) (hn : n ≤ 1000) (h : DecNear v x' K) (he : Ext x x') : DecNear v x K := by
 rcases he with rfl | ⟨h1, h2⟩ | ⟨h1, h2⟩
 ·
  exact h
 ·
  rcases Nat.eq_zero_or_pos v with rfl | h0
  ·
   rw [h.zero]; exact dec_none x
  ·
   have g : 10 ^ 0 ≤ v := by rw [Nat.pow_zero]; exact h0
   have a := dec_inf_great (n := 0) (x := x) g (by omega)
   have b := dec_inf_great (n := 0) (x := x') g (by omega)
   rw [h.unique b]; exact a
 ·
  have a := dec_zero_small (x := x) hv (by omega)
  have b := dec_zero_small (x := x') hv (by omega)
  rw [h.unique b]; exact a
theorem dspec_digs {l ds : List UInt8} {x : Int} (h : dspec l = some (ds, x)) : (∀ c ∈ ds, isDig c = true) ∧ ds.length ≤ l.length ∧ ds ≠ [] := by
 have hw : ∀ l : List UInt8, (∀ c ∈ (digs l).1, isDig c = true) ∧ (digs l).1.length + (digs l).2.length = l.length := by
  intro l
  unfold digs
  constructor
  ·
   intro c hc
   have : l.take (l.takeWhile isDig).length = l.takeWhile isDig := by
    have h1 := List.takeWhile_append_dropWhile (p := isDig) (l := l)
    conv => lhs; rw [← h1]
    rw [h1]
    conv => lhs; arg 2; rw [← h1]
    rw [List.take_left']; rfl
   simp only [this] at hc
   have key : ∀ m : List UInt8, ∀ c ∈ m.takeWhile isDig, isDig c = true := by
    intro m
    induction m with
    | nil => intro c hc; cases hc
    | cons a m ih =>
     intro c hc
     rw [List.takeWhile_cons] at hc
     split at hc
     ·
      rename_i ha
      rcases List.mem_cons.1 hc with rfl | hc
      ·
       exact ha
      ·
       exact ih c hc
     ·
      cases hc
   exact key l c hc
  ·
   rw [← List.length_append, List.take_append_drop]
 have ht : ∀ ds' x' m, tailOf ds' x' m = some (ds, x) → ds = ds' ∧ ds' ≠ [] := by
  intro ds' x' m hm
  unfold tailOf at hm
  split at hm
  ·
   cases hm
  ·
   rename_i hne
   refine ⟨?_, hne⟩
   split at hm
   ·
    injection hm with hm; injection hm with h1 h2; exact h1.symm
   ·
    split at hm
    ·
     rename_i r _
     cases he : expOf r with
     | none => rw [he] at hm; cases hm
     | some e => rw [he] at hm; simp only [Option.map_some, Option.some.injEq, Prod.mk.injEq] at hm; exact hm.1.symm
    ·
     cases hm
 have h1 := hw l
 unfold dspec at h
 split at h
 ·
  obtain ⟨rfl, h3⟩ := ht _ _ _ h
  exact ⟨h1.1, by omega, h3⟩
 ·
  rename_i c r hcr
  rw [hcr, List.length_cons] at h1
  split at h
  ·
   obtain ⟨rfl, h3⟩ := ht _ _ _ h
   have h2 := hw r
   refine ⟨?_, by rw [List.length_append]; omega, h3⟩
   intro c hc
   rcases List.mem_append.1 hc with hc | hc
   ·
    exact h1.1 c hc
   ·
    exact h2.1 c hc
  ·
   obtain ⟨rfl, h3⟩ := ht _ _ _ h
   exact ⟨h1.1, by omega, h3⟩
end Go.Proofs.YtjlnfnfdibfniaaDoor.Pl
namespace Go.Proofs.YtjlnfnfdibfniaaDoor.Pl
open F Hd Go.RowKit Go.Proofs.YtjlnfnfdibfniaaDoorW.PrintWords Go.Proofs.YtjlnfnfdibfniaaDoorW.PrintMore
theorem few2 {n m : Nat} (h : n < 2 ^ m) (hm : m ≤ 31000000) : Few n := by
 refine few_of (s := m / 32 + 1) (Nat.lt_of_lt_of_le h ?_) (by omega)
 rw [show (4294967296 : Nat) = 2 ^ 32 by decide, ← Nat.pow_mul]
 exact Nat.pow_le_pow_right (by decide) (by omega)
theorem least (P : Nat → Prop) (n : Nat) (h : P n) : ∃ m, m ≤ n ∧ P m ∧ ∀ i, i < m → ¬ P i := by
 induction n using Nat.strongRecOn with
 | ind n ih =>
  by_cases c : ∃ i, i < n ∧ P i
  ·
   obtain ⟨i, hi, hP⟩ := c
   obtain ⟨m, h1, h2, h3⟩ := ih i hi hP
   exact ⟨m, by omega, h2, h3⟩
  ·
   exact ⟨n, Nat.le_refl _, h, fun i hi hP => c ⟨i, hi, hP⟩⟩
structure DigAt (K : Nat) (ev : Bool) (J p q r s b a : Nat) : Prop where
 sc : Sc (2 ^ 1074) K p q r s b a
 lt : r < s
 top : r + a < s ∨ r + a = s ∧ ev = false
 pos : 1 ≤ J
 no : ∀ i, 1 ≤ i → i < J → dn r s b i ev = false ∧ up r s a i ev = false
 yes : dn r s b J ev = true ∨ up r s a J ev = true
 first : r * 10 / s ≠ 0 ∨ J = 1 ∧ up r s a 1 ev = true
theorem tens1 (a : Nat) (h : Few (a * 10)) : Runs (fun k => num_nat_tens.f k (L a) 1) (L (a * 10)) := by
 have := tens_f a 1 (by rw [Nat.pow_one]; exact h) (by decide)
 rw [Nat.pow_one] at this
 exact this
theorem skip_loop (T K : Nat) (ev : Bool) (s q S : Nat) (hS : s < 2 ^ S) (hS2 : S ≤ 1000000) (hq : q ≤ 10000) : ∀ (g r b a p : Nat), s ≤ r * 10 ^ g → p + g ≤ 20000 → Sc T K p q r s b a → r < s → (r + a < s ∨ r + a = s ∧ ev = false) →
  ∃ r' b' a' p', Sc T K p' q r' s b' a' ∧ r' < s ∧ (r' + a' < s ∨ r' + a' = s ∧ ev = false) ∧ (r' * 10 / s ≠ 0 ∨ up r' s a' 1 ev = true) ∧ p' ≤ p + g ∧
   ∀ R, Runs (fun k => num_shortest.l0 k (L r') (L s) (L b') (L a') ev [] ((q : Int) - p')) R → Runs (fun k => num_shortest.l0 k (L r) (L s) (L b) (L a) ev [] ((q : Int) - p)) R := by
 intro g
 induction g with
 | zero => intro r b a p h1 _ _ h2 _; rw [Nat.pow_zero, Nat.mul_one] at h1; omega
 | succ g ih =>
  intro r b a p h1 hpg hsc hlt htop
  by_cases c : r * 10 / s ≠ 0 ∨ up r s a 1 ev = true
  ·
   exact ⟨r, b, a, p, hsc, hlt, htop, c, by omega, fun R h => h⟩
  ·
   have c1 : r * 10 / s = 0 := by
    rcases Nat.eq_zero_or_pos (r * 10 / s) with h | h
    ·
     exact h
    ·
     exact absurd (.inl (by omega)) c
   have c2 : up r s a 1 ev = false := by
    cases h : up r s a 1 ev with
    | false => rfl
    | true => exact absurd (.inr h) c
   have hlt2 : r * 10 < s := by
    rcases Nat.lt_or_ge (r * 10) s with h | h
    ·
     exact h
    ·
     have := Nat.div_pos h hsc.hs; omega
   have hrem : rem r s 1 = r * 10 := by unfold rem; rw [Nat.pow_one, Nat.mod_eq_of_lt hlt2]
   have htop2 : r * 10 + a * 10 < s ∨ r * 10 + a * 10 = s ∧ ev = false := by
    unfold up upB at c2
    rw [hrem, Nat.pow_one, Bool.or_eq_false_iff] at c2
    obtain ⟨d1, d2⟩ := c2
    have d1 := of_decide_eq_false d1
    rcases Nat.lt_or_ge (r * 10 + a * 10) s with h | h
    ·
     exact .inl h
    ·
     right
     have : s = r * 10 + a * 10 := by omega
     rw [decide_eq_true this] at d2
     exact ⟨this.symm, by simpa using d2⟩
   have hp1 : r * 10 ^ (g + 1) = r * 10 * 10 ^ g := by rw [Nat.pow_succ]; grind
   obtain ⟨r', b', a', p', g1, g2, g3, g4, g5, g6⟩ := ih (r * 10) (b * 10) (a * 10) (p + 1) (by rw [← hp1]; exact h1) (by omega) hsc.less hlt2 htop2
   refine ⟨r', b', a', p', g1, g2, g3, g4, by omega, fun R h => ?_⟩
   have h := g6 R h
   have hbr := hsc.hbr
   have hfs : ∀ z, z ≤ s * 4 → Few z := fun z hz => few2 (m := S + 2) (by rw [Nat.pow_add]; omega) (by omega)
   refine Runs.suc ?_
   simp only [num_shortest.l0]
   refine Runs.bind (tens1 r (hfs _ (by omega))) (Runs.bind (tens1 b (hfs _ (by omega))) (Runs.bind (tens1 a (hfs _ (by omega))) ?_))
   refine sh_inner s (b * 10) (a * 10) ev [] _ _ hsc.hs (r * 10) (hfs _ (by omega)) (r * 10 / s) (r * 10) 48 rfl (Nat.le_refl _) (by omega) ?_
   rw [c1, Nat.mod_eq_of_lt hlt2]
   refine sh_test (r * 10) s (b * 10) (a * 10) _ ev [] _ _ hlt2 (hfs _ (by omega)) ?_
   have e2 : upB (r * 10) s (a * 10) ev = false := by rw [← c2]; unfold up; rw [hrem, Nat.pow_one]
   rw [e2]
   refine sh_skip _ _ _ _ _ _ _ _ (by omega) (by omega) ?_
   rw [show (q : Int) - p - 1 = (q : Int) - ((p + 1 : Nat) : Int) by omega]
   exact h
theorem top_f (r a s : Nat) (ev : Bool) (hF : Few (r + a)) : Runs (fun k => num_Digits_1.f k (L r) (L a) (L s) ev) (upB r s a ev) := by
 simp only [num_Digits_1.f]
 have hr : Few r := few_mono (by omega) hF
 have ha : Few a := few_mono (by omega) hF
 refine Runs.bind (plus_f r a hr ha) (Runs.bind (against_f (r + a) s hF) ((Runs.pure _).of ?_))
 unfold upB
 rcases cmpN_cases (r + a) s with ⟨h1, h2⟩ | ⟨h1, h2⟩ | ⟨h1, h2⟩
 ·
  rw [h2, decide_eq_false (show ¬ s < r + a by omega), decide_eq_false (show ¬ s = r + a by omega)]; rfl
 ·
  rw [h2, decide_eq_false (show ¬ s < r + a by omega), decide_eq_true h1.symm]; simp
 ·
  rw [h2, decide_eq_true h1]; rfl
theorem top_loop (T K : Nat) (ev : Bool) (r b a p S : Nat) (neg : Bool) (hra : r + a < 2 ^ S) (hS2 : S ≤ 100000) (hp : p ≤ 10000) : ∀ (g s q : Nat), r + a < s * 10 ^ g → q + g ≤ 20000 → s < 2 ^ (S + 4) → Sc T K p q r s b a →
  ∃ s' q', Sc T K p q' r s' b a ∧ (r + a < s' ∨ r + a = s' ∧ ev = false) ∧ s' < 2 ^ (S + 4) ∧ q' ≤ q + g ∧
   ∀ R : List Int × Int, Runs (fun k => num_shortest.f k (L r) (L s') (L b) (L a) ev ((q' : Int) - p)) R → Runs (fun k => num_Digits.l0 k neg (L b) ((q : Int) - p) (L r) (L s) (L a) ev) (strOfNums R.1, R.2, neg) := by
 have hF : Few (r + a) := few2 hra (by omega)
 have stop : ∀ (s q : Nat), upB r s a ev = false → ∀ R : List Int × Int, Runs (fun k => num_shortest.f k (L r) (L s) (L b) (L a) ev ((q : Int) - p)) R → Runs (fun k => num_Digits.l0 k neg (L b) ((q : Int) - p) (L r) (L s) (L a) ev) (strOfNums R.1, R.2, neg) := by
  intro s q hu R h
  have ht := top_f r a s ev hF
  rw [hu] at ht
  refine Runs.suc ?_
  simp only [num_Digits.l0]
  exact Runs.bind ht (Runs.no Bool.false_ne_true (Runs.bind h (Runs.pure _)))
 have nt : ∀ s, upB r s a ev = false → r + a < s ∨ r + a = s ∧ ev = false := by
  intro s hu
  unfold upB at hu
  rw [Bool.or_eq_false_iff] at hu
  obtain ⟨d1, d2⟩ := hu
  have d1 := of_decide_eq_false d1
  rcases Nat.lt_or_ge (r + a) s with h | h
  ·
   exact .inl h
  ·
   right
   have : s = r + a := by omega
   rw [decide_eq_true this] at d2
   exact ⟨this.symm, by simpa using d2⟩
 intro g
 induction g with
 | zero =>
  intro s q h1 _ h2 hsc
  rw [Nat.pow_zero, Nat.mul_one] at h1
  have hu : upB r s a ev = false := by
   unfold upB
   rw [decide_eq_false (show ¬ s < r + a by omega), decide_eq_false (show ¬ s = r + a by omega)]; rfl
  exact ⟨s, q, hsc, nt s hu, h2, by omega, stop s q hu⟩
 | succ g ih =>
  intro s q h1 hqg h2 hsc
  cases hu : upB r s a ev with
  | false => exact ⟨s, q, hsc, nt s hu, h2, by omega, stop s q hu⟩
  | true =>
   have hle : s ≤ r + a := by
    unfold upB at hu
    rw [Bool.or_eq_true, decide_eq_true_eq, Bool.and_eq_true, decide_eq_true_eq] at hu
    omega
   have hp1 : s * 10 ^ (g + 1) = s * 10 * 10 ^ g := by rw [Nat.pow_succ]; grind
   have hs10 : s * 10 < 2 ^ (S + 4) := by rw [Nat.pow_add]; omega
   obtain ⟨s', q', g1, g2, g3, g4, g5⟩ := ih (s * 10) (q + 1) (by rw [← hp1]; exact h1) (by omega) hs10 hsc.more
   refine ⟨s', q', g1, g2, g3, by omega, fun R h => ?_⟩
   have h := g5 R h
   have ht := top_f r a s ev hF
   rw [hu] at ht
   refine Runs.suc ?_
   simp only [num_Digits.l0]
   refine Runs.bind ht (Runs.yes rfl (Runs.bind (tens1 s (few2 hs10 (by omega))) ?_))
   rw [w64 (by omega) (by omega), show (q : Int) - p + 1 = ((q + 1 : Nat) : Int) - p by omega]
   exact h
theorem dig_core (K : Nat) (ev neg : Bool) (p q r s b a S : Nat) (hS : S ≤ 5000) (hra : r + a < 2 ^ S) (hs : s < 2 ^ (S + 4)) (hp : p ≤ 1000) (hq : q ≤ 1000) (hsc : Sc (2 ^ 1074) K p q r s b a) :
  ∃ J p' q' r' s' b' a', DigAt K ev J p' q' r' s' b' a' ∧ p' ≤ 10000 ∧ q' ≤ 10000 ∧
   Runs (fun k => num_Digits.l0 k neg (L b) ((q : Int) - p) (L r) (L s) (L a) ev) (strOfNums (ints (dg J r' s' (adj r' s' b' a' J ev))), (q' : Int) - p', neg) := by
 have big : ∀ n : Nat, 2 ^ n ≤ 10 ^ n := fun n => Nat.pow_le_pow_left (by decide) n
 have hs0 := hsc.hs
 obtain ⟨s1, q1, g1, g2, g3, g4, g5⟩ := top_loop (2 ^ 1074) K ev r b a p S neg hra (by omega) (by omega) S s q (by
  have := big S
  have h2 : 10 ^ S ≤ s * 10 ^ S := Nat.le_mul_of_pos_left _ hs0
  omega) (by omega) hs hsc
 have hr0 : 0 < r := by have := hsc.hbr; omega
 have hlt : r < s1 := by have := g1.ha; omega
 obtain ⟨r2, b2, a2, p2, k1, k2, k3, k4, k5, k6⟩ := skip_loop (2 ^ 1074) K ev s1 q1 (S + 4) g3 (by omega) (by omega) (S + 4) r b a p (by
  have := big (S + 4)
  have h2 : 10 ^ (S + 4) ≤ r * 10 ^ (S + 4) := Nat.le_mul_of_pos_left _ hr0
  omega) (by omega) g1 hlt g2
 have ha2 := k1.ha
 have hbr2 := k1.hbr
 obtain ⟨J, hJ1, hJ2, hJ3⟩ := least (fun i => 1 ≤ i ∧ (dn r2 s1 b2 i ev = true ∨ up r2 s1 a2 i ev = true)) (S + 4) (by
  refine ⟨by omega, .inr ?_⟩
  unfold up upB
  have h1 := big (S + 4)
  have h2 : 10 ^ (S + 4) ≤ a2 * 10 ^ (S + 4) := Nat.le_mul_of_pos_left _ ha2
  rw [decide_eq_true (show s1 < rem r2 s1 (S + 4) + a2 * 10 ^ (S + 4) by omega)]; rfl)
 have hno : ∀ i, 1 ≤ i → i < J → dn r2 s1 b2 i ev = false ∧ up r2 s1 a2 i ev = false := by
  intro i h1 h2
  have := hJ3 i h2
  cases hd : dn r2 s1 b2 i ev with
  | true => exact absurd ⟨h1, .inl hd⟩ this
  | false =>
   cases hu : up r2 s1 a2 i ev with
   | true => exact absurd ⟨h1, .inr hu⟩ this
   | false => exact ⟨rfl, rfl⟩
 have hfirst : r2 * 10 / s1 ≠ 0 ∨ J = 1 ∧ up r2 s1 a2 1 ev = true := by
  rcases k4 with h | h
  ·
   exact .inl h
  ·
   refine .inr ⟨?_, h⟩
   rcases Nat.lt_or_ge 1 J with c | c
   ·
    have := hno 1 (by omega) c
    rw [h] at this; cases this.2
   ·
    omega
 refine ⟨J, p2, q1, r2, s1, b2, a2, ⟨k1, k2, k3, hJ2.1, hno, hJ2.2, hfirst⟩, by omega, by omega, ?_⟩
 have hrun := sh_run s1 ev ((q1 : Int) - p2) (by omega) (by omega) k1.hs J r2 b2 a2 [] hJ2.1 k2 hno hJ2.2 (by
  rcases hfirst with h | h
  ·
   exact .inr (.inl h)
  ·
   exact .inr (.inr h)) (by simp; omega) (by
   have h10 : 10 ^ J ≤ 2 ^ (4 * J) := by rw [Nat.pow_mul]; exact Nat.pow_le_pow_left (by decide) J
   have hb : b2 * 10 ^ J ≤ s1 * 2 ^ (4 * J) := Nat.mul_le_mul (by omega) h10
   have ha : a2 * 10 ^ J ≤ s1 * 2 ^ (4 * J) := Nat.mul_le_mul (by omega) h10
   have hm : s1 * 2 ^ (4 * J) < 2 ^ (S + 4) * 2 ^ (4 * J) := Nat.mul_lt_mul_of_pos_right g3 (Nat.two_pow_pos _)
   rw [← Nat.pow_add] at hm
   have hm2 : 2 ^ (S + 4 + 4 * J) ≤ 2 ^ (S + 4 + 4 * (S + 4)) := Nat.pow_le_pow_right (by decide) (by omega)
   have hm3 : 2 ^ (S + 4) ≤ 2 ^ (S + 4 + 4 * (S + 4)) := Nat.pow_le_pow_right (by decide) (by omega)
   refine few2 (m := S + 4 + 4 * (S + 4) + 6) ?_ (by omega)
   rw [Nat.pow_add 2 (S + 4 + 4 * (S + 4))]
   generalize 2 ^ (S + 4 + 4 * (S + 4)) = Z at *
   omega)
 rw [List.nil_append] at hrun
 refine g5 (ints (dg J r2 s1 (adj r2 s1 b2 a2 J ev)), (q1 : Int) - p2) ?_
 simp only [num_shortest.f]
 exact k6 _ hrun
end Go.Proofs.YtjlnfnfdibfniaaDoor.Pl

