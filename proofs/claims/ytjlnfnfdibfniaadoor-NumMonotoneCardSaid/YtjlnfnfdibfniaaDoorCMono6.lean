/- NumMonotone: of two numbers the greater is not read as the lesser float. For all bytes a and b, as digits, and any exponent. -/
import Derived.Test.YtjlnfnfdibfniaaDoorCMono5
import Derived.KernelRfl
import Derived.Test.YtjlnfnfdibfniaaDoorRows
import Derived.Test.YtjlnfnfdibfniaaDoorCards
import Derived.Test.YtjlnfnfdibfniaaDoorTie
import Derived.WalkKit
import Derived.ProofKit
import Derived.OpenShut
import Derived.ShutString
import Derived.ChangeOld
import Derived.Below
import Derived.SizedLaws
import Derived.Lay
import Derived.LaidOnce
import Derived.SevenTiedAt
import Derived.ChangeSlices
-- Written by a program of this session (wip/vprint.py): Lean checks it.
namespace Go.Proofs.YtjlnfnfdibfniaaDoor.F
open Go.RowKit Go.Proofs.YtjlnfnfdibfniaaDoorW.PrintWords Go.Proofs.YtjlnfnfdibfniaaDoorW.PrintLast Go.Proofs.YtjlnfnfdibfniaaDoorW.PrintMore
attribute [local go_sem] max2_int min2_int max_two min_two max_three min_three max_four min_four   -- for this text's walks alone
set_option linter.unusedVariables false
set_option linter.unusedSimpArgs false

/-! ### num_Text: function 15 -/
mutual
def num_Text.j0 : Nat → Nat → ByteArray → Int → ByteArray → Option (ByteArray)
 | 0, _, _, _, _ => none
 | k + 1, x0, x3, x4, x6 => (math_IsNaN.f x0).bind fun t495 => (if t495 = true then (some (⟨#[78, 97, 78]⟩ : ByteArray)) else (if (FloatKind.f64.format.order x0 9218868437227405311 == some Ordering.gt) = true then (some (⟨#[43, 73, 110, 102]⟩ : ByteArray)) else (if (FloatKind.f64.format.order x0 18442240474082181119 == some Ordering.lt) = true then (some (⟨#[45, 73, 110, 102]⟩ : ByteArray)) else (if (FloatKind.f64.format.order x0 0 == some Ordering.eq) = true then (if x6.size + 1 ≤ 9223372036854775807 then (some (x6 ++ (⟨#[48]⟩ : ByteArray))) else (none)) else (if x4 < (-5) then (num_Text.j1 k x3 x4 x6 true) else (num_Text.j1 k x3 x4 x6 (decide (x4 > 21))))))))
def num_Text.j1 : Nat → ByteArray → Int → ByteArray → Bool → Option (ByteArray)
 | 0, _, _, _, _ => none
 | k + 1, x3, x4, x6, x28 => if x28 = true then ((num_scientific.f k x3 (wrap64 (x4 - 1))).bind fun t497 => (if x6.size + t497.size ≤ 9223372036854775807 then (some (x6 ++ t497)) else (none))) else (if x4 ≤ 0 then (if x6.size + 2 ≤ 9223372036854775807 then ((some (x6 ++ (⟨#[48, 46]⟩ : ByteArray) : ByteArray)).bind fun y499 => ((Hd.strings_Repeat.f (⟨#[48]⟩ : ByteArray) (wrap64 (-x4))).bind fun t500 => (if y499.size + t500.size ≤ 9223372036854775807 then ((some (y499 ++ t500 : ByteArray)).bind fun y501 => (if y501.size + x3.size ≤ 9223372036854775807 then (some (y501 ++ x3)) else (none))) else (none)))) else (none)) else (if x4 ≥ (x3.size : Int) then (if x6.size + x3.size ≤ 9223372036854775807 then ((some (x6 ++ x3 : ByteArray)).bind fun y503 => ((Hd.strings_Repeat.f (⟨#[48]⟩ : ByteArray) (wrap64 (x4 - (x3.size : Int)))).bind fun t504 => (if y503.size + t504.size ≤ 9223372036854775807 then (some (y503 ++ t504)) else (none)))) else (none)) else (if 0 ≤ x4 then (if x4 ≤ (x3.size : Int) then ((some (x3.extract 0 (x4 : Int).toNat : ByteArray)).bind fun y506 => (if x6.size + y506.size ≤ 9223372036854775807 then ((some (x6 ++ y506 : ByteArray)).bind fun y507 => (if y507.size + 1 ≤ 9223372036854775807 then ((some (y507 ++ (⟨#[46]⟩ : ByteArray) : ByteArray)).bind fun y508 => ((some (x3.extract (x4 : Int).toNat x3.size : ByteArray)).bind fun y509 => (if y508.size + y509.size ≤ 9223372036854775807 then (some (y508 ++ y509)) else (none)))) else (none))) else (none))) else (none)) else (none))))
end
def num_Text.f (k : Nat) (a0 : Nat) : Option (ByteArray) := (num_Digits.f k a0).bind fun bt492 => (if bt492.2.2 = true then (num_Text.j0 k a0 bt492.1 bt492.2.1 (⟨#[45]⟩ : ByteArray)) else (num_Text.j0 k a0 bt492.1 bt492.2.1 (⟨#[]⟩ : ByteArray)))
theorem num_Text.mono_l : ∀ k, (∀ y0 y1 y2 y3, LeO (num_Text.j0 k y0 y1 y2 y3) (num_Text.j0 (k + 1) y0 y1 y2 y3)) ∧ (∀ y0 y1 y2 y3, LeO (num_Text.j1 k y0 y1 y2 y3) (num_Text.j1 (k + 1) y0 y1 y2 y3))
 | 0 => ⟨fun _ _ _ _ r h => by simp [num_Text.j0] at h, fun _ _ _ _ r h => by simp [num_Text.j1] at h⟩
 | k + 1 => by
  obtain ⟨ih0, ih1⟩ := num_Text.mono_l k
  refine ⟨?_, ?_⟩
  ·
   intro y0 y1 y2 y3
   unfold num_Text.j0
   repeat' first | (with_reducible exact ih0 _ _ _ _) | (with_reducible exact ih1 _ _ _ _) | (with_reducible exact num_Digits.mono _ _) | (with_reducible exact num_scientific.mono _ _ _) | (with_reducible exact LeO.refl _) | (with_reducible exact LeO.none _) | (with_reducible refine LeO.ite ?_ ?_) | (with_reducible refine LeO.bind ?_ (fun _ => ?_))
  ·
   intro y0 y1 y2 y3
   unfold num_Text.j1
   repeat' first | (with_reducible exact ih0 _ _ _ _) | (with_reducible exact ih1 _ _ _ _) | (with_reducible exact num_Digits.mono _ _) | (with_reducible exact num_scientific.mono _ _ _) | (with_reducible exact LeO.refl _) | (with_reducible exact LeO.none _) | (with_reducible refine LeO.ite ?_ ?_) | (with_reducible refine LeO.bind ?_ (fun _ => ?_))
theorem num_Text.mono : ∀ a0 k, LeO (num_Text.f k a0) (num_Text.f (k + 1) a0) := by
 intro a0 k
 obtain ⟨ih0, ih1⟩ := num_Text.mono_l k
 unfold num_Text.f
 repeat' first | (with_reducible exact ih0 _ _ _ _) | (with_reducible exact ih1 _ _ _ _) | (with_reducible exact num_Digits.mono _ _) | (with_reducible exact num_scientific.mono _ _ _) | (with_reducible exact LeO.refl _) | (with_reducible exact LeO.none _) | (with_reducible refine LeO.ite ?_ ?_) | (with_reducible refine LeO.bind ?_ (fun _ => ?_))
set_option maxHeartbeats 8000000 in
set_option maxRecDepth 100000 in
theorem num_Text.calls (k : Nat) (a0 : Nat) (r : ByteArray) (w : World) (h : num_Text.f k a0 = some r) :
  Calls Tryd.prog 15 #[.float .f64 a0] w fun e w' => e = .returned (.string r) ∧ Below w.heap.size w w' := by
 have HB := Aside0.mk (Below.refl w.heap.size w)
 have H : ((num_Digits.f k a0).bind fun bt492 => (if bt492.2.2 = true then (num_Text.j0 k a0 bt492.1 bt492.2.1 (⟨#[45]⟩ : ByteArray)) else (num_Text.j0 k a0 bt492.1 bt492.2.1 (⟨#[]⟩ : ByteArray)))) = some r := h
 clear h
 replace H := Option.bind_eq_some_iff.mp H
 obtain ⟨⟨t492, t493, t494⟩, A20, H⟩ := H
 replace H : (if t494 = true then (num_Text.j0 k a0 t492 t493 (⟨#[45]⟩ : ByteArray)) else (num_Text.j0 k a0 t492 t493 (⟨#[]⟩ : ByteArray))) = some r := H
 have A2 := Aside0.mk A20
 clear A20
 have HC3 := Aside0.mk H
 clear H
 go_enter Tryd.func15, Tryd.ntmps15
 go_upto_if 13 with (first | (go_at_call 13; (with_reducible refine (num_Digits.calls k a0 t492 t493 t494 _ A2.out).mono ?_); rintro e w4 ⟨rfl, hb⟩; replace HB := lb HB hb; (try clear hb); (try clear hb2); (try clear hk); (try clear hi)))
 repeat (go_quiet (first | (go_at_call 13; (with_reducible refine (num_Digits.calls k a0 t492 t493 t494 _ A2.out).mono ?_); rintro e w4 ⟨rfl, hb⟩; replace HB := lb HB hb; (try clear hb); (try clear hb2); (try clear hk); (try clear hi))); go_upto_if 13 with (first | (go_at_call 13; (with_reducible refine (num_Digits.calls k a0 t492 t493 t494 _ A2.out).mono ?_); rintro e w4 ⟨rfl, hb⟩; replace HB := lb HB hb; (try clear hb); (try clear hb2); (try clear hk); (try clear hi))))
 (try simp only [Act.put, List.setIfInBounds_toArray, List.set_cons_zero, List.set_cons_succ])
 go_cut [6] (fun v6 wc => ∃ (kq : Nat) (x6_2 : ByteArray), v6 = .string x6_2 ∧ Aside0 (num_Text.j0 kq a0 t492 t493 x6_2 = some r) ∧ Aside0 (kq ≤ k) ∧ Aside0 (Below w.heap.size w wc))
 case first =>
  have H := HC3.out
  clear HC3
  by_cases c5 : t494 = true
  ·
   subst c5
   have H1 : (num_Text.j0 k a0 t492 t493 (⟨#[45]⟩ : ByteArray)) = some r := by rw [if_pos rfl] at H; exact H
   clear H
   have H := H1
   clear H1
   have H' := Aside0.mk H
   clear H
   go_wp2
   repeat (go_quiet (fail); try go_wp2)
   go_meet
   case rel => exact ⟨_, ((⟨#[45]⟩ : ByteArray)), (by first | rfl | (simp; done) | (simp [*]; done)), H', ⟨by first | omega | exact Nat.le_refl _⟩, ⟨lk HB⟩⟩
  ·
   replace c5 := Bool.eq_false_iff.mpr c5
   subst c5
   have H1 : (num_Text.j0 k a0 t492 t493 (⟨#[]⟩ : ByteArray)) = some r := by rw [if_neg (show ¬ (false = true) by decide)] at H; exact H
   clear H
   have H := H1
   clear H1
   have H' := Aside0.mk H
   clear H
   go_wp2
   repeat (go_quiet (fail); try go_wp2)
   go_meet
   case rel => exact ⟨_, ((⟨#[]⟩ : ByteArray)), (by first | rfl | (simp; done) | (simp [*]; done)), H', ⟨by first | omega | exact Nat.le_refl _⟩, ⟨lk HB⟩⟩
 case rest =>
  clear HC3
  try clear c1
  try clear p2
  try clear c5
  obtain ⟨kq, x6_2, rfl, HA, HJ2, HB⟩ := hcut
  cases kq with
  | zero => exact absurd HA.out (by simp [num_Text.j0])
  | succ kj2 =>
   have H := HA.out
   clear HA
   simp only [num_Text.j0] at H
   replace H := Option.bind_eq_some_iff.mp H
   obtain ⟨t495, A60, H⟩ := H
   replace H : (if t495 = true then (some (⟨#[78, 97, 78]⟩ : ByteArray)) else (if (FloatKind.f64.format.order a0 9218868437227405311 == some Ordering.gt) = true then (some (⟨#[43, 73, 110, 102]⟩ : ByteArray)) else (if (FloatKind.f64.format.order a0 18442240474082181119 == some Ordering.lt) = true then (some (⟨#[45, 73, 110, 102]⟩ : ByteArray)) else (if (FloatKind.f64.format.order a0 0 == some Ordering.eq) = true then (if x6_2.size + 1 ≤ 9223372036854775807 then (some (x6_2 ++ (⟨#[48]⟩ : ByteArray))) else (none)) else (if t493 < (-5) then (num_Text.j1 kj2 t492 t493 x6_2 true) else (num_Text.j1 kj2 t492 t493 x6_2 (decide (t493 > 21)))))))) = some r := H
   have A6 := Aside0.mk A60
   clear A60
   by_cases c7 : t495 = true
   ·
    subst c7
    have H1 : (some (⟨#[78, 97, 78]⟩ : ByteArray)) = some r := by rw [if_pos rfl] at H; exact H
    clear H
    have H := H1
    clear H1
    obtain rfl := Option.some.inj H
    go_wp2_with (first | (go_at_call 43; (with_reducible refine (math_IsNaN.calls a0 true _ A6.out).mono ?_); rintro e w' ⟨rfl, ⟨nd, rfl⟩⟩; (try first | exact ⟨rfl, _, World.drewN_drewN _ _ _⟩ | exact ⟨rfl, _, Eq.trans (World.drewN_drewN _ _ _) (congrArg (World.drewN _) (Nat.add_assoc _ _ _))⟩)))
    repeat (go_quiet (first | (go_at_call 43; (with_reducible refine (math_IsNaN.calls a0 true _ A6.out).mono ?_); rintro e w' ⟨rfl, ⟨nd, rfl⟩⟩; (try first | exact ⟨rfl, _, World.drewN_drewN _ _ _⟩ | exact ⟨rfl, _, Eq.trans (World.drewN_drewN _ _ _) (congrArg (World.drewN _) (Nat.add_assoc _ _ _))⟩))); try go_wp2_with (first | (go_at_call 43; (with_reducible refine (math_IsNaN.calls a0 true _ A6.out).mono ?_); rintro e w' ⟨rfl, ⟨nd, rfl⟩⟩; (try first | exact ⟨rfl, _, World.drewN_drewN _ _ _⟩ | exact ⟨rfl, _, Eq.trans (World.drewN_drewN _ _ _) (congrArg (World.drewN _) (Nat.add_assoc _ _ _))⟩))))
    go_ret
    exact ex (lk HB)
   ·
    replace c7 := Bool.eq_false_iff.mpr c7
    subst c7
    have H1 : (if (FloatKind.f64.format.order a0 9218868437227405311 == some Ordering.gt) = true then (some (⟨#[43, 73, 110, 102]⟩ : ByteArray)) else (if (FloatKind.f64.format.order a0 18442240474082181119 == some Ordering.lt) = true then (some (⟨#[45, 73, 110, 102]⟩ : ByteArray)) else (if (FloatKind.f64.format.order a0 0 == some Ordering.eq) = true then (if x6_2.size + 1 ≤ 9223372036854775807 then (some (x6_2 ++ (⟨#[48]⟩ : ByteArray))) else (none)) else (if t493 < (-5) then (num_Text.j1 kj2 t492 t493 x6_2 true) else (num_Text.j1 kj2 t492 t493 x6_2 (decide (t493 > 21))))))) = some r := by rw [if_neg (show ¬ (false = true) by decide)] at H; exact H
    clear H
    have H := H1
    clear H1
    by_cases c8 : (FloatKind.f64.format.order a0 9218868437227405311 == some Ordering.gt) = true
    ·
     rw [if_pos c8] at H
     have c8b0 : (FloatKind.f64.format.order a0 9218868437227405311 == some Ordering.gt) = true := c8
     (try (have c8b1 : decide (FloatKind.f64.format.order a0 9218868437227405311 = some Ordering.gt) = true := by simpa using c8))
     (try (have c8b2 : (FloatKind.f64.format.order a0 9218868437227405311 == some Ordering.gt) = true := by simpa using c8))
     clear c8
     obtain rfl := Option.some.inj H
     go_wp2_with (first | (go_at_call 43; (with_reducible refine (math_IsNaN.calls a0 false _ A6.out).mono ?_); rintro e w' ⟨rfl, ⟨nd, rfl⟩⟩; (try first | exact ⟨rfl, _, World.drewN_drewN _ _ _⟩ | exact ⟨rfl, _, Eq.trans (World.drewN_drewN _ _ _) (congrArg (World.drewN _) (Nat.add_assoc _ _ _))⟩)))
     repeat (go_quiet (first | (go_at_call 43; (with_reducible refine (math_IsNaN.calls a0 false _ A6.out).mono ?_); rintro e w' ⟨rfl, ⟨nd, rfl⟩⟩; (try first | exact ⟨rfl, _, World.drewN_drewN _ _ _⟩ | exact ⟨rfl, _, Eq.trans (World.drewN_drewN _ _ _) (congrArg (World.drewN _) (Nat.add_assoc _ _ _))⟩))); try go_wp2_with (first | (go_at_call 43; (with_reducible refine (math_IsNaN.calls a0 false _ A6.out).mono ?_); rintro e w' ⟨rfl, ⟨nd, rfl⟩⟩; (try first | exact ⟨rfl, _, World.drewN_drewN _ _ _⟩ | exact ⟨rfl, _, Eq.trans (World.drewN_drewN _ _ _) (congrArg (World.drewN _) (Nat.add_assoc _ _ _))⟩))))
     go_ret
     exact ex (lk HB)
    ·
     rw [if_neg c8] at H
     have c8b0 : (FloatKind.f64.format.order a0 9218868437227405311 == some Ordering.gt) = false := by simpa using c8
     (try (have c8b1 : decide (FloatKind.f64.format.order a0 9218868437227405311 = some Ordering.gt) = false := by simpa using c8))
     (try (have c8b2 : (FloatKind.f64.format.order a0 9218868437227405311 == some Ordering.gt) = false := by simpa using c8))
     (try (have c8b3 : ¬ (FloatKind.f64.format.order a0 9218868437227405311 = some Ordering.gt) := by simpa using c8))
     clear c8
     by_cases c9 : (FloatKind.f64.format.order a0 18442240474082181119 == some Ordering.lt) = true
     ·
      rw [if_pos c9] at H
      have c9b0 : (FloatKind.f64.format.order a0 18442240474082181119 == some Ordering.lt) = true := c9
      (try (have c9b1 : decide (FloatKind.f64.format.order a0 18442240474082181119 = some Ordering.lt) = true := by simpa using c9))
      (try (have c9b2 : (FloatKind.f64.format.order a0 18442240474082181119 == some Ordering.lt) = true := by simpa using c9))
      clear c9
      obtain rfl := Option.some.inj H
      go_wp2_with (first | (go_at_call 43; (with_reducible refine (math_IsNaN.calls a0 false _ A6.out).mono ?_); rintro e w' ⟨rfl, ⟨nd, rfl⟩⟩; (try first | exact ⟨rfl, _, World.drewN_drewN _ _ _⟩ | exact ⟨rfl, _, Eq.trans (World.drewN_drewN _ _ _) (congrArg (World.drewN _) (Nat.add_assoc _ _ _))⟩)))
      repeat (go_quiet (first | (go_at_call 43; (with_reducible refine (math_IsNaN.calls a0 false _ A6.out).mono ?_); rintro e w' ⟨rfl, ⟨nd, rfl⟩⟩; (try first | exact ⟨rfl, _, World.drewN_drewN _ _ _⟩ | exact ⟨rfl, _, Eq.trans (World.drewN_drewN _ _ _) (congrArg (World.drewN _) (Nat.add_assoc _ _ _))⟩))); try go_wp2_with (first | (go_at_call 43; (with_reducible refine (math_IsNaN.calls a0 false _ A6.out).mono ?_); rintro e w' ⟨rfl, ⟨nd, rfl⟩⟩; (try first | exact ⟨rfl, _, World.drewN_drewN _ _ _⟩ | exact ⟨rfl, _, Eq.trans (World.drewN_drewN _ _ _) (congrArg (World.drewN _) (Nat.add_assoc _ _ _))⟩))))
      go_ret
      exact ex (lk HB)
     ·
      rw [if_neg c9] at H
      have c9b0 : (FloatKind.f64.format.order a0 18442240474082181119 == some Ordering.lt) = false := by simpa using c9
      (try (have c9b1 : decide (FloatKind.f64.format.order a0 18442240474082181119 = some Ordering.lt) = false := by simpa using c9))
      (try (have c9b2 : (FloatKind.f64.format.order a0 18442240474082181119 == some Ordering.lt) = false := by simpa using c9))
      (try (have c9b3 : ¬ (FloatKind.f64.format.order a0 18442240474082181119 = some Ordering.lt) := by simpa using c9))
      clear c9
      by_cases c10 : (FloatKind.f64.format.order a0 0 == some Ordering.eq) = true
      ·
       rw [if_pos c10] at H
       have c10b0 : (FloatKind.f64.format.order a0 0 == some Ordering.eq) = true := c10
       (try (have c10b1 : decide (FloatKind.f64.format.order a0 0 = some Ordering.eq) = true := by simpa using c10))
       (try (have c10b2 : (FloatKind.f64.format.order a0 0 == some Ordering.eq) = true := by simpa using c10))
       clear c10
       by_cases c11 : x6_2.size + 1 ≤ 9223372036854775807
       ·
        rw [if_pos c11] at H
        have c11b0 := eq_true c11
        have c11b1 : decide (x6_2.size + 1 ≤ 9223372036854775807) = true := decide_eq_true c11
        try have c11b2 : (9223372036854775807 < x6_2.size + 1) = False := eq_false (Nat.not_lt.2 c11)
        obtain ⟨y496, hy496⟩ : ∃ y_ : ByteArray, y_ = (x6_2 ++ (⟨#[48]⟩ : ByteArray)) := ⟨_, rfl⟩
        replace H : (some y496) = some r := by first | (rw [hy496]; with_reducible exact H) | (have H2_ := (Option.bind_some _ _).symm.trans H; rw [hy496]; with_reducible exact H2_) | (have H2_ := (Option.bind_some _ _).symm.trans H; with_reducible exact H2_) | with_reducible exact H | (rw [hy496]; exact H) | exact H
        have Ny496 := Aside0.mk hy496
        clear hy496
        obtain rfl := Option.some.inj H
        go_wp2_with (first | (go_at_call 43; (with_reducible refine (math_IsNaN.calls a0 false _ A6.out).mono ?_); rintro e w' ⟨rfl, ⟨nd, rfl⟩⟩; (try first | exact ⟨rfl, _, World.drewN_drewN _ _ _⟩ | exact ⟨rfl, _, Eq.trans (World.drewN_drewN _ _ _) (congrArg (World.drewN _) (Nat.add_assoc _ _ _))⟩); have hcs12 := Hd.str_cat (P := Tryd.prog) (s := x6_2) (t := (⟨#[48]⟩ : ByteArray)) (y := y496) (by first | (with_reducible assumption) | assumption | exact of_eq_true (by assumption) | omega) Ny496.out; have hcs12' := Hd.str_cat' (P := Tryd.prog) (s := x6_2) (t := (⟨#[48]⟩ : ByteArray)) (y := y496) (by first | (with_reducible assumption) | assumption | exact of_eq_true (by assumption) | omega) Ny496.out))
        repeat (go_quiet (first | (go_at_call 43; (with_reducible refine (math_IsNaN.calls a0 false _ A6.out).mono ?_); rintro e w' ⟨rfl, ⟨nd, rfl⟩⟩; (try first | exact ⟨rfl, _, World.drewN_drewN _ _ _⟩ | exact ⟨rfl, _, Eq.trans (World.drewN_drewN _ _ _) (congrArg (World.drewN _) (Nat.add_assoc _ _ _))⟩); have hcs12 := Hd.str_cat (P := Tryd.prog) (s := x6_2) (t := (⟨#[48]⟩ : ByteArray)) (y := y496) (by first | (with_reducible assumption) | assumption | exact of_eq_true (by assumption) | omega) Ny496.out; have hcs12' := Hd.str_cat' (P := Tryd.prog) (s := x6_2) (t := (⟨#[48]⟩ : ByteArray)) (y := y496) (by first | (with_reducible assumption) | assumption | exact of_eq_true (by assumption) | omega) Ny496.out)); try go_wp2_with (first | (go_at_call 43; (with_reducible refine (math_IsNaN.calls a0 false _ A6.out).mono ?_); rintro e w' ⟨rfl, ⟨nd, rfl⟩⟩; (try first | exact ⟨rfl, _, World.drewN_drewN _ _ _⟩ | exact ⟨rfl, _, Eq.trans (World.drewN_drewN _ _ _) (congrArg (World.drewN _) (Nat.add_assoc _ _ _))⟩); have hcs12 := Hd.str_cat (P := Tryd.prog) (s := x6_2) (t := (⟨#[48]⟩ : ByteArray)) (y := y496) (by first | (with_reducible assumption) | assumption | exact of_eq_true (by assumption) | omega) Ny496.out; have hcs12' := Hd.str_cat' (P := Tryd.prog) (s := x6_2) (t := (⟨#[48]⟩ : ByteArray)) (y := y496) (by first | (with_reducible assumption) | assumption | exact of_eq_true (by assumption) | omega) Ny496.out)))
        go_ret
        exact ex (lk HB)
       ·
        rw [if_neg c11] at H
        exact absurd H (by simp)
      ·
       rw [if_neg c10] at H
       have c10b0 : (FloatKind.f64.format.order a0 0 == some Ordering.eq) = false := by simpa using c10
       (try (have c10b1 : decide (FloatKind.f64.format.order a0 0 = some Ordering.eq) = false := by simpa using c10))
       (try (have c10b2 : (FloatKind.f64.format.order a0 0 == some Ordering.eq) = false := by simpa using c10))
       (try (have c10b3 : ¬ (FloatKind.f64.format.order a0 0 = some Ordering.eq) := by simpa using c10))
       clear c10
       have HC13 := Aside0.mk H
       clear H
       go_upto_region 13 with (first | (go_at_call 43; (with_reducible refine (math_IsNaN.calls a0 false _ A6.out).mono ?_); rintro e w' ⟨rfl, ⟨nd, rfl⟩⟩; (try first | exact ⟨rfl, _, World.drewN_drewN _ _ _⟩ | exact ⟨rfl, _, Eq.trans (World.drewN_drewN _ _ _) (congrArg (World.drewN _) (Nat.add_assoc _ _ _))⟩)))
       repeat (go_quiet (first | (go_at_call 43; (with_reducible refine (math_IsNaN.calls a0 false _ A6.out).mono ?_); rintro e w' ⟨rfl, ⟨nd, rfl⟩⟩; (try first | exact ⟨rfl, _, World.drewN_drewN _ _ _⟩ | exact ⟨rfl, _, Eq.trans (World.drewN_drewN _ _ _) (congrArg (World.drewN _) (Nat.add_assoc _ _ _))⟩))); go_upto_region 13 with (first | (go_at_call 43; (with_reducible refine (math_IsNaN.calls a0 false _ A6.out).mono ?_); rintro e w' ⟨rfl, ⟨nd, rfl⟩⟩; (try first | exact ⟨rfl, _, World.drewN_drewN _ _ _⟩ | exact ⟨rfl, _, Eq.trans (World.drewN_drewN _ _ _) (congrArg (World.drewN _) (Nat.add_assoc _ _ _))⟩))))
       (try simp only [Act.put, List.setIfInBounds_toArray, List.set_cons_zero, List.set_cons_succ])
       go_cut [28] (fun v28 wc => ∃ (kq : Nat) (x28_12 : Bool), v28 = .bool x28_12 ∧ Aside0 (num_Text.j1 kq t492 t493 x6_2 x28_12 = some r) ∧ Aside0 (kq ≤ kj2) ∧ Aside0 (Below w.heap.size w wc))
       case first =>
        have H := HC13.out
        clear HC13
        by_cases c14 : t493 < (-5)
        ·
         rw [if_pos c14] at H
         have c14b0 : decide (t493 < (-5)) = true := decide_eq_true c14
         clear c14
         (first | rw [c14b0] | (simp only [i64_w, i32_w]; rw [c14b0]) | skip)
         have H' := Aside0.mk H
         clear H
         go_wp2
         repeat (go_quiet (fail); try go_wp2)
         go_meet
         case rel => exact ⟨_, (true), (by first | rfl | (simp; done) | (simp [*]; done)), H', ⟨by have := HJ2.out; first | omega | exact Nat.le_refl _⟩, ⟨lk HB⟩⟩
        ·
         rw [if_neg c14] at H
         have c14b0 : decide (t493 < (-5)) = false := decide_eq_false c14
         clear c14
         (first | rw [c14b0] | (simp only [i64_w, i32_w]; rw [c14b0]) | skip)
         have H' := Aside0.mk H
         clear H
         go_wp2
         repeat (go_quiet (fail); try go_wp2)
         go_meet
         case rel => exact ⟨_, (decide (t493 > 21)), (by first | rfl | (simp; done) | (simp [*]; done)), H', ⟨by have := HJ2.out; first | omega | exact Nat.le_refl _⟩, ⟨lk HB⟩⟩
       case rest =>
        clear HC13
        try clear c1
        try clear p2
        try clear c5
        try clear c7
        try clear c8
        try clear c8b0
        try clear c8b1
        try clear c8b2
        try clear c9
        try clear c9b0
        try clear c9b1
        try clear c9b2
        try clear c10
        try clear c10b0
        try clear c10b1
        try clear c10b2
        try clear c11
        try clear c11b0
        try clear c11b1
        try clear c11b2
        try clear c14
        try clear c14b0
        try clear p2
        obtain ⟨kq, x28_12, rfl, HA, HJ12, HB⟩ := hcut
        cases kq with
        | zero => exact absurd HA.out (by simp [num_Text.j1])
        | succ kj12 =>
         have H := HA.out
         clear HA
         simp only [num_Text.j1] at H
         by_cases c15 : x28_12 = true
         ·
          subst c15
          have H1 : ((num_scientific.f kj12 t492 (wrap64 (t493 - 1))).bind fun t497 => (if x6_2.size + t497.size ≤ 9223372036854775807 then (some (x6_2 ++ t497)) else (none))) = some r := by rw [if_pos rfl] at H; exact H
          clear H
          have H := H1
          clear H1
          replace H := Option.bind_eq_some_iff.mp H
          obtain ⟨t497, A160, H⟩ := H
          replace H : (if x6_2.size + t497.size ≤ 9223372036854775807 then (some (x6_2 ++ t497)) else (none)) = some r := H
          have A16 := Aside0.mk A160
          clear A160
          by_cases c17 : x6_2.size + t497.size ≤ 9223372036854775807
          ·
           rw [if_pos c17] at H
           have c17b0 := eq_true c17
           have c17b1 : decide (x6_2.size + t497.size ≤ 9223372036854775807) = true := decide_eq_true c17
           try have c17b2 : (9223372036854775807 < x6_2.size + t497.size) = False := eq_false (Nat.not_lt.2 c17)
           obtain ⟨y498, hy498⟩ : ∃ y_ : ByteArray, y_ = (x6_2 ++ t497) := ⟨_, rfl⟩
           replace H : (some y498) = some r := by first | (rw [hy498]; with_reducible exact H) | (have H2_ := (Option.bind_some _ _).symm.trans H; rw [hy498]; with_reducible exact H2_) | (have H2_ := (Option.bind_some _ _).symm.trans H; with_reducible exact H2_) | with_reducible exact H | (rw [hy498]; exact H) | exact H
           have Ny498 := Aside0.mk hy498
           clear hy498
           obtain rfl := Option.some.inj H
           go_wp2_with (first | (go_at_call 61; (with_reducible refine (num_scientific.calls kj12 t492 (wrap64 (t493 - 1)) t497 _ A16.out).mono ?_); rintro e w18 ⟨rfl, hb⟩; replace HB := lb HB hb; (try clear hb); (try clear hb2); (try clear hk); (try clear hi); have hcs19 := Hd.str_cat (P := Tryd.prog) (s := x6_2) (t := t497) (y := y498) (by first | (with_reducible assumption) | assumption | exact of_eq_true (by assumption) | omega) Ny498.out; have hcs19' := Hd.str_cat' (P := Tryd.prog) (s := x6_2) (t := t497) (y := y498) (by first | (with_reducible assumption) | assumption | exact of_eq_true (by assumption) | omega) Ny498.out))
           repeat (go_quiet (first | (go_at_call 61; (with_reducible refine (num_scientific.calls kj12 t492 (wrap64 (t493 - 1)) t497 _ A16.out).mono ?_); rintro e w18 ⟨rfl, hb⟩; replace HB := lb HB hb; (try clear hb); (try clear hb2); (try clear hk); (try clear hi); have hcs19 := Hd.str_cat (P := Tryd.prog) (s := x6_2) (t := t497) (y := y498) (by first | (with_reducible assumption) | assumption | exact of_eq_true (by assumption) | omega) Ny498.out; have hcs19' := Hd.str_cat' (P := Tryd.prog) (s := x6_2) (t := t497) (y := y498) (by first | (with_reducible assumption) | assumption | exact of_eq_true (by assumption) | omega) Ny498.out)); try go_wp2_with (first | (go_at_call 61; (with_reducible refine (num_scientific.calls kj12 t492 (wrap64 (t493 - 1)) t497 _ A16.out).mono ?_); rintro e w18 ⟨rfl, hb⟩; replace HB := lb HB hb; (try clear hb); (try clear hb2); (try clear hk); (try clear hi); have hcs19 := Hd.str_cat (P := Tryd.prog) (s := x6_2) (t := t497) (y := y498) (by first | (with_reducible assumption) | assumption | exact of_eq_true (by assumption) | omega) Ny498.out; have hcs19' := Hd.str_cat' (P := Tryd.prog) (s := x6_2) (t := t497) (y := y498) (by first | (with_reducible assumption) | assumption | exact of_eq_true (by assumption) | omega) Ny498.out)))
           go_ret
           exact ex (lk HB)
          ·
           rw [if_neg c17] at H
           exact absurd H (by simp)
         ·
          replace c15 := Bool.eq_false_iff.mpr c15
          subst c15
          have H1 : (if t493 ≤ 0 then (if x6_2.size + 2 ≤ 9223372036854775807 then ((some (x6_2 ++ (⟨#[48, 46]⟩ : ByteArray) : ByteArray)).bind fun y499 => ((Hd.strings_Repeat.f (⟨#[48]⟩ : ByteArray) (wrap64 (-t493))).bind fun t500 => (if y499.size + t500.size ≤ 9223372036854775807 then ((some (y499 ++ t500 : ByteArray)).bind fun y501 => (if y501.size + t492.size ≤ 9223372036854775807 then (some (y501 ++ t492)) else (none))) else (none)))) else (none)) else (if t493 ≥ (t492.size : Int) then (if x6_2.size + t492.size ≤ 9223372036854775807 then ((some (x6_2 ++ t492 : ByteArray)).bind fun y503 => ((Hd.strings_Repeat.f (⟨#[48]⟩ : ByteArray) (wrap64 (t493 - (t492.size : Int)))).bind fun t504 => (if y503.size + t504.size ≤ 9223372036854775807 then (some (y503 ++ t504)) else (none)))) else (none)) else (if 0 ≤ t493 then (if t493 ≤ (t492.size : Int) then ((some (t492.extract 0 (t493 : Int).toNat : ByteArray)).bind fun y506 => (if x6_2.size + y506.size ≤ 9223372036854775807 then ((some (x6_2 ++ y506 : ByteArray)).bind fun y507 => (if y507.size + 1 ≤ 9223372036854775807 then ((some (y507 ++ (⟨#[46]⟩ : ByteArray) : ByteArray)).bind fun y508 => ((some (t492.extract (t493 : Int).toNat t492.size : ByteArray)).bind fun y509 => (if y508.size + y509.size ≤ 9223372036854775807 then (some (y508 ++ y509)) else (none)))) else (none))) else (none))) else (none)) else (none)))) = some r := by rw [if_neg (show ¬ (false = true) by decide)] at H; exact H
          clear H
          have H := H1
          clear H1
          by_cases c20 : t493 ≤ 0
          ·
           rw [if_pos c20] at H
           have c20b0 : decide (t493 ≤ 0) = true := decide_eq_true c20
           clear c20
           by_cases c21 : x6_2.size + 2 ≤ 9223372036854775807
           ·
            rw [if_pos c21] at H
            have c21b0 := eq_true c21
            have c21b1 : decide (x6_2.size + 2 ≤ 9223372036854775807) = true := decide_eq_true c21
            try have c21b2 : (9223372036854775807 < x6_2.size + 2) = False := eq_false (Nat.not_lt.2 c21)
            obtain ⟨y499, hy499⟩ : ∃ y_ : ByteArray, y_ = (x6_2 ++ (⟨#[48, 46]⟩ : ByteArray)) := ⟨_, rfl⟩
            replace H : ((Hd.strings_Repeat.f (⟨#[48]⟩ : ByteArray) (wrap64 (-t493))).bind fun t500 => (if y499.size + t500.size ≤ 9223372036854775807 then ((some (y499 ++ t500 : ByteArray)).bind fun y501 => (if y501.size + t492.size ≤ 9223372036854775807 then (some (y501 ++ t492)) else (none))) else (none))) = some r := by first | (rw [hy499]; with_reducible exact H) | (have H2_ := (Option.bind_some _ _).symm.trans H; rw [hy499]; with_reducible exact H2_) | (have H2_ := (Option.bind_some _ _).symm.trans H; with_reducible exact H2_) | with_reducible exact H | (rw [hy499]; exact H) | exact H
            have Ny499 := Aside0.mk hy499
            clear hy499
            replace H := Option.bind_eq_some_iff.mp H
            obtain ⟨t500, A220, H⟩ := H
            replace H : (if y499.size + t500.size ≤ 9223372036854775807 then ((some (y499 ++ t500 : ByteArray)).bind fun y501 => (if y501.size + t492.size ≤ 9223372036854775807 then (some (y501 ++ t492)) else (none))) else (none)) = some r := H
            have A22 := Aside0.mk A220
            clear A220
            by_cases c23 : y499.size + t500.size ≤ 9223372036854775807
            ·
             rw [if_pos c23] at H
             have c23b0 := eq_true c23
             have c23b1 : decide (y499.size + t500.size ≤ 9223372036854775807) = true := decide_eq_true c23
             try have c23b2 : (9223372036854775807 < y499.size + t500.size) = False := eq_false (Nat.not_lt.2 c23)
             obtain ⟨y501, hy501⟩ : ∃ y_ : ByteArray, y_ = (y499 ++ t500) := ⟨_, rfl⟩
             replace H : (if y501.size + t492.size ≤ 9223372036854775807 then (some (y501 ++ t492)) else (none)) = some r := by first | (rw [hy501]; with_reducible exact H) | (have H2_ := (Option.bind_some _ _).symm.trans H; rw [hy501]; with_reducible exact H2_) | (have H2_ := (Option.bind_some _ _).symm.trans H; with_reducible exact H2_) | with_reducible exact H | (rw [hy501]; exact H) | exact H
             have Ny501 := Aside0.mk hy501
             clear hy501
             by_cases c24 : y501.size + t492.size ≤ 9223372036854775807
             ·
              rw [if_pos c24] at H
              have c24b0 := eq_true c24
              have c24b1 : decide (y501.size + t492.size ≤ 9223372036854775807) = true := decide_eq_true c24
              try have c24b2 : (9223372036854775807 < y501.size + t492.size) = False := eq_false (Nat.not_lt.2 c24)
              obtain ⟨y502, hy502⟩ : ∃ y_ : ByteArray, y_ = (y501 ++ t492) := ⟨_, rfl⟩
              replace H : (some y502) = some r := by first | (rw [hy502]; with_reducible exact H) | (have H2_ := (Option.bind_some _ _).symm.trans H; rw [hy502]; with_reducible exact H2_) | (have H2_ := (Option.bind_some _ _).symm.trans H; with_reducible exact H2_) | with_reducible exact H | (rw [hy502]; exact H) | exact H
              have Ny502 := Aside0.mk hy502
              clear hy502
              obtain rfl := Option.some.inj H
              have hcs25 := Hd.str_cat (P := Tryd.prog) (s := x6_2) (t := (⟨#[48, 46]⟩ : ByteArray)) (y := y499) (by first | (with_reducible assumption) | assumption | exact of_eq_true (by assumption) | omega) Ny499.out
              have hcs25' := Hd.str_cat' (P := Tryd.prog) (s := x6_2) (t := (⟨#[48, 46]⟩ : ByteArray)) (y := y499) (by first | (with_reducible assumption) | assumption | exact of_eq_true (by assumption) | omega) Ny499.out
              go_wp2_with (first | (go_at_call 62; (with_reducible refine (Hd.strings_Repeat.calls (⟨#[48]⟩ : ByteArray) (wrap64 (-t493)) t500 _ A22.out).mono ?_); rintro e w26 ⟨rfl, hb⟩; replace HB := lb HB hb; (try clear hb); (try clear hb2); (try clear hk); (try clear hi); have hcs27 := Hd.str_cat (P := Tryd.prog) (s := y499) (t := t500) (y := y501) (by first | (with_reducible assumption) | assumption | exact of_eq_true (by assumption) | omega) Ny501.out; have hcs27' := Hd.str_cat' (P := Tryd.prog) (s := y499) (t := t500) (y := y501) (by first | (with_reducible assumption) | assumption | exact of_eq_true (by assumption) | omega) Ny501.out; have hcs28 := Hd.str_cat (P := Tryd.prog) (s := y501) (t := t492) (y := y502) (by first | (with_reducible assumption) | assumption | exact of_eq_true (by assumption) | omega) Ny502.out; have hcs28' := Hd.str_cat' (P := Tryd.prog) (s := y501) (t := t492) (y := y502) (by first | (with_reducible assumption) | assumption | exact of_eq_true (by assumption) | omega) Ny502.out))
              repeat (go_quiet (first | (go_at_call 62; (with_reducible refine (Hd.strings_Repeat.calls (⟨#[48]⟩ : ByteArray) (wrap64 (-t493)) t500 _ A22.out).mono ?_); rintro e w26 ⟨rfl, hb⟩; replace HB := lb HB hb; (try clear hb); (try clear hb2); (try clear hk); (try clear hi); have hcs27 := Hd.str_cat (P := Tryd.prog) (s := y499) (t := t500) (y := y501) (by first | (with_reducible assumption) | assumption | exact of_eq_true (by assumption) | omega) Ny501.out; have hcs27' := Hd.str_cat' (P := Tryd.prog) (s := y499) (t := t500) (y := y501) (by first | (with_reducible assumption) | assumption | exact of_eq_true (by assumption) | omega) Ny501.out; have hcs28 := Hd.str_cat (P := Tryd.prog) (s := y501) (t := t492) (y := y502) (by first | (with_reducible assumption) | assumption | exact of_eq_true (by assumption) | omega) Ny502.out; have hcs28' := Hd.str_cat' (P := Tryd.prog) (s := y501) (t := t492) (y := y502) (by first | (with_reducible assumption) | assumption | exact of_eq_true (by assumption) | omega) Ny502.out)); try go_wp2_with (first | (go_at_call 62; (with_reducible refine (Hd.strings_Repeat.calls (⟨#[48]⟩ : ByteArray) (wrap64 (-t493)) t500 _ A22.out).mono ?_); rintro e w26 ⟨rfl, hb⟩; replace HB := lb HB hb; (try clear hb); (try clear hb2); (try clear hk); (try clear hi); have hcs27 := Hd.str_cat (P := Tryd.prog) (s := y499) (t := t500) (y := y501) (by first | (with_reducible assumption) | assumption | exact of_eq_true (by assumption) | omega) Ny501.out; have hcs27' := Hd.str_cat' (P := Tryd.prog) (s := y499) (t := t500) (y := y501) (by first | (with_reducible assumption) | assumption | exact of_eq_true (by assumption) | omega) Ny501.out; have hcs28 := Hd.str_cat (P := Tryd.prog) (s := y501) (t := t492) (y := y502) (by first | (with_reducible assumption) | assumption | exact of_eq_true (by assumption) | omega) Ny502.out; have hcs28' := Hd.str_cat' (P := Tryd.prog) (s := y501) (t := t492) (y := y502) (by first | (with_reducible assumption) | assumption | exact of_eq_true (by assumption) | omega) Ny502.out)))
              go_ret
              exact ex (lk HB)
             ·
              rw [if_neg c24] at H
              exact absurd H (by simp)
            ·
             rw [if_neg c23] at H
             exact absurd H (by simp)
           ·
            rw [if_neg c21] at H
            exact absurd H (by simp)
          ·
           rw [if_neg c20] at H
           have c20b0 : decide (t493 ≤ 0) = false := decide_eq_false c20
           clear c20
           by_cases c29 : t493 ≥ (t492.size : Int)
           ·
            rw [if_pos c29] at H
            have c29b0 : decide ((t492.size : Int) ≤ t493) = true := decide_eq_true c29
            clear c29
            by_cases c30 : x6_2.size + t492.size ≤ 9223372036854775807
            ·
             rw [if_pos c30] at H
             have c30b0 := eq_true c30
             have c30b1 : decide (x6_2.size + t492.size ≤ 9223372036854775807) = true := decide_eq_true c30
             try have c30b2 : (9223372036854775807 < x6_2.size + t492.size) = False := eq_false (Nat.not_lt.2 c30)
             obtain ⟨y503, hy503⟩ : ∃ y_ : ByteArray, y_ = (x6_2 ++ t492) := ⟨_, rfl⟩
             replace H : ((Hd.strings_Repeat.f (⟨#[48]⟩ : ByteArray) (wrap64 (t493 - (t492.size : Int)))).bind fun t504 => (if y503.size + t504.size ≤ 9223372036854775807 then (some (y503 ++ t504)) else (none))) = some r := by first | (rw [hy503]; with_reducible exact H) | (have H2_ := (Option.bind_some _ _).symm.trans H; rw [hy503]; with_reducible exact H2_) | (have H2_ := (Option.bind_some _ _).symm.trans H; with_reducible exact H2_) | with_reducible exact H | (rw [hy503]; exact H) | exact H
             have Ny503 := Aside0.mk hy503
             clear hy503
             replace H := Option.bind_eq_some_iff.mp H
             obtain ⟨t504, A310, H⟩ := H
             replace H : (if y503.size + t504.size ≤ 9223372036854775807 then (some (y503 ++ t504)) else (none)) = some r := H
             have A31 := Aside0.mk A310
             clear A310
             by_cases c32 : y503.size + t504.size ≤ 9223372036854775807
             ·
              rw [if_pos c32] at H
              have c32b0 := eq_true c32
              have c32b1 : decide (y503.size + t504.size ≤ 9223372036854775807) = true := decide_eq_true c32
              try have c32b2 : (9223372036854775807 < y503.size + t504.size) = False := eq_false (Nat.not_lt.2 c32)
              obtain ⟨y505, hy505⟩ : ∃ y_ : ByteArray, y_ = (y503 ++ t504) := ⟨_, rfl⟩
              replace H : (some y505) = some r := by first | (rw [hy505]; with_reducible exact H) | (have H2_ := (Option.bind_some _ _).symm.trans H; rw [hy505]; with_reducible exact H2_) | (have H2_ := (Option.bind_some _ _).symm.trans H; with_reducible exact H2_) | with_reducible exact H | (rw [hy505]; exact H) | exact H
              have Ny505 := Aside0.mk hy505
              clear hy505
              obtain rfl := Option.some.inj H
              have hcs33 := Hd.str_cat (P := Tryd.prog) (s := x6_2) (t := t492) (y := y503) (by first | (with_reducible assumption) | assumption | exact of_eq_true (by assumption) | omega) Ny503.out
              have hcs33' := Hd.str_cat' (P := Tryd.prog) (s := x6_2) (t := t492) (y := y503) (by first | (with_reducible assumption) | assumption | exact of_eq_true (by assumption) | omega) Ny503.out
              go_wp2_with (first | (go_at_call 62; (with_reducible refine (Hd.strings_Repeat.calls (⟨#[48]⟩ : ByteArray) (wrap64 (t493 - (t492.size : Int))) t504 _ A31.out).mono ?_); rintro e w34 ⟨rfl, hb⟩; replace HB := lb HB hb; (try clear hb); (try clear hb2); (try clear hk); (try clear hi); have hcs35 := Hd.str_cat (P := Tryd.prog) (s := y503) (t := t504) (y := y505) (by first | (with_reducible assumption) | assumption | exact of_eq_true (by assumption) | omega) Ny505.out; have hcs35' := Hd.str_cat' (P := Tryd.prog) (s := y503) (t := t504) (y := y505) (by first | (with_reducible assumption) | assumption | exact of_eq_true (by assumption) | omega) Ny505.out))
              repeat (go_quiet (first | (go_at_call 62; (with_reducible refine (Hd.strings_Repeat.calls (⟨#[48]⟩ : ByteArray) (wrap64 (t493 - (t492.size : Int))) t504 _ A31.out).mono ?_); rintro e w34 ⟨rfl, hb⟩; replace HB := lb HB hb; (try clear hb); (try clear hb2); (try clear hk); (try clear hi); have hcs35 := Hd.str_cat (P := Tryd.prog) (s := y503) (t := t504) (y := y505) (by first | (with_reducible assumption) | assumption | exact of_eq_true (by assumption) | omega) Ny505.out; have hcs35' := Hd.str_cat' (P := Tryd.prog) (s := y503) (t := t504) (y := y505) (by first | (with_reducible assumption) | assumption | exact of_eq_true (by assumption) | omega) Ny505.out)); try go_wp2_with (first | (go_at_call 62; (with_reducible refine (Hd.strings_Repeat.calls (⟨#[48]⟩ : ByteArray) (wrap64 (t493 - (t492.size : Int))) t504 _ A31.out).mono ?_); rintro e w34 ⟨rfl, hb⟩; replace HB := lb HB hb; (try clear hb); (try clear hb2); (try clear hk); (try clear hi); have hcs35 := Hd.str_cat (P := Tryd.prog) (s := y503) (t := t504) (y := y505) (by first | (with_reducible assumption) | assumption | exact of_eq_true (by assumption) | omega) Ny505.out; have hcs35' := Hd.str_cat' (P := Tryd.prog) (s := y503) (t := t504) (y := y505) (by first | (with_reducible assumption) | assumption | exact of_eq_true (by assumption) | omega) Ny505.out)))
              go_ret
              exact ex (lk HB)
             ·
              rw [if_neg c32] at H
              exact absurd H (by simp)
            ·
             rw [if_neg c30] at H
             exact absurd H (by simp)
           ·
            rw [if_neg c29] at H
            have c29b0 : decide ((t492.size : Int) ≤ t493) = false := decide_eq_false c29
            clear c29
            by_cases c36 : 0 ≤ t493
            ·
             rw [if_pos c36] at H
             have c36b0 := eq_true c36
             have c36b1 : decide (0 ≤ t493) = true := decide_eq_true c36
             clear c36
             by_cases c37 : t493 ≤ (t492.size : Int)
             ·
              rw [if_pos c37] at H
              have c37b0 := eq_true c37
              have c37b1 : decide (t493 ≤ (t492.size : Int)) = true := decide_eq_true c37
              clear c37
              obtain ⟨y506, hy506⟩ : ∃ y_ : ByteArray, y_ = (t492.extract 0 (t493 : Int).toNat) := ⟨_, rfl⟩
              replace H : (if x6_2.size + y506.size ≤ 9223372036854775807 then ((some (x6_2 ++ y506 : ByteArray)).bind fun y507 => (if y507.size + 1 ≤ 9223372036854775807 then ((some (y507 ++ (⟨#[46]⟩ : ByteArray) : ByteArray)).bind fun y508 => ((some (t492.extract (t493 : Int).toNat t492.size : ByteArray)).bind fun y509 => (if y508.size + y509.size ≤ 9223372036854775807 then (some (y508 ++ y509)) else (none)))) else (none))) else (none)) = some r := by first | (rw [hy506]; with_reducible exact H) | (have H2_ := (Option.bind_some _ _).symm.trans H; rw [hy506]; with_reducible exact H2_) | (have H2_ := (Option.bind_some _ _).symm.trans H; with_reducible exact H2_) | with_reducible exact H | (rw [hy506]; exact H) | exact H
              have Ny506 := Aside0.mk hy506
              clear hy506
              by_cases c38 : x6_2.size + y506.size ≤ 9223372036854775807
              ·
               rw [if_pos c38] at H
               have c38b0 := eq_true c38
               have c38b1 : decide (x6_2.size + y506.size ≤ 9223372036854775807) = true := decide_eq_true c38
               try have c38b2 : (9223372036854775807 < x6_2.size + y506.size) = False := eq_false (Nat.not_lt.2 c38)
               obtain ⟨y507, hy507⟩ : ∃ y_ : ByteArray, y_ = (x6_2 ++ y506) := ⟨_, rfl⟩
               replace H : (if y507.size + 1 ≤ 9223372036854775807 then ((some (y507 ++ (⟨#[46]⟩ : ByteArray) : ByteArray)).bind fun y508 => ((some (t492.extract (t493 : Int).toNat t492.size : ByteArray)).bind fun y509 => (if y508.size + y509.size ≤ 9223372036854775807 then (some (y508 ++ y509)) else (none)))) else (none)) = some r := by first | (rw [hy507]; with_reducible exact H) | (have H2_ := (Option.bind_some _ _).symm.trans H; rw [hy507]; with_reducible exact H2_) | (have H2_ := (Option.bind_some _ _).symm.trans H; with_reducible exact H2_) | with_reducible exact H | (rw [hy507]; exact H) | exact H
               have Ny507 := Aside0.mk hy507
               clear hy507
               by_cases c39 : y507.size + 1 ≤ 9223372036854775807
               ·
                rw [if_pos c39] at H
                have c39b0 := eq_true c39
                have c39b1 : decide (y507.size + 1 ≤ 9223372036854775807) = true := decide_eq_true c39
                try have c39b2 : (9223372036854775807 < y507.size + 1) = False := eq_false (Nat.not_lt.2 c39)
                obtain ⟨y508, hy508⟩ : ∃ y_ : ByteArray, y_ = (y507 ++ (⟨#[46]⟩ : ByteArray)) := ⟨_, rfl⟩
                replace H : ((some (t492.extract (t493 : Int).toNat t492.size : ByteArray)).bind fun y509 => (if y508.size + y509.size ≤ 9223372036854775807 then (some (y508 ++ y509)) else (none))) = some r := by first | (rw [hy508]; with_reducible exact H) | (have H2_ := (Option.bind_some _ _).symm.trans H; rw [hy508]; with_reducible exact H2_) | (have H2_ := (Option.bind_some _ _).symm.trans H; with_reducible exact H2_) | with_reducible exact H | (rw [hy508]; exact H) | exact H
                have Ny508 := Aside0.mk hy508
                clear hy508
                have c40b0 := eq_true (of_decide_eq_true (by first | (with_reducible assumption) | assumption) : 0 ≤ t493)
                have c41b0 := eq_true (of_decide_eq_true (by first | (with_reducible assumption) | assumption) : t493 ≤ (t492.size : Int))
                obtain ⟨y509, hy509⟩ : ∃ y_ : ByteArray, y_ = (t492.extract (t493 : Int).toNat t492.size) := ⟨_, rfl⟩
                replace H : (if y508.size + y509.size ≤ 9223372036854775807 then (some (y508 ++ y509)) else (none)) = some r := by first | (rw [hy509]; with_reducible exact H) | (have H2_ := (Option.bind_some _ _).symm.trans H; rw [hy509]; with_reducible exact H2_) | (have H2_ := (Option.bind_some _ _).symm.trans H; with_reducible exact H2_) | with_reducible exact H | (rw [hy509]; exact H) | exact H
                have Ny509 := Aside0.mk hy509
                clear hy509
                by_cases c42 : y508.size + y509.size ≤ 9223372036854775807
                ·
                 rw [if_pos c42] at H
                 have c42b0 := eq_true c42
                 have c42b1 : decide (y508.size + y509.size ≤ 9223372036854775807) = true := decide_eq_true c42
                 try have c42b2 : (9223372036854775807 < y508.size + y509.size) = False := eq_false (Nat.not_lt.2 c42)
                 obtain ⟨y510, hy510⟩ : ∃ y_ : ByteArray, y_ = (y508 ++ y509) := ⟨_, rfl⟩
                 replace H : (some y510) = some r := by first | (rw [hy510]; with_reducible exact H) | (have H2_ := (Option.bind_some _ _).symm.trans H; rw [hy510]; with_reducible exact H2_) | (have H2_ := (Option.bind_some _ _).symm.trans H; with_reducible exact H2_) | with_reducible exact H | (rw [hy510]; exact H) | exact H
                 have Ny510 := Aside0.mk hy510
                 clear hy510
                 obtain rfl := Option.some.inj H
                 have hcs43 := Hd.str_to (P := Tryd.prog) (k := .i64) Tryd.underlying9 (j := t493) (s := t492) (y := y506) (by first | (with_reducible assumption) | exact of_decide_eq_true (by first | (with_reducible assumption) | assumption) | omega) (by first | (with_reducible assumption) | exact of_decide_eq_true (by first | (with_reducible assumption) | assumption) | omega) Ny506.out
                 have hcs44 := Hd.str_cat (P := Tryd.prog) (s := x6_2) (t := y506) (y := y507) (by first | (with_reducible assumption) | assumption | exact of_eq_true (by assumption) | omega) Ny507.out
                 have hcs44' := Hd.str_cat' (P := Tryd.prog) (s := x6_2) (t := y506) (y := y507) (by first | (with_reducible assumption) | assumption | exact of_eq_true (by assumption) | omega) Ny507.out
                 have hcs45 := Hd.str_cat (P := Tryd.prog) (s := y507) (t := (⟨#[46]⟩ : ByteArray)) (y := y508) (by first | (with_reducible assumption) | assumption | exact of_eq_true (by assumption) | omega) Ny508.out
                 have hcs45' := Hd.str_cat' (P := Tryd.prog) (s := y507) (t := (⟨#[46]⟩ : ByteArray)) (y := y508) (by first | (with_reducible assumption) | assumption | exact of_eq_true (by assumption) | omega) Ny508.out
                 have hcs46 := Hd.str_from (P := Tryd.prog) (k := .i64) Tryd.underlying9 (i := t493) (s := t492) (y := y509) (by first | (with_reducible assumption) | exact of_decide_eq_true (by first | (with_reducible assumption) | assumption) | omega) (by first | (with_reducible assumption) | exact of_decide_eq_true (by first | (with_reducible assumption) | assumption) | omega) Ny509.out
                 have hcs47 := Hd.str_cat (P := Tryd.prog) (s := y508) (t := y509) (y := y510) (by first | (with_reducible assumption) | assumption | exact of_eq_true (by assumption) | omega) Ny510.out
                 have hcs47' := Hd.str_cat' (P := Tryd.prog) (s := y508) (t := y509) (y := y510) (by first | (with_reducible assumption) | assumption | exact of_eq_true (by assumption) | omega) Ny510.out
                 go_wp2
                 repeat (go_quiet (fail); try go_wp2)
                 go_ret
                 exact ex (lk HB)
                ·
                 rw [if_neg c42] at H
                 exact absurd H (by simp)
               ·
                rw [if_neg c39] at H
                exact absurd H (by simp)
              ·
               rw [if_neg c38] at H
               exact absurd H (by simp)
             ·
              rw [if_neg c37] at H
              exact absurd H (by simp)
            ·
             rw [if_neg c36] at H
             exact absurd H (by simp)


/-! ### num_units: function 77 -/
def num_units.f  : Option ((List (S98))) := some (([(⟨(⟨#[121]⟩ : ByteArray), 31536000000⟩ : S98), (⟨(⟨#[119]⟩ : ByteArray), 604800000⟩ : S98), (⟨(⟨#[100]⟩ : ByteArray), 86400000⟩ : S98), (⟨(⟨#[104]⟩ : ByteArray), 3600000⟩ : S98), (⟨(⟨#[109]⟩ : ByteArray), 60000⟩ : S98), (⟨(⟨#[115]⟩ : ByteArray), 1000⟩ : S98), (⟨(⟨#[109, 115]⟩ : ByteArray), 1⟩ : S98)] : List (S98)))
set_option maxHeartbeats 8000000 in
set_option maxRecDepth 100000 in
theorem num_units.calls  (r : List (S98)) (w : World) (h : num_units.f  = some r) :
  Calls Tryd.prog 77 #[] w fun e w' => ∃ v0_ : Value, e = .returned (v0_) ∧ Kd.R k98 98 w' w.heap.size (fun _ => True) v0_ r ∧ Below w.heap.size w w' := by
 have hu98 := Tryd.underlying98
 have HB := Aside0.mk (Below.refl w.heap.size w)
 have H : (some (([(⟨(⟨#[121]⟩ : ByteArray), 31536000000⟩ : S98), (⟨(⟨#[119]⟩ : ByteArray), 604800000⟩ : S98), (⟨(⟨#[100]⟩ : ByteArray), 86400000⟩ : S98), (⟨(⟨#[104]⟩ : ByteArray), 3600000⟩ : S98), (⟨(⟨#[109]⟩ : ByteArray), 60000⟩ : S98), (⟨(⟨#[115]⟩ : ByteArray), 1000⟩ : S98), (⟨(⟨#[109, 115]⟩ : ByteArray), 1⟩ : S98)] : List (S98)))) = some r := h
 clear h
 obtain ⟨y606, hy606⟩ : ∃ y_ : List (S98), y_ = (([(⟨(⟨#[121]⟩ : ByteArray), 31536000000⟩ : S98), (⟨(⟨#[119]⟩ : ByteArray), 604800000⟩ : S98), (⟨(⟨#[100]⟩ : ByteArray), 86400000⟩ : S98), (⟨(⟨#[104]⟩ : ByteArray), 3600000⟩ : S98), (⟨(⟨#[109]⟩ : ByteArray), 60000⟩ : S98), (⟨(⟨#[115]⟩ : ByteArray), 1000⟩ : S98), (⟨(⟨#[109, 115]⟩ : ByteArray), 1⟩ : S98)] : List (S98))) := ⟨_, rfl⟩
 replace H : (some y606) = some r := by first | (rw [hy606]; with_reducible exact H) | (have H2_ := (Option.bind_some _ _).symm.trans H; rw [hy606]; with_reducible exact H2_) | (have H2_ := (Option.bind_some _ _).symm.trans H; with_reducible exact H2_) | with_reducible exact H | (rw [hy606]; exact H) | exact H
 have Ny606 := Aside0.mk hy606
 clear hy606
 obtain rfl := Option.some.inj H
 go_enter Tryd.func77, Tryd.ntmps77
 go_wp2_with (first | ((with_reducible refine gate_dst (N := 8) rfl ?_); refine Kd.R_lit k98 _ 98 ?hg (N := 8) ?hd (xs := ([(⟨(⟨#[121]⟩ : ByteArray), 31536000000⟩ : S98), (⟨(⟨#[119]⟩ : ByteArray), 604800000⟩ : S98), (⟨(⟨#[100]⟩ : ByteArray), 86400000⟩ : S98), (⟨(⟨#[104]⟩ : ByteArray), 3600000⟩ : S98), (⟨(⟨#[109]⟩ : ByteArray), 60000⟩ : S98), (⟨(⟨#[115]⟩ : ByteArray), 1000⟩ : S98), (⟨(⟨#[109, 115]⟩ : ByteArray), 1⟩ : S98)] : List (S98))) (inner := [.string (⟨#[121]⟩ : ByteArray), .int .i64 31536000000, .string (⟨#[119]⟩ : ByteArray), .int .i64 604800000, .string (⟨#[100]⟩ : ByteArray), .int .i64 86400000, .string (⟨#[104]⟩ : ByteArray), .int .i64 3600000, .string (⟨#[109]⟩ : ByteArray), .int .i64 60000, .string (⟨#[115]⟩ : ByteArray), .int .i64 1000, .string (⟨#[109, 115]⟩ : ByteArray), .int .i64 1]) (ok := fun _ => True) (okp := fun _ => True) ?hr ?hp (fun _ hk => hk) trivial (Below.refl _ _) (Nat.le_refl _) (by simp) ?_; (case hd => rfl); (case hg => rfl); (case hr => first | (go_simp; done) | (go_simp; rfl)); (case hp => exact (Reps.c2 (show Kd.M k98 _ _ _ (⟨(⟨#[121]⟩ : ByteArray), 31536000000⟩ : S98) [.string (⟨#[121]⟩ : ByteArray), .int .i64 31536000000] from (k98_mkM _ _ _ (⟨(⟨#[121]⟩ : ByteArray), 31536000000⟩ : S98) )) (Reps.c2 (show Kd.M k98 _ _ _ (⟨(⟨#[119]⟩ : ByteArray), 604800000⟩ : S98) [.string (⟨#[119]⟩ : ByteArray), .int .i64 604800000] from (k98_mkM _ _ _ (⟨(⟨#[119]⟩ : ByteArray), 604800000⟩ : S98) )) (Reps.c2 (show Kd.M k98 _ _ _ (⟨(⟨#[100]⟩ : ByteArray), 86400000⟩ : S98) [.string (⟨#[100]⟩ : ByteArray), .int .i64 86400000] from (k98_mkM _ _ _ (⟨(⟨#[100]⟩ : ByteArray), 86400000⟩ : S98) )) (Reps.c2 (show Kd.M k98 _ _ _ (⟨(⟨#[104]⟩ : ByteArray), 3600000⟩ : S98) [.string (⟨#[104]⟩ : ByteArray), .int .i64 3600000] from (k98_mkM _ _ _ (⟨(⟨#[104]⟩ : ByteArray), 3600000⟩ : S98) )) (Reps.c2 (show Kd.M k98 _ _ _ (⟨(⟨#[109]⟩ : ByteArray), 60000⟩ : S98) [.string (⟨#[109]⟩ : ByteArray), .int .i64 60000] from (k98_mkM _ _ _ (⟨(⟨#[109]⟩ : ByteArray), 60000⟩ : S98) )) (Reps.c2 (show Kd.M k98 _ _ _ (⟨(⟨#[115]⟩ : ByteArray), 1000⟩ : S98) [.string (⟨#[115]⟩ : ByteArray), .int .i64 1000] from (k98_mkM _ _ _ (⟨(⟨#[115]⟩ : ByteArray), 1000⟩ : S98) )) (Reps.c2 (show Kd.M k98 _ _ _ (⟨(⟨#[109, 115]⟩ : ByteArray), 1⟩ : S98) [.string (⟨#[109, 115]⟩ : ByteArray), .int .i64 1] from (k98_mkM _ _ _ (⟨(⟨#[109, 115]⟩ : ByteArray), 1⟩ : S98) )) (Reps.none _ _))))))))); intro v607 w1 ho2 hb hg_ hnew_; clear hg_ hnew_; (first | rw [← Ny606.out] at ho2 | (simp only [Int.reduceToNat] at ho2; rw [← Ny606.out] at ho2)); have HO608 := Aside0.mk (Kd.R_lower ho2 (below_size (lk HB))); replace HB := lb HB hb; clear hb ho2))
 go_ret
 exact ⟨_, by first | rfl | (simp [errW_none, errW_some] <;> rfl) | (simp [*, errW_none, errW_some] <;> rfl), by (with_reducible repeat (first | apply Kd.R_alloc | apply Kd.R_drewN | apply Kd.R_drew)); exact HO608.out, lk HB⟩


/-! ### num_DurationText: function 38 -/
mutual
def num_DurationText.j0 : Nat → Int → ByteArray → Option (ByteArray)
 | 0, _, _ => none
 | k + 1, x3, x4 => (num_units.f).bind fun t609 => (num_DurationText.l0 k x3 x4 t609 (t609.length : Int) 0)
def num_DurationText.l0 : Nat → Int → ByteArray → List (S98) → Int → Int → Option (ByteArray)
 | 0, _, _, _, _, _ => none
 | k + 1, x3, x4, x16, x17, x18 => if x18 < x17 then (if 0 ≤ x18 then (if x18 < (x16.length : Int) then (if (IntKind.u64.wrap ((rd_T98 x16 x18).f1)) = 0 then (none) else (if (IntKind.u64.wrap (Int.tdiv x3 (IntKind.u64.wrap ((rd_T98 x16 x18).f1)))) > 0 then ((Hd.num_IntText.f (wrap64 (IntKind.u64.wrap (Int.tdiv x3 (IntKind.u64.wrap ((rd_T98 x16 x18).f1)))))).bind fun t614 => (if t614.size + ((rd_T98 x16 x18).f0).size ≤ 9223372036854775807 then ((some (t614 ++ ((rd_T98 x16 x18).f0) : ByteArray)).bind fun y615 => (if x4.size + y615.size ≤ 9223372036854775807 then (num_DurationText.l0 k (Int.tmod x3 (IntKind.u64.wrap ((rd_T98 x16 x18).f1))) (x4 ++ y615) x16 x17 (wrap64 (x18 + 1))) else (none))) else (none))) else (num_DurationText.l0 k x3 x4 x16 x17 (wrap64 (x18 + 1))))) else (none)) else (none)) else (some x4)
end
def num_DurationText.f (k : Nat) (a0 : Int) : Option (ByteArray) := if a0 = 0 then (some (⟨#[48, 115]⟩ : ByteArray)) else (if a0 < 0 then (num_DurationText.j0 k (IntKind.u64.wrap (-(IntKind.u64.wrap (a0)))) (⟨#[45]⟩ : ByteArray)) else (num_DurationText.j0 k (IntKind.u64.wrap (a0)) (⟨#[]⟩ : ByteArray)))
theorem num_DurationText.mono_l : ∀ k, (∀ y0 y1, LeO (num_DurationText.j0 k y0 y1) (num_DurationText.j0 (k + 1) y0 y1)) ∧ (∀ y0 y1 y2 y3 y4, LeO (num_DurationText.l0 k y0 y1 y2 y3 y4) (num_DurationText.l0 (k + 1) y0 y1 y2 y3 y4))
 | 0 => ⟨fun _ _ r h => by simp [num_DurationText.j0] at h, fun _ _ _ _ _ r h => by simp [num_DurationText.l0] at h⟩
 | k + 1 => by
  obtain ⟨ih0, ih1⟩ := num_DurationText.mono_l k
  refine ⟨?_, ?_⟩
  ·
   intro y0 y1
   unfold num_DurationText.j0
   repeat' first | (with_reducible exact ih0 _ _) | (with_reducible exact ih1 _ _ _ _ _) | (with_reducible exact LeO.refl _) | (with_reducible exact LeO.none _) | (with_reducible refine LeO.ite ?_ ?_) | (with_reducible refine LeO.bind ?_ (fun _ => ?_))
  ·
   intro y0 y1 y2 y3 y4
   unfold num_DurationText.l0
   repeat' first | (with_reducible exact ih0 _ _) | (with_reducible exact ih1 _ _ _ _ _) | (with_reducible exact LeO.refl _) | (with_reducible exact LeO.none _) | (with_reducible refine LeO.ite ?_ ?_) | (with_reducible refine LeO.bind ?_ (fun _ => ?_))
theorem num_DurationText.mono : ∀ a0 k, LeO (num_DurationText.f k a0) (num_DurationText.f (k + 1) a0) := by
 intro a0 k
 obtain ⟨ih0, ih1⟩ := num_DurationText.mono_l k
 unfold num_DurationText.f
 repeat' first | (with_reducible exact ih0 _ _) | (with_reducible exact ih1 _ _ _ _ _) | (with_reducible exact LeO.refl _) | (with_reducible exact LeO.none _) | (with_reducible refine LeO.ite ?_ ?_) | (with_reducible refine LeO.bind ?_ (fun _ => ?_))
def num_DurationText.T11 : Bool × List (List Nat × List Nat) := (true, [([], []), ([], []), ([1], [1]), ([2], [2]), ([], []), ([4], [4]), ([3, 5], [3, 5]), ([0, 6], [0, 6]), ([7, 3, 0, 1, 2, 3, 4, 5, 6, 7], [0, 7])])
def num_DurationText.B11 : List Nat := [0, 0, 2, 6, 0, 16, 62, 127, 255]
theorem num_DurationText.tab11 : rtab .any (opsOf Tryd.f38 11) = num_DurationText.T11 := by kernel_rfl
theorem num_DurationText.bits11 : waitsOk num_DurationText.T11.2 num_DurationText.B11 = true := by kernel_rfl
set_option maxHeartbeats 8000000 in
set_option maxRecDepth 100000 in
theorem num_DurationText.calls (k : Nat) (a0 : Int) (r : ByteArray) (w : World) (h : num_DurationText.f k a0 = some r) :
  Calls Tryd.prog 38 #[.int .i64 a0] w fun e w' => e = .returned (.string r) ∧ Below w.heap.size w w' := by
 have hu98 := Tryd.underlying98
 have HB := Aside0.mk (Below.refl w.heap.size w)
 have H : (if a0 = 0 then (some (⟨#[48, 115]⟩ : ByteArray)) else (if a0 < 0 then (num_DurationText.j0 k (IntKind.u64.wrap (-(IntKind.u64.wrap (a0)))) (⟨#[45]⟩ : ByteArray)) else (num_DurationText.j0 k (IntKind.u64.wrap (a0)) (⟨#[]⟩ : ByteArray)))) = some r := h
 clear h
 by_cases c2 : a0 = 0
 ·
  rw [if_pos c2] at H
  have c2b0 : (a0 == 0) = true := beq_iff_eq.mpr c2
  have c2b1 : (a0 != 0) = false := bne_eq_false_iff_eq.mpr c2
  clear c2
  obtain rfl := Option.some.inj H
  go_enter Tryd.func38, Tryd.ntmps38
  go_wp2
  go_ret
  exact ex (lk HB)
 ·
  rw [if_neg c2] at H
  have c2b0 : (a0 == 0) = false := beq_eq_false_iff_ne.mpr c2
  have c2b1 : (a0 != 0) = true := bne_iff_ne.mpr c2
  have HC3 := Aside0.mk H
  clear H
  go_enter Tryd.func38, Tryd.ntmps38
  go_upto_if 13 with (fail)
  go_cut [3, 4] (fun v3 v4 wc => ∃ (kq : Nat) (x3_2 : Int) (x4_2 : ByteArray), v3 = .int .u64 x3_2 ∧ v4 = .string x4_2 ∧ Aside0 (num_DurationText.j0 kq x3_2 x4_2 = some r) ∧ Aside0 (kq ≤ k) ∧ Aside0 (Below w.heap.size w wc))
  case first =>
   have H := HC3.out
   clear HC3
   by_cases c4 : a0 < 0
   ·
    rw [if_pos c4] at H
    have c4b0 : decide (a0 < 0) = true := decide_eq_true c4
    clear c4
    (first | rw [c4b0] | (simp only [i64_w, i32_w]; rw [c4b0]) | skip)
    have H' := Aside0.mk H
    clear H
    go_wp2
    go_meet
    case rel => exact ⟨_, (IntKind.u64.wrap (-(IntKind.u64.wrap (a0)))), ((⟨#[45]⟩ : ByteArray)), (by first | rfl | (simp; done) | (simp [*]; done)), (by first | rfl | (simp; done) | (simp [*]; done)), H', ⟨by first | omega | exact Nat.le_refl _⟩, ⟨lk HB⟩⟩
   ·
    rw [if_neg c4] at H
    have c4b0 : decide (a0 < 0) = false := decide_eq_false c4
    clear c4
    (first | rw [c4b0] | (simp only [i64_w, i32_w]; rw [c4b0]) | skip)
    have H' := Aside0.mk H
    clear H
    go_wp2
    go_meet
    case rel => exact ⟨_, (IntKind.u64.wrap (a0)), ((⟨#[]⟩ : ByteArray)), (by first | rfl | (simp; done) | (simp [*]; done)), (by first | rfl | (simp; done) | (simp [*]; done)), H', ⟨by first | omega | exact Nat.le_refl _⟩, ⟨lk HB⟩⟩
  case rest =>
   clear HC3
   try clear c2
   try clear c2b0
   try clear c2b1
   try clear p2
   try clear c3
   try clear c4
   try clear c4b0
   obtain ⟨kq, x3_2, x4_2, rfl, rfl, HA, HJ2, HB⟩ := hcut
   cases kq with
   | zero => exact absurd HA.out (by simp [num_DurationText.j0])
   | succ kj2 =>
    have H := HA.out
    clear HA
    simp only [num_DurationText.j0] at H
    replace H := Option.bind_eq_some_iff.mp H
    obtain ⟨t609, A50, H⟩ := H
    replace H : (num_DurationText.l0 kj2 x3_2 x4_2 t609 (t609.length : Int) 0) = some r := H
    have A5 := Aside0.mk A50
    clear A50
    have H' := Aside0.mk H
    clear H
    go_wp2_with (first | ((with_reducible refine gate_callee (f := 77) rfl ?_); refine gL (some 16) Tryd.func77 #[] ?_; (with_reducible refine (num_units.calls  t609 _ A5.out).mono ?_); rintro e w6 ⟨v610, rfl, ho0, hb⟩; refine ⟨_, rfl, ?_⟩; have HO611 := Aside0.mk (Kd.R_lower ho0 (below_size (lk HB))); replace HB := lb HB hb; (try clear hb); (try clear hb2); (try clear hk); (try clear hi); (try clear ho0); obtain ⟨Ao7, co7, eo7⟩ := Kd.R_slice HO611.out; subst eo7))
    go_loopg [3, 4, 18] kj2 (fun kq v3 v4 v18 w' => ∃ (x3_2 : Int) (x4_2 : ByteArray) (x18_2 : Int), v3 = .int .u64 x3_2 ∧ v4 = .string x4_2 ∧ v18 = .int .i64 x18_2 ∧ Aside0 (num_DurationText.l0 kq x3_2 x4_2 t609 (t609.length : Int) x18_2 = some r) ∧ Aside0 (kq ≤ kj2) ∧ Aside0 (Kd.R k98 98 w' w.heap.size (fun _ => True) (.slice Ao7 t609.length co7) t609) ∧ Aside0 (Below w.heap.size w w'))
    case atStart => exact ⟨(x3_2), (x4_2), (0), (by first | rfl | (simp; done) | (simp [*]; done)), (by first | rfl | (simp; done) | (simp [*]; done)), (by first | rfl | (simp; done) | (simp [*]; done)), H', ⟨Nat.le_refl _⟩, ⟨by (with_reducible repeat (first | apply Kd.R_alloc | apply Kd.R_drewN | apply Kd.R_drew)); exact HO611.out⟩, ⟨lk HB⟩⟩
    case round =>
     clear H'
     try clear c2
     try clear c2b0
     try clear c2b1
     try clear p2
     try clear c3
     try clear c4
     try clear c4b0
     try clear c7
     try clear p2
     obtain ⟨x3_2, x4_2, x18_2, rfl, rfl, rfl, HA, HK2, HO_16, HB⟩ := hrel
     cases gk with
     | zero => exact absurd HA.out (by simp [num_DurationText.l0])
     | succ k2 =>
      have H := HA.out
      clear HA
      simp only [num_DurationText.l0] at H
      by_cases c8 : x18_2 < (t609.length : Int)
      ·
       rw [if_pos c8] at H
       have c8b0 : decide (x18_2 < (t609.length : Int)) = true := decide_eq_true c8
       clear c8
       by_cases c9 : 0 ≤ x18_2
       ·
        rw [if_pos c9] at H
        have c9b0 : decide (0 ≤ x18_2) = true := decide_eq_true c9
        clear c9
        by_cases c10 : x18_2 < (t609.length : Int)
        ·
         rw [if_pos c10] at H
         have c10b0 : decide (x18_2 < (t609.length : Int)) = true := decide_eq_true c10
         clear c10
         by_cases c11 : (IntKind.u64.wrap ((rd_T98 t609 x18_2).f1)) = 0
         ·
          rw [if_pos c11] at H
          exact absurd H (by simp)
         ·
          rw [if_neg c11] at H
          have c11b0 : ((IntKind.u64.wrap ((rd_T98 t609 x18_2).f1)) == 0) = false := beq_eq_false_iff_ne.mpr c11
          have c11b1 : ((IntKind.u64.wrap ((rd_T98 t609 x18_2).f1)) != 0) = true := bne_iff_ne.mpr c11
          by_cases c12 : (IntKind.u64.wrap (Int.tdiv x3_2 (IntKind.u64.wrap ((rd_T98 t609 x18_2).f1)))) > 0
          ·
           rw [if_pos c12] at H
           have c12b0 : decide (0 < (IntKind.u64.wrap (Int.tdiv x3_2 (IntKind.u64.wrap ((rd_T98 t609 x18_2).f1))))) = true := decide_eq_true c12
           clear c12
           replace H := Option.bind_eq_some_iff.mp H
           obtain ⟨t614, A130, H⟩ := H
           replace H : (if t614.size + ((rd_T98 t609 x18_2).f0).size ≤ 9223372036854775807 then ((some (t614 ++ ((rd_T98 t609 x18_2).f0) : ByteArray)).bind fun y615 => (if x4_2.size + y615.size ≤ 9223372036854775807 then (num_DurationText.l0 k2 (Int.tmod x3_2 (IntKind.u64.wrap ((rd_T98 t609 x18_2).f1))) (x4_2 ++ y615) t609 (t609.length : Int) (wrap64 (x18_2 + 1))) else (none))) else (none)) = some r := H
           have A13 := Aside0.mk A130
           clear A130
           by_cases c14 : t614.size + ((rd_T98 t609 x18_2).f0).size ≤ 9223372036854775807
           ·
            rw [if_pos c14] at H
            have c14b0 := eq_true c14
            have c14b1 : decide (t614.size + ((rd_T98 t609 x18_2).f0).size ≤ 9223372036854775807) = true := decide_eq_true c14
            try have c14b2 : (9223372036854775807 < t614.size + ((rd_T98 t609 x18_2).f0).size) = False := eq_false (Nat.not_lt.2 c14)
            obtain ⟨y615, hy615⟩ : ∃ y_ : ByteArray, y_ = (t614 ++ ((rd_T98 t609 x18_2).f0)) := ⟨_, rfl⟩
            replace H : (if x4_2.size + y615.size ≤ 9223372036854775807 then (num_DurationText.l0 k2 (Int.tmod x3_2 (IntKind.u64.wrap ((rd_T98 t609 x18_2).f1))) (x4_2 ++ y615) t609 (t609.length : Int) (wrap64 (x18_2 + 1))) else (none)) = some r := by first | (rw [hy615]; with_reducible exact H) | (have H2_ := (Option.bind_some _ _).symm.trans H; rw [hy615]; with_reducible exact H2_) | (have H2_ := (Option.bind_some _ _).symm.trans H; with_reducible exact H2_) | with_reducible exact H | (rw [hy615]; exact H) | exact H
            have Ny615 := Aside0.mk hy615
            clear hy615
            by_cases c15 : x4_2.size + y615.size ≤ 9223372036854775807
            ·
             rw [if_pos c15] at H
             have c15b0 := eq_true c15
             have c15b1 : decide (x4_2.size + y615.size ≤ 9223372036854775807) = true := decide_eq_true c15
             try have c15b2 : (9223372036854775807 < x4_2.size + y615.size) = False := eq_false (Nat.not_lt.2 c15)
             obtain ⟨y616, hy616⟩ : ∃ y_ : ByteArray, y_ = (x4_2 ++ y615) := ⟨_, rfl⟩
             replace H : (num_DurationText.l0 k2 (Int.tmod x3_2 (IntKind.u64.wrap ((rd_T98 t609 x18_2).f1))) y616 t609 (t609.length : Int) (wrap64 (x18_2 + 1))) = some r := by first | (rw [hy616]; with_reducible exact H) | (have H2_ := (Option.bind_some _ _).symm.trans H; rw [hy616]; with_reducible exact H2_) | (have H2_ := (Option.bind_some _ _).symm.trans H; with_reducible exact H2_) | with_reducible exact H | (rw [hy616]; exact H) | exact H
             have Ny616 := Aside0.mk hy616
             clear hy616
             have H' := Aside0.mk H
             clear H
             have p612 : 0 ≤ (x18_2 : Int) := of_decide_eq_true (by first | (with_reducible assumption) | assumption)
             have q612 : x18_2 < (t609.length : Int) := of_decide_eq_true (by first | (with_reducible assumption) | assumption)
             obtain ⟨ad612, e612, hx612_0, hx612_1⟩ := at_T98 (Kd.R_reads' HO_16.out).2.2 x18_2 p612 q612
             cases e612
             replace p612 := eq_true p612
             replace q612 := eq_true q612
             try go_wp2_with (first | ((with_reducible refine gate_dst (N := 6) rfl ?_); refine box_event ?hg (N := 6) ?hd (cs := #[.string (⟨#[]⟩ : ByteArray), .int .i64 0]) (t := 98) ?hr ?_; (case hd => rfl); (case hg => rfl); (case hr => first | (go_simp; done) | (go_simp; rfl)); intro gb613 hg w16 hbox hb; replace HO_16 := Aside0.mk (Kd.R_below (Kd.R_elderB (rk HO_16) gb613 (Nat.le_of_eq hg.symm)) hb); have BK613 := Aside0.mk (hbox); have GW613 := Aside0.mk ((by rw [hg]; exact (below_size (lk HB)) : w.heap.size ≤ gb613)); have GE613 := Aside0.mk ((by rw [hg]; exact (below_size (lk HB)) : w.heap.size ≤ gb613)); replace HB := lb HB hb; clear hb hbox hg; have hcz17_0 : w16.cell? ⟨gb613, 0, none⟩ = some (.string (⟨#[]⟩ : ByteArray)) := (blk_cell BK613.out 0).trans rfl; have hcz17_1 : w16.cell? ⟨gb613, 1, none⟩ = some (.int .i64 0) := (blk_cell BK613.out 1).trans rfl; have hfz17_0 := blk_frozen BK613.out 0; have hfz17_1 := blk_frozen BK613.out 1))
             (first | refine Hd.letter_ (fun w18 hw => ?_) | refine Hd.letterL_ (fun w18 hw => ?_) | refine Hd.letterE_ (fun w18 hw => ?_))
             have n0_ : Aside0 (Kd.R k98 98 w18 w.heap.size (fun k_ => k_ ≠ gb613) (.slice (some ad612) t609.length co7) t609) := ⟨by rw [hw]; exact (by (with_reducible repeat (first | apply Kd.R_alloc | apply Kd.R_drewN | apply Kd.R_drew)); exact Kd.R_mono (Kd.R_far (p := ⟨gb613, 1, none⟩) (Kd.R_far (p := ⟨gb613, 0, none⟩) (Kd.R_mono HO_16.out (fun k_ hk => (⟨hk, hk.2⟩ : _ ∧ k_ ≠ gb613))) (fun _ hk => hk.2) (.string ((rd_T98 t609 x18_2).f0))) (fun _ hk => hk.2) (.int .i64 ((rd_T98 t609 x18_2).f1))) (fun _ hk => hk.1.2))⟩
             have n1_ : Aside0 (w18.heap[gb613]? = some (.cells #[.string ((rd_T98 t609 x18_2).f0), .int .i64 ((rd_T98 t609 x18_2).f1)] 98 (0, 0))) := ⟨by rw [hw]; exact (by (with_reducible repeat (first | refine blk_drewN ?_ _ | refine blk_drew ?_ | refine blk_alloc ?_ _)); refine blk_put (cs := #[.string ((rd_T98 t609 x18_2).f0), .int .i64 0]) ?_ 1 _ rfl; (with_reducible repeat (first | refine blk_drewN ?_ _ | refine blk_drew ?_ | refine blk_alloc ?_ _)); refine blk_put (cs := #[.string (⟨#[]⟩ : ByteArray), .int .i64 0]) ?_ 0 _ rfl; (with_reducible repeat (first | refine blk_drewN ?_ _ | refine blk_drew ?_ | refine blk_alloc ?_ _)); exact BK613.out)⟩
             have n2_ : Aside0 (Below w.heap.size w w18) := ⟨by rw [hw]; exact (lk HB)⟩
             clear hw
             (try clear HO_16)
             (try clear BK613)
             (try clear HB)
             have HO_16 := n0_
             have BK613 := n1_
             have HB := n2_
             clear n0_ n1_ n2_
             have n0_ := Aside0.mk (Kd.R_drew HO_16.out)
             have n1_ := Aside0.mk (blk_drew BK613.out)
             have n2_ := Aside0.mk (below_drew1 HB.out)
             clear HO_16
             clear BK613
             clear HB
             have HO_16 := n0_
             have BK613 := n1_
             have HB := n2_
             clear n0_ n1_ n2_
             refine start_ (n := 9) (S := fun w' => w'.cell? ⟨gb613, 0, none⟩ = some (.string ((rd_T98 t609 x18_2).f0)) ∧ w'.cell? ⟨gb613, 1, none⟩ = some (.int .i64 ((rd_T98 t609 x18_2).f1))) (ds := []) #[false, false, false, false, false, false, false, false, false] (by kernel_rfl) rfl rfl ⟨(blk_cell BK613.out 0).trans rfl, (blk_cell BK613.out 1).trans rfl⟩ (fun hHeld => ?_); refine with_tabW num_DurationText.tab11 num_DurationText.bits11 (fun HT_ HW_ => ?_)
             generalize w18.drew = w19 at HO_16 BK613 HB hHeld ⊢
             refine pure_ (i := 0) (N := some 29) (v := ?_) (a' := ?_) #[true, false, false, false, false, false, false, false, false] rfl rfl (any_of HT_.out (by kernel_rfl)) (fun _ _ _ h => h) (Or.inl ⟨by rfl, ?_⟩) ?_ ?_
             rotate_left
             ·
              intro w'
              go_simp
              with_reducible rfl
             rotate_left
             ·
              simp only [Act.put, List.setIfInBounds_toArray, List.set_cons_zero, List.set_cons_succ, i64_w, i32_w]
              rfl
             refine pure_ (i := 1) (N := some 30) (v := ?_) (a' := ?_) #[true, true, false, false, false, false, false, false, false] rfl rfl (any_of HT_.out (by kernel_rfl)) (fun _ _ _ h => h) (Or.inl ⟨by rfl, ?_⟩) ?_ ?_
             rotate_left
             ·
              intro w'
              go_simp
              with_reducible rfl
             rotate_left
             ·
              simp only [Act.put, List.setIfInBounds_toArray, List.set_cons_zero, List.set_cons_succ, i64_w, i32_w]
              rfl
             refine pure_ (i := 2) (N := some 31) (v := ?_) (a' := ?_) #[true, true, true, false, false, false, false, false, false] rfl rfl (any_of HT_.out (by kernel_rfl)) (fun _ _ _ h => h) (Or.inl ⟨by rfl, ?_⟩) ?_ ?_
             rotate_left
             ·
              intro w'
              go_simp
              with_reducible rfl
             rotate_left
             ·
              simp only [Act.put, List.setIfInBounds_toArray, List.set_cons_zero, List.set_cons_succ, i64_w, i32_w]
              rfl
             refine pure_ (i := 4) (N := some 33) (v := ?_) (a' := ?_) #[true, true, true, false, true, false, false, false, false] rfl rfl (any_of HT_.out (by kernel_rfl)) (fun _ _ _ h => h) (Or.inl ⟨by rfl, ?_⟩) ?_ ?_
             rotate_left
             ·
              intro w'
              go_simp
              with_reducible rfl
             rotate_left
             ·
              simp only [Act.put, List.setIfInBounds_toArray, List.set_cons_zero, List.set_cons_succ, i64_w, i32_w]
              rfl
             refine take_ (i := 5) (N := some 34) (v := ?_) (a' := ?_) #[true, true, true, false, true, true, false, false, false] rfl rfl (take_ofW HT_.out HW_.out (by kernel_rfl)) (fun _ _ _ h => h) (Or.inl ⟨by rfl, ?_⟩) hHeld ?_ ?_
             rotate_left
             ·
              rintro w' ⟨s0, s1⟩
              go_simp
              with_reducible rfl
             rotate_left
             ·
              simp only [Act.put, List.setIfInBounds_toArray, List.set_cons_zero, List.set_cons_succ, i64_w, i32_w]
              rfl
             refine one_ (i := 3) (N := some 32) #[true, true, true, true, true, true, false, false, false] rfl rfl (one_of HT_.out (by kernel_rfl)) (by decide) (fun K hK => ?_)
             refine goes_ Tryd.func26 (by kernel_rfl) rfl #[.int .i64 (wrap64 (IntKind.u64.wrap (Int.tdiv x3_2 (IntKind.u64.wrap ((rd_T98 t609 x18_2).f1)))))] (by rfl) rfl rfl (by (try simp only [List.map_toArray, List.map_cons, List.map_nil]); first | done | rfl | (simp only [List.length_drop, List.length_take]; rfl) | (simp [Act.eval, Hd.wrap_u8]; done)) ?_
             with_reducible refine (Hd.num_IntText.calls (wrap64 (IntKind.u64.wrap (Int.tdiv x3_2 (IntKind.u64.wrap ((rd_T98 t609 x18_2).f1))))) t614 _ A13.out).mono ?_
             rintro e w20 ⟨rfl, hb⟩
             refine ⟨_, rfl, ?_⟩
             have n0_ := Aside0.mk (Kd.R_below (rk HO_16) hb)
             have n1_ := bb BK613 hb
             have n2_ := lb HB hb
             clear HO_16
             clear BK613
             clear HB
             have HO_16 := n0_
             have BK613 := n1_
             have HB := n2_
             clear n0_ n1_ n2_
             (try clear hb)
             (try clear hb2)
             (try clear hk)
             (try clear hi)
             have hcs21 := Hd.str_cat (P := Tryd.prog) (s := t614) (t := ((rd_T98 t609 x18_2).f0)) (y := y615) (by first | (with_reducible assumption) | assumption | exact of_eq_true (by assumption) | omega) Ny615.out
             have hcs21' := Hd.str_cat' (P := Tryd.prog) (s := t614) (t := ((rd_T98 t609 x18_2).f0)) (y := y615) (by first | (with_reducible assumption) | assumption | exact of_eq_true (by assumption) | omega) Ny615.out
             have hcs22 := Hd.str_cat (P := Tryd.prog) (s := x4_2) (t := y615) (y := y616) (by first | (with_reducible assumption) | assumption | exact of_eq_true (by assumption) | omega) Ny616.out
             have hcs22' := Hd.str_cat' (P := Tryd.prog) (s := x4_2) (t := y615) (y := y616) (by first | (with_reducible assumption) | assumption | exact of_eq_true (by assumption) | omega) Ny616.out
             refine hK.out _ _ ⟨(blk_cell BK613.out 0).trans rfl, (blk_cell BK613.out 1).trans rfl⟩ (fun hHeld => ?_)
             clear hK K
             refine norm_ (a' := ?_) ?_ ?_
             rotate_left
             ·
              show Act.put _ (some 32) _ = _
              simp only [Act.put, List.setIfInBounds_toArray, List.set_cons_zero, List.set_cons_succ, i64_w, i32_w]
              rfl
             refine pure_ (i := 6) (N := some 35) (v := ?_) (a' := ?_) #[true, true, true, true, true, true, true, false, false] rfl rfl (any_of HT_.out (by kernel_rfl)) (fun _ _ _ h => h) (Or.inl ⟨by rfl, ?_⟩) ?_ ?_
             rotate_left
             ·
              intro w'
              go_simp
              with_reducible rfl
             rotate_left
             ·
              simp only [Act.put, List.setIfInBounds_toArray, List.set_cons_zero, List.set_cons_succ, i64_w, i32_w]
              rfl
             refine pure_ (i := 7) (N := some 36) (v := ?_) (a' := ?_) #[true, true, true, true, true, true, true, true, false] rfl rfl (any_of HT_.out (by kernel_rfl)) (fun _ _ _ h => h) (Or.inl ⟨by rfl, ?_⟩) ?_ ?_
             rotate_left
             ·
              intro w'
              go_simp
              with_reducible rfl
             rotate_left
             ·
              simp only [Act.put, List.setIfInBounds_toArray, List.set_cons_zero, List.set_cons_succ, i64_w, i32_w]
              rfl
             refine pure_ (i := 8) (N := some 4) (v := ?_) (a' := ?_) #[true, true, true, true, true, true, true, true, true] rfl rfl (any_of HT_.out (by kernel_rfl)) (fun _ _ _ h => h) (Or.inl ⟨by rfl, ?_⟩) ?_ ?_
             rotate_left
             ·
              intro w'
              go_simp
              with_reducible rfl
             rotate_left
             ·
              simp only [Act.put, List.setIfInBounds_toArray, List.set_cons_zero, List.set_cons_succ, i64_w, i32_w]
              rfl
             refine done_ (done_of HT_.out (by kernel_rfl)) ?_
             have hcz23_0 : w20.cell? ⟨gb613, 0, none⟩ = some (.string ((rd_T98 t609 x18_2).f0)) := (blk_cell BK613.out 0).trans rfl
             have hcz23_1 : w20.cell? ⟨gb613, 1, none⟩ = some (.int .i64 ((rd_T98 t609 x18_2).f1)) := (blk_cell BK613.out 1).trans rfl
             have hfz23_0 := blk_frozen BK613.out 0
             have hfz23_1 := blk_frozen BK613.out 1
             try go_wp2
             go_roundg k2
             case measure => have := HJ2.out; have := HK2.out; omega
             case rel => exact ⟨(Int.tmod x3_2 (IntKind.u64.wrap ((rd_T98 t609 x18_2).f1))), (y616), (wrap64 (x18_2 + 1)), (by first | rfl | (simp; done) | (simp [*]; done)), (by first | rfl | (simp; done) | (simp [*]; done)), (by first | rfl | (simp; done) | (simp [*]; done)), H', ⟨by have := HJ2.out; have := HK2.out; omega⟩, ⟨by (with_reducible repeat (first | apply Kd.R_alloc | apply Kd.R_drewN | apply Kd.R_drew)); exact Kd.R_mono HO_16.out (fun _ hk => trivial)⟩, ⟨lk HB⟩⟩
            ·
             rw [if_neg c15] at H
             exact absurd H (by simp)
           ·
            rw [if_neg c14] at H
            exact absurd H (by simp)
          ·
           rw [if_neg c12] at H
           have c12b0 : decide (0 < (IntKind.u64.wrap (Int.tdiv x3_2 (IntKind.u64.wrap ((rd_T98 t609 x18_2).f1))))) = false := decide_eq_false c12
           clear c12
           have H' := Aside0.mk H
           clear H
           have p612 : 0 ≤ (x18_2 : Int) := of_decide_eq_true (by first | (with_reducible assumption) | assumption)
           have q612 : x18_2 < (t609.length : Int) := of_decide_eq_true (by first | (with_reducible assumption) | assumption)
           obtain ⟨ad612, e612, hx612_0, hx612_1⟩ := at_T98 (Kd.R_reads' HO_16.out).2.2 x18_2 p612 q612
           cases e612
           replace p612 := eq_true p612
           replace q612 := eq_true q612
           go_wp2_with (first | ((with_reducible refine gate_dst (N := 6) rfl ?_); refine box_event ?hg (N := 6) ?hd (cs := #[.string (⟨#[]⟩ : ByteArray), .int .i64 0]) (t := 98) ?hr ?_; (case hd => rfl); (case hg => rfl); (case hr => first | (go_simp; done) | (go_simp; rfl)); intro gb613 hg w24 hbox hb; replace HO_16 := Aside0.mk (Kd.R_below (Kd.R_elderB (rk HO_16) gb613 (Nat.le_of_eq hg.symm)) hb); have BK613 := Aside0.mk (hbox); have GW613 := Aside0.mk ((by rw [hg]; exact (below_size (lk HB)) : w.heap.size ≤ gb613)); have GE613 := Aside0.mk ((by rw [hg]; exact (below_size (lk HB)) : w.heap.size ≤ gb613)); replace HB := lb HB hb; clear hb hbox hg; have hcz25_0 : w24.cell? ⟨gb613, 0, none⟩ = some (.string (⟨#[]⟩ : ByteArray)) := (blk_cell BK613.out 0).trans rfl; have hcz25_1 : w24.cell? ⟨gb613, 1, none⟩ = some (.int .i64 0) := (blk_cell BK613.out 1).trans rfl; have hfz25_0 := blk_frozen BK613.out 0; have hfz25_1 := blk_frozen BK613.out 1))
           go_roundg k2
           case measure => have := HJ2.out; have := HK2.out; omega
           case rel => exact ⟨(x3_2), (x4_2), (wrap64 (x18_2 + 1)), (by first | rfl | (simp; done) | (simp [*]; done)), (by first | rfl | (simp; done) | (simp [*]; done)), (by first | rfl | (simp; done) | (simp [*]; done)), H', ⟨by have := HJ2.out; have := HK2.out; omega⟩, ⟨by (with_reducible repeat (first | apply Kd.R_alloc | apply Kd.R_drewN | apply Kd.R_drew)); exact Kd.R_mono (Kd.R_far (p := ⟨gb613, 1, none⟩) (Kd.R_far (p := ⟨gb613, 0, none⟩) (Kd.R_mono HO_16.out (fun k_ hk => (⟨hk, hk.2⟩ : _ ∧ k_ ≠ gb613))) (fun _ hk => hk.2) (.string ((rd_T98 t609 x18_2).f0))) (fun _ hk => hk.2) (.int .i64 ((rd_T98 t609 x18_2).f1))) (fun _ hk => trivial)⟩, ⟨lk HB⟩⟩
        ·
         rw [if_neg c10] at H
         exact absurd H (by simp)
       ·
        rw [if_neg c9] at H
        exact absurd H (by simp)
      ·
       rw [if_neg c8] at H
       have c8b0 : decide (x18_2 < (t609.length : Int)) = false := decide_eq_false c8
       clear c8
       obtain rfl := Option.some.inj H
       go_wp2
       go_ret
       exact ex (lk HB)


/-! ### vigillaw03_wakes: function 17 -/
def vigillaw03_wakes.f (k : Nat)  : Option (Bool) := (num_Parse.f k (⟨#[50, 46, 53, 101, 45, 49]⟩ : ByteArray)).bind fun bt617 => (if bt617.2 = 0 then (if (FloatKind.f64.format.order bt617.1 4598175219545276416 == some Ordering.eq) = true then ((num_Text.f k 4591870180066957722).bind fun t619 => (if t619.toList = ([48, 46, 49] : List UInt8) then ((num_DurationText.f k 90000).bind fun t620 => (some (t620.toList == ([49, 109, 51, 48, 115] : List UInt8)))) else (some false))) else (some false)) else (some false))
theorem vigillaw03_wakes.mono : ∀ k, LeO (vigillaw03_wakes.f k ) (vigillaw03_wakes.f (k + 1) ) := by
 intro  k
 unfold vigillaw03_wakes.f
 repeat' first | (with_reducible exact num_DurationText.mono _ _) | (with_reducible exact num_Parse.mono _ _) | (with_reducible exact num_Text.mono _ _) | (with_reducible exact LeO.refl _) | (with_reducible exact LeO.none _) | (with_reducible refine LeO.ite ?_ ?_) | (with_reducible refine LeO.bind ?_ (fun _ => ?_))
set_option maxHeartbeats 8000000 in
set_option maxRecDepth 100000 in
theorem vigillaw03_wakes.calls (k : Nat)  (r : Bool) (w : World) (h : vigillaw03_wakes.f k  = some r) :
  Calls Tryd.prog 17 #[] w fun e w' => e = .returned (.bool r) ∧ Below w.heap.size w w' := by
 have HB := Aside0.mk (Below.refl w.heap.size w)
 have H : ((num_Parse.f k (⟨#[50, 46, 53, 101, 45, 49]⟩ : ByteArray)).bind fun bt617 => (if bt617.2 = 0 then (if (FloatKind.f64.format.order bt617.1 4598175219545276416 == some Ordering.eq) = true then ((num_Text.f k 4591870180066957722).bind fun t619 => (if t619.toList = ([48, 46, 49] : List UInt8) then ((num_DurationText.f k 90000).bind fun t620 => (some (t620.toList == ([49, 109, 51, 48, 115] : List UInt8)))) else (some false))) else (some false)) else (some false))) = some r := h
 clear h
 replace H := Option.bind_eq_some_iff.mp H
 obtain ⟨⟨t617, t618⟩, A10, H⟩ := H
 replace H : (if t618 = 0 then (if (FloatKind.f64.format.order t617 4598175219545276416 == some Ordering.eq) = true then ((num_Text.f k 4591870180066957722).bind fun t619 => (if t619.toList = ([48, 46, 49] : List UInt8) then ((num_DurationText.f k 90000).bind fun t620 => (some (t620.toList == ([49, 109, 51, 48, 115] : List UInt8)))) else (some false))) else (some false)) else (some false)) = some r := H
 have A1 := Aside0.mk A10
 clear A10
 by_cases c2 : t618 = 0
 ·
  rw [if_pos c2] at H
  have c2b0 : (t618 == 0) = true := beq_iff_eq.mpr c2
  have c2b1 : (t618 != 0) = false := bne_eq_false_iff_eq.mpr c2
  clear c2
  by_cases c3 : (FloatKind.f64.format.order t617 4598175219545276416 == some Ordering.eq) = true
  ·
   rw [if_pos c3] at H
   have c3b0 : (FloatKind.f64.format.order t617 4598175219545276416 == some Ordering.eq) = true := c3
   (try (have c3b1 : decide (FloatKind.f64.format.order t617 4598175219545276416 = some Ordering.eq) = true := by simpa using c3))
   (try (have c3b2 : (FloatKind.f64.format.order t617 4598175219545276416 == some Ordering.eq) = true := by simpa using c3))
   clear c3
   replace H := Option.bind_eq_some_iff.mp H
   obtain ⟨t619, A40, H⟩ := H
   replace H : (if t619.toList = ([48, 46, 49] : List UInt8) then ((num_DurationText.f k 90000).bind fun t620 => (some (t620.toList == ([49, 109, 51, 48, 115] : List UInt8)))) else (some false)) = some r := H
   have A4 := Aside0.mk A40
   clear A40
   by_cases c5 : t619.toList = ([48, 46, 49] : List UInt8)
   ·
    rw [if_pos c5] at H
    have c5b0 : (t619.toList == ([48, 46, 49] : List UInt8)) = true := beq_iff_eq.mpr c5
    have c5b1 : (t619.toList != ([48, 46, 49] : List UInt8)) = false := bne_eq_false_iff_eq.mpr c5
    clear c5
    replace H := Option.bind_eq_some_iff.mp H
    obtain ⟨t620, A60, H⟩ := H
    replace H : (some (t620.toList == ([49, 109, 51, 48, 115] : List UInt8))) = some r := H
    have A6 := Aside0.mk A60
    clear A60
    obtain rfl := Option.some.inj H
    go_enter Tryd.func17, Tryd.ntmps17
    go_wp2_with (first | ((with_reducible refine gate_callee (f := 18) rfl ?_); refine gL (some 4) Tryd.func18 #[.string (⟨#[50, 46, 53, 101, 45, 49]⟩ : ByteArray)] ?_; (with_reducible refine (num_Parse.calls k (⟨#[50, 46, 53, 101, 45, 49]⟩ : ByteArray) t617 t618 _ A1.out).mono ?_); rintro e w7 ⟨rfl, hb⟩; refine ⟨_, rfl, ?_⟩; replace HB := lb HB hb; (try clear hb); (try clear hb2); (try clear hk); (try clear hi)) | (go_at_call 15; (with_reducible refine (num_Text.calls k 4591870180066957722 t619 _ A4.out).mono ?_); rintro e w8 ⟨rfl, hb⟩; replace HB := lb HB hb; (try clear hb); (try clear hb2); (try clear hk); (try clear hi)) | (go_at_call 38; (with_reducible refine (num_DurationText.calls k 90000 t620 _ A6.out).mono ?_); rintro e w9 ⟨rfl, hb⟩; replace HB := lb HB hb; (try clear hb); (try clear hb2); (try clear hk); (try clear hi)))
    go_ret
    exact ex (lk HB)
   ·
    rw [if_neg c5] at H
    have c5b0 : (t619.toList == ([48, 46, 49] : List UInt8)) = false := beq_eq_false_iff_ne.mpr c5
    have c5b1 : (t619.toList != ([48, 46, 49] : List UInt8)) = true := bne_iff_ne.mpr c5
    obtain rfl := Option.some.inj H
    go_enter Tryd.func17, Tryd.ntmps17
    go_wp2_with (first | ((with_reducible refine gate_callee (f := 18) rfl ?_); refine gL (some 4) Tryd.func18 #[.string (⟨#[50, 46, 53, 101, 45, 49]⟩ : ByteArray)] ?_; (with_reducible refine (num_Parse.calls k (⟨#[50, 46, 53, 101, 45, 49]⟩ : ByteArray) t617 t618 _ A1.out).mono ?_); rintro e w10 ⟨rfl, hb⟩; refine ⟨_, rfl, ?_⟩; replace HB := lb HB hb; (try clear hb); (try clear hb2); (try clear hk); (try clear hi)) | (go_at_call 15; (with_reducible refine (num_Text.calls k 4591870180066957722 t619 _ A4.out).mono ?_); rintro e w11 ⟨rfl, hb⟩; replace HB := lb HB hb; (try clear hb); (try clear hb2); (try clear hk); (try clear hi)))
    go_ret
    exact ex (lk HB)
  ·
   rw [if_neg c3] at H
   have c3b0 : (FloatKind.f64.format.order t617 4598175219545276416 == some Ordering.eq) = false := by simpa using c3
   (try (have c3b1 : decide (FloatKind.f64.format.order t617 4598175219545276416 = some Ordering.eq) = false := by simpa using c3))
   (try (have c3b2 : (FloatKind.f64.format.order t617 4598175219545276416 == some Ordering.eq) = false := by simpa using c3))
   (try (have c3b3 : ¬ (FloatKind.f64.format.order t617 4598175219545276416 = some Ordering.eq) := by simpa using c3))
   clear c3
   obtain rfl := Option.some.inj H
   go_enter Tryd.func17, Tryd.ntmps17
   go_wp2_with (first | ((with_reducible refine gate_callee (f := 18) rfl ?_); refine gL (some 4) Tryd.func18 #[.string (⟨#[50, 46, 53, 101, 45, 49]⟩ : ByteArray)] ?_; (with_reducible refine (num_Parse.calls k (⟨#[50, 46, 53, 101, 45, 49]⟩ : ByteArray) t617 t618 _ A1.out).mono ?_); rintro e w12 ⟨rfl, hb⟩; refine ⟨_, rfl, ?_⟩; replace HB := lb HB hb; (try clear hb); (try clear hb2); (try clear hk); (try clear hi)))
   go_ret
   exact ex (lk HB)
 ·
  rw [if_neg c2] at H
  have c2b0 : (t618 == 0) = false := beq_eq_false_iff_ne.mpr c2
  have c2b1 : (t618 != 0) = true := bne_iff_ne.mpr c2
  obtain rfl := Option.some.inj H
  go_enter Tryd.func17, Tryd.ntmps17
  go_wp2_with (first | ((with_reducible refine gate_callee (f := 18) rfl ?_); refine gL (some 4) Tryd.func18 #[.string (⟨#[50, 46, 53, 101, 45, 49]⟩ : ByteArray)] ?_; (with_reducible refine (num_Parse.calls k (⟨#[50, 46, 53, 101, 45, 49]⟩ : ByteArray) t617 t618 _ A1.out).mono ?_); rintro e w13 ⟨rfl, hb⟩; refine ⟨_, rfl, ?_⟩; replace HB := lb HB hb; (try clear hb); (try clear hb2); (try clear hk); (try clear hi)))
  go_ret
  exact ex (lk HB)

end Go.Proofs.YtjlnfnfdibfniaaDoor.F

/- What the laws end with: a float is written, and read. -/
namespace Go.Proofs.YtjlnfnfdibfniaaDoor.Pl
theorem wakes : F.vigillaw03_wakes.f 400 = some true := by kernel_rfl
end Go.Proofs.YtjlnfnfdibfniaaDoor.Pl

-- Written by a program of this session (wip/vprint.py): Lean checks it.
namespace Go.Proofs.YtjlnfnfdibfniaaDoor.F
open Go.RowKit Go.Proofs.YtjlnfnfdibfniaaDoorW.PrintWords Go.Proofs.YtjlnfnfdibfniaaDoorW.PrintLast Go.Proofs.YtjlnfnfdibfniaaDoorW.PrintMore
attribute [local go_sem] max2_int min2_int max_two min_two max_three min_three max_four min_four   -- for this text's walks alone
set_option linter.unusedVariables false
set_option linter.unusedSimpArgs false

/-! ### vigilkeep_Bits: function 20 -/
def vigilkeep_Bits.f (a0 : Nat) (a1 : Nat) : Option (Bool) := some ((a0 : Int) == (a1 : Int))
set_option maxHeartbeats 8000000 in
set_option maxRecDepth 100000 in
theorem vigilkeep_Bits.calls (a0 : Nat) (a1 : Nat) (r : Bool) (w : World) (h : vigilkeep_Bits.f a0 a1 = some r) :
  Calls Tryd.prog 20 #[.float .f64 a0, .float .f64 a1] w fun e w' => e = .returned (.bool r) ∧ Drawn0 w w' := by
 have H : (some ((a0 : Int) == (a1 : Int))) = some r := h
 clear h
 obtain rfl := Option.some.inj H
 have hext0 := Hd.ext54
 go_enter Tryd.func20, Tryd.ntmps20
 go_wp2
 go_ret
 exact ⟨by first | rfl | (simp; done) | (simp [*]; done), by repeat (first | exact Drawn0.refl _ | apply Drawn0.step)⟩

end Go.Proofs.YtjlnfnfdibfniaaDoor.F

/- What the laws of Parse share: texts of digits, and how they are read. -/
namespace Go.Proofs.YtjlnfnfdibfniaaDoor.Pl
open F Hd Go.RowKit Go.Proofs.YtjlnfnfdibfniaaDoorW.PrintWords Go.Proofs.YtjlnfnfdibfniaaDoorW.PrintMore
theorem wakes_runs : Runs (fun k => F.vigillaw03_wakes.f k) true := by
  refine ⟨400, fun k hk => ?_⟩
  obtain ⟨d, rfl⟩ : ∃ d, k = 400 + d := ⟨k - 400, by omega⟩
  induction d with
  | zero => exact wakes
  | succ d ih => exact F.vigillaw03_wakes.mono _ _ (ih (by omega))
theorem digs_all (l r : List UInt8) (hd : ∀ c ∈ l, isDig c = true) (hr : ∀ c s, r = c :: s → isDig c = false) : digs (l ++ r) = (l, r) := by
  have : (l ++ r).takeWhile isDig = l := by
    induction l with
    | nil =>
      cases r with
      | nil => rfl
      | cons c s => rw [List.nil_append, List.takeWhile_cons, hr c s rfl]; rfl
    | cons a l ih =>
      rw [List.cons_append, List.takeWhile_cons, hd a (List.mem_cons_self ..), if_pos rfl, ih (fun c hc => hd c (List.mem_cons_of_mem _ hc))]
  unfold digs
  rw [this, List.take_left', List.drop_left']
  · rfl
  · rfl
theorem dspec_int (l : List UInt8) (hd : ∀ c ∈ l, isDig c = true) (hne : l ≠ []) : dspec l = some (l, 0) := by
  have := digs_all l [] hd (fun c s h => by cases h)
  rw [List.append_nil] at this
  unfold dspec
  rw [this]
  simp only
  unfold tailOf
  rw [if_neg hne]
theorem dspec_point (l r : List UInt8) (hd : ∀ c ∈ l, isDig c = true) (hr : ∀ c ∈ r, isDig c = true) (hne : l ≠ []) : dspec (l ++ 46 :: r) = some (l ++ r, -(r.length : Int)) := by
  have h1 := digs_all l (46 :: r) hd (fun c s h => by injection h with h _; rw [← h]; rfl)
  have h2 := digs_all r [] hr (fun c s h => by cases h)
  rw [List.append_nil] at h2
  unfold dspec
  rw [h1]
  simp only
  rw [if_pos (by rfl), h2]
  simp only
  unfold tailOf
  rw [if_neg (fun h => hne (List.append_eq_nil_iff.1 h).1)]
theorem parse_some (l : List UInt8) (hl : l.length ≤ 400) (c : UInt8) (r : List UInt8) (hc : l = c :: r) (hd : isDig c = true) (ds : List UInt8) (x : Int) (hs : dspec l = some (ds, x)) :
    ∃ K, DecNear (val ds) x K ∧ Runs (fun k => num_Parse.f k (mk l)) (K, 0) := by
  obtain ⟨b, e, hp, hrun⟩ := parse_f l (by omega)
  have hdc : 48 ≤ c.toNat ∧ c.toNat ≤ 57 := by simpa [isDig] using hd
  have h1 : sgn l = (false, l) := by
    rw [hc]; unfold sgn; simp only
    rw [if_neg (by omega), if_neg (by omega)]
  have h2 : lowc c = c := by unfold lowc; rw [if_neg (by omega)]
  have h3 : ∀ a s, l.map lowc = a :: s → a.toNat ≤ 57 := by
    intro a s h
    rw [hc, List.map_cons, h2] at h
    injection h with h _
    rw [← h]; exact hdc.2
  unfold ParseTo at hp
  rw [if_neg (by omega), h1] at hp
  rw [if_neg (fun h => by have := h3 _ _ h; exact absurd this (by decide)), if_neg (fun h => by rcases h with h | h <;> exact absurd (h3 _ _ h) (by decide))] at hp
  simp only at hp
  rw [hs] at hp
  obtain ⟨rfl, K, hK, hb⟩ := hp
  have hb2 : b = K := hb
  rw [hb2] at hrun
  exact ⟨K, hK, hrun⟩
theorem parse_dec (l : List UInt8) (hl : l.length ≤ 400) (c : UInt8) (r : List UInt8) (hc : l = c :: r) (hd : isDig c = true) (ds : List UInt8) (x : Int) (hs : dspec l = some (ds, x)) (K : Nat) (hK : DecNear (val ds) x K) :
    Runs (fun k => num_Parse.f k (mk l)) (K, 0) := by
  obtain ⟨b, e, hp, hrun⟩ := parse_f l (by omega)
  have hdc : 48 ≤ c.toNat ∧ c.toNat ≤ 57 := by simpa [isDig] using hd
  have h1 : sgn l = (false, l) := by
    rw [hc]; unfold sgn; simp only
    rw [if_neg (by omega), if_neg (by omega)]
  have h2 : lowc c = c := by unfold lowc; rw [if_neg (by omega)]
  have h3 : ∀ a s, l.map lowc = a :: s → a.toNat ≤ 57 := by
    intro a s h
    rw [hc, List.map_cons, h2] at h
    injection h with h _
    rw [← h]; exact hdc.2
  have hpt : ParseTo l K 0 := by
    unfold ParseTo
    rw [if_neg (by omega), h1]
    rw [if_neg (fun h => by have := h3 _ _ h; exact absurd this (by decide)), if_neg (fun h => by rcases h with h | h <;> exact absurd (h3 _ _ h) (by decide))]
    simp only
    rw [hs]
    exact ⟨trivial, K, hK, rfl⟩
  obtain ⟨rfl, rfl⟩ := hp.unique hpt
  exact hrun
theorem str_one (n : Nat) : strOfNums [(n : Int)] = mk [UInt8.ofNat n] := by
  refine bytes_ext ?_
  rw [mk_data]
  simp [strOfNums]
theorem bits_eq (a : Nat) : vigilkeep_Bits.f a a = some true := by unfold vigilkeep_Bits.f; simp
/-- The text of a whole number is read as that exponent. -/
def ExpText (E : List UInt8) (n : Int) : Prop := E.length ≤ 40 ∧ expOf E = some n
theorem int_text (n : Int) (h0 : -1000000 ≤ n) (h1 : n ≤ 1000000) : ∃ E, ExpText E n ∧ num_IntText.f n = some (mk E) := by
  have hd := dec_spec n.natAbs (by omega)
  have hl : (dec n.natAbs).length ≤ 19 := dec_short n.natAbs (by omega)
  obtain ⟨hv, hdg, hne, _⟩ := hd
  obtain ⟨c, r, hcr⟩ : ∃ c r, dec n.natAbs = c :: r := by
    cases h : dec n.natAbs with
    | nil => exact absurd h hne
    | cons c r => exact ⟨c, r, rfl⟩
  have hall : allDig (dec n.natAbs) = true := (allDig_iff _).2 hdg
  have hc : 48 ≤ c.toNat ∧ c.toNat ≤ 57 := by have := hdg c (by rw [hcr]; simp); simpa [isDig] using this
  by_cases hn : n < 0
  · refine ⟨45 :: dec n.natAbs, ⟨by rw [List.length_cons]; omega, ?_⟩, ?_⟩
    · have hs : sgn (45 :: dec n.natAbs) = (true, dec n.natAbs) := by unfold sgn; simp only; rw [if_pos (show UInt8.toNat 45 = 45 from rfl)]
      unfold expOf
      rw [hs]
      simp only
      rw [if_neg (show ¬ (dec n.natAbs = [] ∨ allDig (dec n.natAbs) = false) by rw [hall]; exact fun h => h.elim hne (fun h => by cases h)), if_pos trivial, hv]
      exact congrArg some (by omega)
    · unfold num_IntText.f
      rw [if_pos (by omega)]
      show some (intText n) = _
      unfold intText
      rw [if_pos hn, show (-n).toNat = n.natAbs by omega]; rfl
  · refine ⟨dec n.natAbs, ⟨by omega, ?_⟩, ?_⟩
    · have hs : sgn (dec n.natAbs) = (false, dec n.natAbs) := by
        rw [hcr]; unfold sgn; simp only
        rw [if_neg (by omega), if_neg (by omega)]
      unfold expOf
      rw [hs]
      simp only
      rw [if_neg (show ¬ (dec n.natAbs = [] ∨ allDig (dec n.natAbs) = false) by rw [hall]; exact fun h => h.elim hne (fun h => by cases h)), if_neg Bool.false_ne_true, hv]
      exact congrArg some (by omega)
    · unfold num_IntText.f
      rw [if_pos (by omega)]
      show some (intText n) = _
      unfold intText
      rw [if_neg hn, show n.toNat = n.natAbs by omega]; rfl
theorem dspec_exp (l E : List UInt8) (n : Int) (hd : ∀ c ∈ l, isDig c = true) (hne : l ≠ []) (hE : expOf E = some n) : dspec (l ++ 101 :: E) = some (l, n) := by
  have h1 := digs_all l (101 :: E) hd (fun c s h => by injection h with h _; rw [← h]; rfl)
  unfold dspec
  rw [h1]
  simp only
  rw [if_neg (by decide)]
  unfold tailOf
  rw [if_neg hne]
  simp only
  rw [if_pos (by decide), hE]
  simp
/-- Digits with an exponent. -/
theorem parse_exp (l E : List UInt8) (n : Int) (hd : ∀ c ∈ l, isDig c = true) (hl : 1 ≤ l.length) (hl2 : l.length ≤ 300) (hE : ExpText E n) :
    ∃ K, DecNear (val l) n K ∧ Runs (fun k => num_Parse.f k (mk (l ++ [101] ++ E))) (K, 0) := by
  have e1 : l ++ [101] ++ E = l ++ 101 :: E := by simp
  have hne : l ≠ [] := by intro h; rw [h] at hl; simp at hl
  obtain ⟨c, r, hcr⟩ : ∃ c r, l = c :: r := by
    cases h : l with
    | nil => exact absurd h hne
    | cons c r => exact ⟨c, r, rfl⟩
  have hlen : (l ++ 101 :: E).length ≤ 400 := by have := hE.1; simp; omega
  obtain ⟨b, e, hp, hrun⟩ := parse_f (l ++ 101 :: E) (by omega)
  have hs := dspec_exp l E n hd hne hE.2
  have hdc := hd c (by rw [hcr]; simp)
  rw [e1]
  have := parse_some (l ++ 101 :: E) hlen c (r ++ 101 :: E) (by rw [hcr]; rfl) hdc l n hs
  exact this
end Go.Proofs.YtjlnfnfdibfniaaDoor.Pl

-- Written by a program of this session (wip/vprint.py): Lean checks it.
namespace Go.Proofs.YtjlnfnfdibfniaaDoor.F
open Go.RowKit Go.Proofs.YtjlnfnfdibfniaaDoorW.PrintWords Go.Proofs.YtjlnfnfdibfniaaDoorW.PrintLast Go.Proofs.YtjlnfnfdibfniaaDoorW.PrintMore
attribute [local go_sem] max2_int min2_int max_two min_two max_three min_three max_four min_four   -- for this text's walks alone
set_option linter.unusedVariables false
set_option linter.unusedSimpArgs false

/-! ### vigilkeep_Within: function 21 -/
def vigilkeep_Within.f (a0 : Int) (a1 : Int) : Option (Int) := if a1 = 0 then (none) else (if (Int.tmod a0 a1) < 0 then (some (wrap64 ((Int.tmod a0 a1) + a1))) else (some (Int.tmod a0 a1)))
set_option maxHeartbeats 8000000 in
set_option maxRecDepth 100000 in
theorem vigilkeep_Within.calls (a0 : Int) (a1 : Int) (r : Int) (w : World) (h : vigilkeep_Within.f a0 a1 = some r) :
  Calls Tryd.prog 21 #[.int .i64 a0, .int .i64 a1] w fun e w' => e = .returned (.int .i64 r) ∧ Drawn0 w w' := by
 have H : (if a1 = 0 then (none) else (if (Int.tmod a0 a1) < 0 then (some (wrap64 ((Int.tmod a0 a1) + a1))) else (some (Int.tmod a0 a1)))) = some r := h
 clear h
 by_cases c3 : a1 = 0
 ·
  rw [if_pos c3] at H
  exact absurd H (by simp)
 ·
  rw [if_neg c3] at H
  have c3b0 : (a1 == 0) = false := beq_eq_false_iff_ne.mpr c3
  have c3b1 : (a1 != 0) = true := bne_iff_ne.mpr c3
  by_cases c4 : (Int.tmod a0 a1) < 0
  ·
   rw [if_pos c4] at H
   have c4b0 : decide ((Int.tmod a0 a1) < 0) = true := decide_eq_true c4
   clear c4
   obtain rfl := Option.some.inj H
   go_enter Tryd.func21, Tryd.ntmps21
   go_wp2
   go_ret
   exact ⟨by first | rfl | (simp; done) | (simp [*]; done), by repeat (first | exact Drawn0.refl _ | apply Drawn0.step)⟩
  ·
   rw [if_neg c4] at H
   have c4b0 : decide ((Int.tmod a0 a1) < 0) = false := decide_eq_false c4
   clear c4
   obtain rfl := Option.some.inj H
   go_enter Tryd.func21, Tryd.ntmps21
   go_wp2
   go_ret
   exact ⟨by first | rfl | (simp; done) | (simp [*]; done), by repeat (first | exact Drawn0.refl _ | apply Drawn0.step)⟩


/-! ### vigillaw03_digitsOf: function 28 -/
def vigillaw03_digitsOf.l0 : Nat → List Int → ByteArray → Int → Option (ByteArray)
 | 0, _, _, _ => none
 | k + 1, x0, x3, x4 => if x4 < (x0.length : Int) then (if x4 < 40 then (if 0 ≤ x4 then ((some (([(48 + (Int.tmod (rd x0 x4) 10)) % 256] : List Int) : List Int)).bind fun y733 => (if x3.size + (strOfNums y733).size ≤ 9223372036854775807 then (vigillaw03_digitsOf.l0 k x0 (x3 ++ (strOfNums y733)) (wrap64 (x4 + 1))) else (none))) else (none)) else (some x3)) else (some x3)
def vigillaw03_digitsOf.f (k : Nat) (l0 : List Int) : Option (ByteArray) := vigillaw03_digitsOf.l0 k l0 (⟨#[48]⟩ : ByteArray) 0
theorem vigillaw03_digitsOf.mono_l : ∀ k, (∀ y0 y1 y2, LeO (vigillaw03_digitsOf.l0 k y0 y1 y2) (vigillaw03_digitsOf.l0 (k + 1) y0 y1 y2))
 | 0 => fun _ _ _ r h => by simp [vigillaw03_digitsOf.l0] at h
 | k + 1 => by
  have ih0 := vigillaw03_digitsOf.mono_l k
  ·
   intro y0 y1 y2
   unfold vigillaw03_digitsOf.l0
   repeat' first | (with_reducible exact ih0 _ _ _) | (with_reducible exact LeO.refl _) | (with_reducible exact LeO.none _) | (with_reducible refine LeO.ite ?_ ?_) | (with_reducible refine LeO.bind ?_ (fun _ => ?_))
theorem vigillaw03_digitsOf.mono : ∀ a0 k, LeO (vigillaw03_digitsOf.f k a0) (vigillaw03_digitsOf.f (k + 1) a0) := by
 intro a0 k
 have ih0 := vigillaw03_digitsOf.mono_l k
 unfold vigillaw03_digitsOf.f
 repeat' first | (with_reducible exact ih0 _ _ _) | (with_reducible exact LeO.refl _) | (with_reducible exact LeO.none _) | (with_reducible refine LeO.ite ?_ ?_) | (with_reducible refine LeO.bind ?_ (fun _ => ?_))
set_option maxHeartbeats 8000000 in
set_option maxRecDepth 100000 in
theorem vigillaw03_digitsOf.calls (k : Nat) (A0 : Option Addr) (c0 : Nat) (l0 : List Int) (r : ByteArray) (w : World) (hr0 : Kd.C (Kd.int .u8) w A0 l0.length l0) (hc0 : l0.length ≤ c0) (h : vigillaw03_digitsOf.f k l0 = some r) :
  Calls Tryd.prog 28 #[.slice A0 l0.length c0] w fun e w' => e = .returned (.string r) ∧ Below w.heap.size w w' := by
 have HR0 := Aside0.mk hr0
 have HC0 := Aside0.mk hc0
 clear hr0 hc0
 have HB := Aside0.mk (Below.refl w.heap.size w)
 have H : (vigillaw03_digitsOf.l0 k l0 (⟨#[48]⟩ : ByteArray) 0) = some r := h
 clear h
 have H' := Aside0.mk H
 clear H
 go_enter Tryd.func28, Tryd.ntmps28
 go_wp2
 go_loopg [3, 4] k (fun kq v3 v4 w' => ∃ (x3_1 : ByteArray) (x4_1 : Int), v3 = .string x3_1 ∧ v4 = .int .i64 x4_1 ∧ Aside0 (vigillaw03_digitsOf.l0 kq l0 x3_1 x4_1 = some r) ∧ Aside0 (kq ≤ k) ∧ Aside0 (Below w.heap.size w w'))
 case atStart => exact ⟨((⟨#[48]⟩ : ByteArray)), (0), (by first | rfl | (simp; done) | (simp [*]; done)), (by first | rfl | (simp; done) | (simp [*]; done)), H', ⟨Nat.le_refl _⟩, ⟨lk HB⟩⟩
 case round =>
  clear H'
  obtain ⟨x3_1, x4_1, rfl, rfl, HA, HK1, HB⟩ := hrel
  cases gk with
  | zero => exact absurd HA.out (by simp [vigillaw03_digitsOf.l0])
  | succ k1 =>
   have H := HA.out
   clear HA
   simp only [vigillaw03_digitsOf.l0] at H
   by_cases c2 : x4_1 < (l0.length : Int)
   ·
    rw [if_pos c2] at H
    have c2b0 : decide (x4_1 < (l0.length : Int)) = true := decide_eq_true c2
    clear c2
    by_cases c3 : x4_1 < 40
    ·
     rw [if_pos c3] at H
     have c3b0 : decide (x4_1 < 40) = true := decide_eq_true c3
     clear c3
     by_cases c4 : 0 ≤ x4_1
     ·
      rw [if_pos c4] at H
      have c4b0 : decide (0 ≤ x4_1) = true := decide_eq_true c4
      clear c4
      obtain ⟨y733, hy733⟩ : ∃ y_ : List Int, y_ = (([(48 + (Int.tmod (rd l0 x4_1) 10)) % 256] : List Int)) := ⟨_, rfl⟩
      replace H : (if x3_1.size + (strOfNums y733).size ≤ 9223372036854775807 then (vigillaw03_digitsOf.l0 k1 l0 (x3_1 ++ (strOfNums y733)) (wrap64 (x4_1 + 1))) else (none)) = some r := by first | (rw [hy733]; with_reducible exact H) | (have H2_ := (Option.bind_some _ _).symm.trans H; rw [hy733]; with_reducible exact H2_) | (have H2_ := (Option.bind_some _ _).symm.trans H; with_reducible exact H2_) | with_reducible exact H | (rw [hy733]; exact H) | exact H
      have Ny733 := Aside0.mk hy733
      clear hy733
      by_cases c5 : x3_1.size + (strOfNums y733).size ≤ 9223372036854775807
      ·
       rw [if_pos c5] at H
       have c5b0 := eq_true c5
       have c5b1 : decide (x3_1.size + (strOfNums y733).size ≤ 9223372036854775807) = true := decide_eq_true c5
       try have c5b2 : (9223372036854775807 < x3_1.size + (strOfNums y733).size) = False := eq_false (Nat.not_lt.2 c5)
       obtain ⟨y736, hy736⟩ : ∃ y_ : ByteArray, y_ = (x3_1 ++ (strOfNums y733)) := ⟨_, rfl⟩
       replace H : (vigillaw03_digitsOf.l0 k1 l0 y736 (wrap64 (x4_1 + 1))) = some r := by first | (rw [hy736]; with_reducible exact H) | (have H2_ := (Option.bind_some _ _).symm.trans H; rw [hy736]; with_reducible exact H2_) | (have H2_ := (Option.bind_some _ _).symm.trans H; with_reducible exact H2_) | with_reducible exact H | (rw [hy736]; exact H) | exact H
       have Ny736 := Aside0.mk hy736
       clear hy736
       have H' := Aside0.mk H
       clear H
       have p732 : 0 ≤ (x4_1 : Int) := of_decide_eq_true (by first | (with_reducible assumption) | assumption)
       have q732 : x4_1 < (l0.length : Int) := of_decide_eq_true (by first | (with_reducible assumption) | assumption)
       obtain ⟨ad732, e732, hx732_0⟩ := Kd.at_int HR0.out x4_1 p732 q732
       cases e732
       replace hx732_0 := (HB.out.cell (World.block_lt_of_cell? w _ hx732_0)).trans hx732_0
       replace p732 := eq_true p732
       replace q732 := eq_true q732
       go_wp2_with (first | ((with_reducible refine gate_dst (N := 22) rfl ?_); refine Kd.R_lit (Kd.int .u8) _ 5 ?hg (N := 22) ?hd (xs := ([(48 + (Int.tmod (rd l0 x4_1) 10)) % 256] : List Int)) (inner := [.int .u8 ((48 + (Int.tmod (rd l0 x4_1) 10)) % 256)]) (ok := fun _ => True) (okp := fun _ => True) ?hr ?hp (fun _ hk => hk) trivial (Below.refl _ _) (Nat.le_refl _) (by simp) ?_; (case hd => rfl); (case hg => rfl); (case hr => first | (go_simp; done) | (go_simp; rfl)); (case hp => exact (Reps.one (show Kd.M (Kd.int .u8) _ _ _ ((48 + (Int.tmod (rd l0 x4_1) 10)) % 256) [.int .u8 ((48 + (Int.tmod (rd l0 x4_1) 10)) % 256)] from rfl) (Reps.none _ _))); intro v734 w6 ho7 hb hg_ hnew_; clear hg_ hnew_; (first | rw [← Ny733.out] at ho7 | (simp only [Int.reduceToNat] at ho7; rw [← Ny733.out] at ho7)); have HO735 := Aside0.mk (Kd.R_lower ho7 (below_size (lk HB))); replace HB := lb HB hb; clear hb ho7; have hcv8 := own_string (P := Tryd.prog) Tryd.underlying43 Tryd.underlying5 Tryd.underlying9 (Kd.own_of_R HO735.out); have hcs9 := Hd.str_cat (P := Tryd.prog) (s := x3_1) (t := (strOfNums y733)) (y := y736) (by first | (with_reducible assumption) | assumption | exact of_eq_true (by assumption) | omega) Ny736.out; have hcs9' := Hd.str_cat' (P := Tryd.prog) (s := x3_1) (t := (strOfNums y733)) (y := y736) (by first | (with_reducible assumption) | assumption | exact of_eq_true (by assumption) | omega) Ny736.out))
       go_roundg k1
       case measure => have := HK1.out; omega
       case rel => exact ⟨(y736), (wrap64 (x4_1 + 1)), (by first | rfl | (simp; done) | (simp [*]; done)), (by first | rfl | (simp; done) | (simp [*]; done)), H', ⟨by have := HK1.out; omega⟩, ⟨lk HB⟩⟩
      ·
       rw [if_neg c5] at H
       exact absurd H (by simp)
     ·
      rw [if_neg c4] at H
      exact absurd H (by simp)
    ·
     rw [if_neg c3] at H
     have c3b0 : decide (x4_1 < 40) = false := decide_eq_false c3
     clear c3
     obtain rfl := Option.some.inj H
     go_wp2
     go_ret
     exact ex (lk HB)
   ·
    rw [if_neg c2] at H
    have c2b0 : decide (x4_1 < (l0.length : Int)) = false := decide_eq_false c2
    clear c2
    obtain rfl := Option.some.inj H
    go_wp2
    go_ret
    exact ex (lk HB)


/-! ### vigillaw03_NumMonotone: function 8 -/
mutual
def vigillaw03_NumMonotone.l0 : Nat → Int → ByteArray → ByteArray → Option (Bool)
 | 0, _, _, _ => none
 | k + 1, x2, x7, x8 => if (x7.size : Int) < (x8.size : Int) then (if 1 + x7.size ≤ 9223372036854775807 then (vigillaw03_NumMonotone.l0 k x2 ((⟨#[48]⟩ : ByteArray) ++ x7) x8) else (none)) else (vigillaw03_NumMonotone.l1 k x2 x7 x8)
def vigillaw03_NumMonotone.l1 : Nat → Int → ByteArray → ByteArray → Option (Bool)
 | 0, _, _, _ => none
 | k + 1, x2, x7, x8 => if (x8.size : Int) < (x7.size : Int) then (if 1 + x8.size ≤ 9223372036854775807 then (vigillaw03_NumMonotone.l1 k x2 x7 ((⟨#[48]⟩ : ByteArray) ++ x8)) else (none)) else ((vigilkeep_Within.f x2 700).bind fun t741 => ((Hd.num_IntText.f (wrap64 (t741 - 360))).bind fun t742 => (if x7.size + 1 ≤ 9223372036854775807 then ((some (x7 ++ (⟨#[101]⟩ : ByteArray) : ByteArray)).bind fun y743 => (if y743.size + t742.size ≤ 9223372036854775807 then ((num_Parse.f k (y743 ++ t742)).bind fun bt745 => (if x8.size + 1 ≤ 9223372036854775807 then ((some (x8 ++ (⟨#[101]⟩ : ByteArray) : ByteArray)).bind fun y747 => (if y747.size + t742.size ≤ 9223372036854775807 then ((num_Parse.f k (y747 ++ t742)).bind fun bt749 => (if bt745.2 = 0 then (vigillaw03_NumMonotone.j2 k x7 x8 bt745.1 bt749.1 (bt749.2 != 0)) else (vigillaw03_NumMonotone.j2 k x7 x8 bt745.1 bt749.1 true))) else (none))) else (none))) else (none))) else (none))))
def vigillaw03_NumMonotone.j2 : Nat → ByteArray → ByteArray → Nat → Nat → Bool → Option (Bool)
 | 0, _, _, _, _, _ => none
 | k + 1, x7, x8, x10, x12, x57 => if x57 = true then (some false) else (if (Op.bytesLess x7.toList x8.toList) = true then (if (FloatKind.f64.format.order x10 x12 == some Ordering.lt || FloatKind.f64.format.order x10 x12 == some Ordering.eq) = true then ((vigillaw03_wakes.f k).bind fun t751 => (some t751)) else (if x7.toList = x8.toList then ((vigilkeep_Bits.f x10 x12).bind fun t752 => (if t752 = true then ((vigillaw03_wakes.f k).bind fun t753 => (some t753)) else (some false))) else (some false))) else (if x7.toList = x8.toList then ((vigilkeep_Bits.f x10 x12).bind fun t754 => (if t754 = true then ((vigillaw03_wakes.f k).bind fun t755 => (some t755)) else (some false))) else (if (FloatKind.f64.format.order x10 x12 == some Ordering.gt || FloatKind.f64.format.order x10 x12 == some Ordering.eq) = true then ((vigillaw03_wakes.f k).bind fun t756 => (some t756)) else (some false))))
end
def vigillaw03_NumMonotone.f (k : Nat) (l0 : List Int) (l1 : List Int) (a2 : Int) : Option (Bool) := (vigillaw03_digitsOf.f k l0).bind fun t737 => ((vigillaw03_digitsOf.f k l1).bind fun t738 => (vigillaw03_NumMonotone.l0 k a2 t737 t738))
theorem vigillaw03_NumMonotone.mono_l : ∀ k, (∀ y0 y1 y2, LeO (vigillaw03_NumMonotone.l0 k y0 y1 y2) (vigillaw03_NumMonotone.l0 (k + 1) y0 y1 y2)) ∧ (∀ y0 y1 y2, LeO (vigillaw03_NumMonotone.l1 k y0 y1 y2) (vigillaw03_NumMonotone.l1 (k + 1) y0 y1 y2)) ∧ (∀ y0 y1 y2 y3 y4, LeO (vigillaw03_NumMonotone.j2 k y0 y1 y2 y3 y4) (vigillaw03_NumMonotone.j2 (k + 1) y0 y1 y2 y3 y4))
 | 0 => ⟨fun _ _ _ r h => by simp [vigillaw03_NumMonotone.l0] at h, fun _ _ _ r h => by simp [vigillaw03_NumMonotone.l1] at h, fun _ _ _ _ _ r h => by simp [vigillaw03_NumMonotone.j2] at h⟩
 | k + 1 => by
  obtain ⟨ih0, ih1, ih2⟩ := vigillaw03_NumMonotone.mono_l k
  refine ⟨?_, ?_, ?_⟩
  ·
   intro y0 y1 y2
   unfold vigillaw03_NumMonotone.l0
   repeat' first | (with_reducible exact ih0 _ _ _) | (with_reducible exact ih1 _ _ _) | (with_reducible exact ih2 _ _ _ _ _) | (with_reducible exact num_Parse.mono _ _) | (with_reducible exact vigillaw03_digitsOf.mono _ _) | (with_reducible exact vigillaw03_wakes.mono _) | (with_reducible exact LeO.refl _) | (with_reducible exact LeO.none _) | (with_reducible refine LeO.ite ?_ ?_) | (with_reducible refine LeO.bind ?_ (fun _ => ?_))
  ·
   intro y0 y1 y2
   unfold vigillaw03_NumMonotone.l1
   repeat' first | (with_reducible exact ih0 _ _ _) | (with_reducible exact ih1 _ _ _) | (with_reducible exact ih2 _ _ _ _ _) | (with_reducible exact num_Parse.mono _ _) | (with_reducible exact vigillaw03_digitsOf.mono _ _) | (with_reducible exact vigillaw03_wakes.mono _) | (with_reducible exact LeO.refl _) | (with_reducible exact LeO.none _) | (with_reducible refine LeO.ite ?_ ?_) | (with_reducible refine LeO.bind ?_ (fun _ => ?_))
  ·
   intro y0 y1 y2 y3 y4
   unfold vigillaw03_NumMonotone.j2
   repeat' first | (with_reducible exact ih0 _ _ _) | (with_reducible exact ih1 _ _ _) | (with_reducible exact ih2 _ _ _ _ _) | (with_reducible exact num_Parse.mono _ _) | (with_reducible exact vigillaw03_digitsOf.mono _ _) | (with_reducible exact vigillaw03_wakes.mono _) | (with_reducible exact LeO.refl _) | (with_reducible exact LeO.none _) | (with_reducible refine LeO.ite ?_ ?_) | (with_reducible refine LeO.bind ?_ (fun _ => ?_))
theorem vigillaw03_NumMonotone.mono : ∀ a0 a1 a2 k, LeO (vigillaw03_NumMonotone.f k a0 a1 a2) (vigillaw03_NumMonotone.f (k + 1) a0 a1 a2) := by
 intro a0 a1 a2 k
 obtain ⟨ih0, ih1, ih2⟩ := vigillaw03_NumMonotone.mono_l k
 unfold vigillaw03_NumMonotone.f
 repeat' first | (with_reducible exact ih0 _ _ _) | (with_reducible exact ih1 _ _ _) | (with_reducible exact ih2 _ _ _ _ _) | (with_reducible exact num_Parse.mono _ _) | (with_reducible exact vigillaw03_digitsOf.mono _ _) | (with_reducible exact vigillaw03_wakes.mono _) | (with_reducible exact LeO.refl _) | (with_reducible exact LeO.none _) | (with_reducible refine LeO.ite ?_ ?_) | (with_reducible refine LeO.bind ?_ (fun _ => ?_))
set_option maxHeartbeats 8000000 in
set_option maxRecDepth 100000 in
theorem vigillaw03_NumMonotone.calls (k : Nat) (A0 : Option Addr) (c0 : Nat) (l0 : List Int) (A1 : Option Addr) (c1 : Nat) (l1 : List Int) (a2 : Int) (r : Bool) (w : World) (hr0 : Kd.C (Kd.int .u8) w A0 l0.length l0) (hc0 : l0.length ≤ c0) (hr1 : Kd.C (Kd.int .u8) w A1 l1.length l1) (hc1 : l1.length ≤ c1) (h : vigillaw03_NumMonotone.f k l0 l1 a2 = some r) :
  Calls Tryd.prog 8 #[.slice A0 l0.length c0, .slice A1 l1.length c1, .int .i64 a2] w fun e w' => e = .returned (.bool r) ∧ Below w.heap.size w w' := by
 have HR0 := Aside0.mk hr0
 have HC0 := Aside0.mk hc0
 clear hr0 hc0
 have HR1 := Aside0.mk hr1
 have HC1 := Aside0.mk hc1
 clear hr1 hc1
 have HB := Aside0.mk (Below.refl w.heap.size w)
 have H : ((vigillaw03_digitsOf.f k l0).bind fun t737 => ((vigillaw03_digitsOf.f k l1).bind fun t738 => (vigillaw03_NumMonotone.l0 k a2 t737 t738))) = some r := h
 clear h
 replace H := Option.bind_eq_some_iff.mp H
 obtain ⟨t737, A40, H⟩ := H
 replace H : ((vigillaw03_digitsOf.f k l1).bind fun t738 => (vigillaw03_NumMonotone.l0 k a2 t737 t738)) = some r := H
 have A4 := Aside0.mk A40
 clear A40
 replace H := Option.bind_eq_some_iff.mp H
 obtain ⟨t738, A50, H⟩ := H
 replace H : (vigillaw03_NumMonotone.l0 k a2 t737 t738) = some r := H
 have A5 := Aside0.mk A50
 clear A50
 have H' := Aside0.mk H
 clear H
 go_enter Tryd.func8, Tryd.ntmps8
 go_wp2_with (first | ((with_reducible refine gate_callee (f := 28) rfl ?_); refine gL (some 15) Tryd.func28 #[.slice A0 l0.length c0] ?_; (with_reducible refine (vigillaw03_digitsOf.calls k _ _ l0 t737 _ ?side1 ?side2 A4.out).mono ?_); (case side1 => exact ck HR0.out); (case side2 => exact HC0.out); rintro e w6 ⟨rfl, hb⟩; refine ⟨_, rfl, ?_⟩; replace HB := lb HB hb; (try clear hb); (try clear hb2); (try clear hk); (try clear hi)) | ((with_reducible refine gate_callee (f := 28) rfl ?_); refine gL (some 17) Tryd.func28 #[.slice A1 l1.length c1] ?_; (with_reducible refine (vigillaw03_digitsOf.calls k _ _ l1 t738 _ ?side1 ?side2 A5.out).mono ?_); (case side1 => exact ck (Kd.C_below HR1.out HB.out)); (case side2 => exact HC1.out); rintro e w7 ⟨rfl, hb⟩; refine ⟨_, rfl, ?_⟩; replace HB := lb HB hb; (try clear hb); (try clear hb2); (try clear hk); (try clear hi)))
 go_loopg [7] k (fun kq v7 w' => ∃ (x7_1 : ByteArray), v7 = .string x7_1 ∧ Aside0 (vigillaw03_NumMonotone.l0 kq a2 x7_1 t738 = some r) ∧ Aside0 (kq ≤ k) ∧ Aside0 (Below w.heap.size w w'))
 case atStart => exact ⟨(t737), (by first | rfl | (simp; done) | (simp [*]; done)), H', ⟨Nat.le_refl _⟩, ⟨lk HB⟩⟩
 case round =>
  clear H'
  try clear c1
  try clear c2
  try clear p2
  obtain ⟨x7_1, rfl, HA, HK1, HB⟩ := hrel
  cases gk with
  | zero => exact absurd HA.out (by simp [vigillaw03_NumMonotone.l0])
  | succ k1 =>
   have H := HA.out
   clear HA
   simp only [vigillaw03_NumMonotone.l0] at H
   by_cases c8 : (x7_1.size : Int) < (t738.size : Int)
   ·
    rw [if_pos c8] at H
    have c8b0 : decide ((x7_1.size : Int) < (t738.size : Int)) = true := decide_eq_true c8
    have c8b1 : decide (x7_1.size < t738.size) = true := decide_eq_true (Int.ofNat_lt.mp c8)
    clear c8
    by_cases c9 : 1 + x7_1.size ≤ 9223372036854775807
    ·
     rw [if_pos c9] at H
     have c9b0 := eq_true c9
     have c9b1 : decide (1 + x7_1.size ≤ 9223372036854775807) = true := decide_eq_true c9
     try have c9b2 : (9223372036854775807 < 1 + x7_1.size) = False := eq_false (Nat.not_lt.2 c9)
     obtain ⟨y739, hy739⟩ : ∃ y_ : ByteArray, y_ = ((⟨#[48]⟩ : ByteArray) ++ x7_1) := ⟨_, rfl⟩
     replace H : (vigillaw03_NumMonotone.l0 k1 a2 y739 t738) = some r := by first | (rw [hy739]; with_reducible exact H) | (have H2_ := (Option.bind_some _ _).symm.trans H; rw [hy739]; with_reducible exact H2_) | (have H2_ := (Option.bind_some _ _).symm.trans H; with_reducible exact H2_) | with_reducible exact H | (rw [hy739]; exact H) | exact H
     have Ny739 := Aside0.mk hy739
     clear hy739
     have H' := Aside0.mk H
     clear H
     have hcs10 := Hd.str_cat (P := Tryd.prog) (s := (⟨#[48]⟩ : ByteArray)) (t := x7_1) (y := y739) (by first | (with_reducible assumption) | assumption | exact of_eq_true (by assumption) | omega) Ny739.out
     have hcs10' := Hd.str_cat' (P := Tryd.prog) (s := (⟨#[48]⟩ : ByteArray)) (t := x7_1) (y := y739) (by first | (with_reducible assumption) | assumption | exact of_eq_true (by assumption) | omega) Ny739.out
     go_wp2
     go_roundg k1
     case measure => have := HK1.out; omega
     case rel => exact ⟨(y739), (by first | rfl | (simp; done) | (simp [*]; done)), H', ⟨by have := HK1.out; omega⟩, ⟨lk HB⟩⟩
    ·
     rw [if_neg c9] at H
     exact absurd H (by simp)
   ·
    rw [if_neg c8] at H
    have c8b0 : decide ((x7_1.size : Int) < (t738.size : Int)) = false := decide_eq_false c8
    have c8b1 : decide (x7_1.size < t738.size) = false := decide_eq_false (fun h => c8 (Int.ofNat_lt.mpr h))
    clear c8
    have H' := Aside0.mk H
    clear H
    go_wp2
    go_loopg [8] k1 (fun kq v8 w' => ∃ (x8_2 : ByteArray), v8 = .string x8_2 ∧ Aside0 (vigillaw03_NumMonotone.l1 kq a2 x7_1 x8_2 = some r) ∧ Aside0 (kq ≤ k1) ∧ Aside0 (Below w.heap.size w w'))
    case atStart => exact ⟨(t738), (by first | rfl | (simp; done) | (simp [*]; done)), H', ⟨Nat.le_refl _⟩, ⟨lk HB⟩⟩
    case round =>
     clear H'
     try clear c1
     try clear c2
     try clear p2
     try clear c8
     try clear c8b0
     try clear c8b1
     try clear c9
     try clear c9b0
     try clear c9b1
     try clear c9b2
     try clear p2
     obtain ⟨x8_2, rfl, HA, HK2, HB⟩ := hrel
     cases gk with
     | zero => exact absurd HA.out (by simp [vigillaw03_NumMonotone.l1])
     | succ k2 =>
      have H := HA.out
      clear HA
      simp only [vigillaw03_NumMonotone.l1] at H
      by_cases c11 : (x8_2.size : Int) < (x7_1.size : Int)
      ·
       rw [if_pos c11] at H
       have c11b0 : decide ((x8_2.size : Int) < (x7_1.size : Int)) = true := decide_eq_true c11
       have c11b1 : decide (x8_2.size < x7_1.size) = true := decide_eq_true (Int.ofNat_lt.mp c11)
       clear c11
       by_cases c12 : 1 + x8_2.size ≤ 9223372036854775807
       ·
        rw [if_pos c12] at H
        have c12b0 := eq_true c12
        have c12b1 : decide (1 + x8_2.size ≤ 9223372036854775807) = true := decide_eq_true c12
        try have c12b2 : (9223372036854775807 < 1 + x8_2.size) = False := eq_false (Nat.not_lt.2 c12)
        obtain ⟨y740, hy740⟩ : ∃ y_ : ByteArray, y_ = ((⟨#[48]⟩ : ByteArray) ++ x8_2) := ⟨_, rfl⟩
        replace H : (vigillaw03_NumMonotone.l1 k2 a2 x7_1 y740) = some r := by first | (rw [hy740]; with_reducible exact H) | (have H2_ := (Option.bind_some _ _).symm.trans H; rw [hy740]; with_reducible exact H2_) | (have H2_ := (Option.bind_some _ _).symm.trans H; with_reducible exact H2_) | with_reducible exact H | (rw [hy740]; exact H) | exact H
        have Ny740 := Aside0.mk hy740
        clear hy740
        have H' := Aside0.mk H
        clear H
        have hcs13 := Hd.str_cat (P := Tryd.prog) (s := (⟨#[48]⟩ : ByteArray)) (t := x8_2) (y := y740) (by first | (with_reducible assumption) | assumption | exact of_eq_true (by assumption) | omega) Ny740.out
        have hcs13' := Hd.str_cat' (P := Tryd.prog) (s := (⟨#[48]⟩ : ByteArray)) (t := x8_2) (y := y740) (by first | (with_reducible assumption) | assumption | exact of_eq_true (by assumption) | omega) Ny740.out
        go_wp2
        go_roundg k2
        case measure => have := HK1.out; have := HK2.out; omega
        case rel => exact ⟨(y740), (by first | rfl | (simp; done) | (simp [*]; done)), H', ⟨by have := HK1.out; have := HK2.out; omega⟩, ⟨lk HB⟩⟩
       ·
        rw [if_neg c12] at H
        exact absurd H (by simp)
      ·
       rw [if_neg c11] at H
       have c11b0 : decide ((x8_2.size : Int) < (x7_1.size : Int)) = false := decide_eq_false c11
       have c11b1 : decide (x8_2.size < x7_1.size) = false := decide_eq_false (fun h => c11 (Int.ofNat_lt.mpr h))
       clear c11
       replace H := Option.bind_eq_some_iff.mp H
       obtain ⟨t741, A140, H⟩ := H
       replace H : ((Hd.num_IntText.f (wrap64 (t741 - 360))).bind fun t742 => (if x7_1.size + 1 ≤ 9223372036854775807 then ((some (x7_1 ++ (⟨#[101]⟩ : ByteArray) : ByteArray)).bind fun y743 => (if y743.size + t742.size ≤ 9223372036854775807 then ((num_Parse.f k2 (y743 ++ t742)).bind fun bt745 => (if x8_2.size + 1 ≤ 9223372036854775807 then ((some (x8_2 ++ (⟨#[101]⟩ : ByteArray) : ByteArray)).bind fun y747 => (if y747.size + t742.size ≤ 9223372036854775807 then ((num_Parse.f k2 (y747 ++ t742)).bind fun bt749 => (if bt745.2 = 0 then (vigillaw03_NumMonotone.j2 k2 x7_1 x8_2 bt745.1 bt749.1 (bt749.2 != 0)) else (vigillaw03_NumMonotone.j2 k2 x7_1 x8_2 bt745.1 bt749.1 true))) else (none))) else (none))) else (none))) else (none))) = some r := H
       have A14 := Aside0.mk A140
       clear A140
       replace H := Option.bind_eq_some_iff.mp H
       obtain ⟨t742, A150, H⟩ := H
       replace H : (if x7_1.size + 1 ≤ 9223372036854775807 then ((some (x7_1 ++ (⟨#[101]⟩ : ByteArray) : ByteArray)).bind fun y743 => (if y743.size + t742.size ≤ 9223372036854775807 then ((num_Parse.f k2 (y743 ++ t742)).bind fun bt745 => (if x8_2.size + 1 ≤ 9223372036854775807 then ((some (x8_2 ++ (⟨#[101]⟩ : ByteArray) : ByteArray)).bind fun y747 => (if y747.size + t742.size ≤ 9223372036854775807 then ((num_Parse.f k2 (y747 ++ t742)).bind fun bt749 => (if bt745.2 = 0 then (vigillaw03_NumMonotone.j2 k2 x7_1 x8_2 bt745.1 bt749.1 (bt749.2 != 0)) else (vigillaw03_NumMonotone.j2 k2 x7_1 x8_2 bt745.1 bt749.1 true))) else (none))) else (none))) else (none))) else (none)) = some r := H
       have A15 := Aside0.mk A150
       clear A150
       by_cases c16 : x7_1.size + 1 ≤ 9223372036854775807
       ·
        rw [if_pos c16] at H
        have c16b0 := eq_true c16
        have c16b1 : decide (x7_1.size + 1 ≤ 9223372036854775807) = true := decide_eq_true c16
        try have c16b2 : (9223372036854775807 < x7_1.size + 1) = False := eq_false (Nat.not_lt.2 c16)
        obtain ⟨y743, hy743⟩ : ∃ y_ : ByteArray, y_ = (x7_1 ++ (⟨#[101]⟩ : ByteArray)) := ⟨_, rfl⟩
        replace H : (if y743.size + t742.size ≤ 9223372036854775807 then ((num_Parse.f k2 (y743 ++ t742)).bind fun bt745 => (if x8_2.size + 1 ≤ 9223372036854775807 then ((some (x8_2 ++ (⟨#[101]⟩ : ByteArray) : ByteArray)).bind fun y747 => (if y747.size + t742.size ≤ 9223372036854775807 then ((num_Parse.f k2 (y747 ++ t742)).bind fun bt749 => (if bt745.2 = 0 then (vigillaw03_NumMonotone.j2 k2 x7_1 x8_2 bt745.1 bt749.1 (bt749.2 != 0)) else (vigillaw03_NumMonotone.j2 k2 x7_1 x8_2 bt745.1 bt749.1 true))) else (none))) else (none))) else (none)) = some r := by first | (rw [hy743]; with_reducible exact H) | (have H2_ := (Option.bind_some _ _).symm.trans H; rw [hy743]; with_reducible exact H2_) | (have H2_ := (Option.bind_some _ _).symm.trans H; with_reducible exact H2_) | with_reducible exact H | (rw [hy743]; exact H) | exact H
        have Ny743 := Aside0.mk hy743
        clear hy743
        by_cases c17 : y743.size + t742.size ≤ 9223372036854775807
        ·
         rw [if_pos c17] at H
         have c17b0 := eq_true c17
         have c17b1 : decide (y743.size + t742.size ≤ 9223372036854775807) = true := decide_eq_true c17
         try have c17b2 : (9223372036854775807 < y743.size + t742.size) = False := eq_false (Nat.not_lt.2 c17)
         obtain ⟨y744, hy744⟩ : ∃ y_ : ByteArray, y_ = (y743 ++ t742) := ⟨_, rfl⟩
         replace H : ((num_Parse.f k2 y744).bind fun bt745 => (if x8_2.size + 1 ≤ 9223372036854775807 then ((some (x8_2 ++ (⟨#[101]⟩ : ByteArray) : ByteArray)).bind fun y747 => (if y747.size + t742.size ≤ 9223372036854775807 then ((num_Parse.f k2 (y747 ++ t742)).bind fun bt749 => (if bt745.2 = 0 then (vigillaw03_NumMonotone.j2 k2 x7_1 x8_2 bt745.1 bt749.1 (bt749.2 != 0)) else (vigillaw03_NumMonotone.j2 k2 x7_1 x8_2 bt745.1 bt749.1 true))) else (none))) else (none))) = some r := by first | (rw [hy744]; with_reducible exact H) | (have H2_ := (Option.bind_some _ _).symm.trans H; rw [hy744]; with_reducible exact H2_) | (have H2_ := (Option.bind_some _ _).symm.trans H; with_reducible exact H2_) | with_reducible exact H | (rw [hy744]; exact H) | exact H
         have Ny744 := Aside0.mk hy744
         clear hy744
         replace H := Option.bind_eq_some_iff.mp H
         obtain ⟨⟨t745, t746⟩, A180, H⟩ := H
         replace H : (if x8_2.size + 1 ≤ 9223372036854775807 then ((some (x8_2 ++ (⟨#[101]⟩ : ByteArray) : ByteArray)).bind fun y747 => (if y747.size + t742.size ≤ 9223372036854775807 then ((num_Parse.f k2 (y747 ++ t742)).bind fun bt749 => (if t746 = 0 then (vigillaw03_NumMonotone.j2 k2 x7_1 x8_2 t745 bt749.1 (bt749.2 != 0)) else (vigillaw03_NumMonotone.j2 k2 x7_1 x8_2 t745 bt749.1 true))) else (none))) else (none)) = some r := H
         have A18 := Aside0.mk A180
         clear A180
         by_cases c19 : x8_2.size + 1 ≤ 9223372036854775807
         ·
          rw [if_pos c19] at H
          have c19b0 := eq_true c19
          have c19b1 : decide (x8_2.size + 1 ≤ 9223372036854775807) = true := decide_eq_true c19
          try have c19b2 : (9223372036854775807 < x8_2.size + 1) = False := eq_false (Nat.not_lt.2 c19)
          obtain ⟨y747, hy747⟩ : ∃ y_ : ByteArray, y_ = (x8_2 ++ (⟨#[101]⟩ : ByteArray)) := ⟨_, rfl⟩
          replace H : (if y747.size + t742.size ≤ 9223372036854775807 then ((num_Parse.f k2 (y747 ++ t742)).bind fun bt749 => (if t746 = 0 then (vigillaw03_NumMonotone.j2 k2 x7_1 x8_2 t745 bt749.1 (bt749.2 != 0)) else (vigillaw03_NumMonotone.j2 k2 x7_1 x8_2 t745 bt749.1 true))) else (none)) = some r := by first | (rw [hy747]; with_reducible exact H) | (have H2_ := (Option.bind_some _ _).symm.trans H; rw [hy747]; with_reducible exact H2_) | (have H2_ := (Option.bind_some _ _).symm.trans H; with_reducible exact H2_) | with_reducible exact H | (rw [hy747]; exact H) | exact H
          have Ny747 := Aside0.mk hy747
          clear hy747
          by_cases c20 : y747.size + t742.size ≤ 9223372036854775807
          ·
           rw [if_pos c20] at H
           have c20b0 := eq_true c20
           have c20b1 : decide (y747.size + t742.size ≤ 9223372036854775807) = true := decide_eq_true c20
           try have c20b2 : (9223372036854775807 < y747.size + t742.size) = False := eq_false (Nat.not_lt.2 c20)
           obtain ⟨y748, hy748⟩ : ∃ y_ : ByteArray, y_ = (y747 ++ t742) := ⟨_, rfl⟩
           replace H : ((num_Parse.f k2 y748).bind fun bt749 => (if t746 = 0 then (vigillaw03_NumMonotone.j2 k2 x7_1 x8_2 t745 bt749.1 (bt749.2 != 0)) else (vigillaw03_NumMonotone.j2 k2 x7_1 x8_2 t745 bt749.1 true))) = some r := by first | (rw [hy748]; with_reducible exact H) | (have H2_ := (Option.bind_some _ _).symm.trans H; rw [hy748]; with_reducible exact H2_) | (have H2_ := (Option.bind_some _ _).symm.trans H; with_reducible exact H2_) | with_reducible exact H | (rw [hy748]; exact H) | exact H
           have Ny748 := Aside0.mk hy748
           clear hy748
           replace H := Option.bind_eq_some_iff.mp H
           obtain ⟨⟨t749, t750⟩, A210, H⟩ := H
           replace H : (if t746 = 0 then (vigillaw03_NumMonotone.j2 k2 x7_1 x8_2 t745 t749 (t750 != 0)) else (vigillaw03_NumMonotone.j2 k2 x7_1 x8_2 t745 t749 true)) = some r := H
           have A21 := Aside0.mk A210
           clear A210
           have HC22 := Aside0.mk H
           clear H
           go_upto_region 9 with (first | ((with_reducible refine gate_callee (f := 21) rfl ?_); refine gL (some 33) Tryd.func21 #[.int .i64 a2, .int .i64 700] ?_; (with_reducible refine (vigilkeep_Within.calls a2 700 t741 _ A14.out).mono ?_); rintro e w' ⟨rfl, ⟨nd, rfl⟩⟩; refine ⟨_, rfl, ?_⟩) | ((with_reducible refine gate_callee (f := 26) rfl ?_); refine gL (some 35) Tryd.func26 #[.int .i64 (wrap64 (t741 - 360))] ?_; (with_reducible refine (Hd.num_IntText.calls (wrap64 (t741 - 360)) t742 _ A15.out).mono ?_); rintro e w23 ⟨rfl, hb⟩; refine ⟨_, rfl, ?_⟩; replace HB := lb HB hb; (try clear hb); (try clear hb2); (try clear hk); (try clear hi); have hcs24 := Hd.str_cat (P := Tryd.prog) (s := x7_1) (t := (⟨#[101]⟩ : ByteArray)) (y := y743) (by first | (with_reducible assumption) | assumption | exact of_eq_true (by assumption) | omega) Ny743.out; have hcs24' := Hd.str_cat' (P := Tryd.prog) (s := x7_1) (t := (⟨#[101]⟩ : ByteArray)) (y := y743) (by first | (with_reducible assumption) | assumption | exact of_eq_true (by assumption) | omega) Ny743.out; have hcs25 := Hd.str_cat (P := Tryd.prog) (s := y743) (t := t742) (y := y744) (by first | (with_reducible assumption) | assumption | exact of_eq_true (by assumption) | omega) Ny744.out; have hcs25' := Hd.str_cat' (P := Tryd.prog) (s := y743) (t := t742) (y := y744) (by first | (with_reducible assumption) | assumption | exact of_eq_true (by assumption) | omega) Ny744.out) | ((with_reducible refine gate_callee (f := 18) rfl ?_); refine gL (some 41) Tryd.func18 #[.string y744] ?_; (with_reducible refine (num_Parse.calls k2 y744 t745 t746 _ A18.out).mono ?_); rintro e w26 ⟨rfl, hb⟩; refine ⟨_, rfl, ?_⟩; replace HB := lb HB hb; (try clear hb); (try clear hb2); (try clear hk); (try clear hi); have hcs27 := Hd.str_cat (P := Tryd.prog) (s := x8_2) (t := (⟨#[101]⟩ : ByteArray)) (y := y747) (by first | (with_reducible assumption) | assumption | exact of_eq_true (by assumption) | omega) Ny747.out; have hcs27' := Hd.str_cat' (P := Tryd.prog) (s := x8_2) (t := (⟨#[101]⟩ : ByteArray)) (y := y747) (by first | (with_reducible assumption) | assumption | exact of_eq_true (by assumption) | omega) Ny747.out; have hcs28 := Hd.str_cat (P := Tryd.prog) (s := y747) (t := t742) (y := y748) (by first | (with_reducible assumption) | assumption | exact of_eq_true (by assumption) | omega) Ny748.out; have hcs28' := Hd.str_cat' (P := Tryd.prog) (s := y747) (t := t742) (y := y748) (by first | (with_reducible assumption) | assumption | exact of_eq_true (by assumption) | omega) Ny748.out) | ((with_reducible refine gate_callee (f := 18) rfl ?_); refine gL (some 49) Tryd.func18 #[.string y748] ?_; (with_reducible refine (num_Parse.calls k2 y748 t749 t750 _ A21.out).mono ?_); rintro e w29 ⟨rfl, hb⟩; refine ⟨_, rfl, ?_⟩; replace HB := lb HB hb; (try clear hb); (try clear hb2); (try clear hk); (try clear hi)))
           (try simp only [Act.put, List.setIfInBounds_toArray, List.set_cons_zero, List.set_cons_succ])
           go_cut [57] (fun v57 wc => ∃ (kq : Nat) (x57_21 : Bool), v57 = .bool x57_21 ∧ Aside0 (vigillaw03_NumMonotone.j2 kq x7_1 x8_2 t745 t749 x57_21 = some r) ∧ Aside0 (kq ≤ k2) ∧ Aside0 (Below w.heap.size w wc))
           case first =>
            have H := HC22.out
            clear HC22
            by_cases c30 : t746 = 0
            ·
             rw [if_pos c30] at H
             have c30b0 : (t746 == 0) = true := beq_iff_eq.mpr c30
             have c30b1 : (t746 != 0) = false := bne_eq_false_iff_eq.mpr c30
             clear c30
             (first | rw [c30b0] | (simp only [i64_w, i32_w]; rw [c30b0]) | skip)
             have H' := Aside0.mk H
             clear H
             go_wp2
             go_meet
             case rel => exact ⟨_, ((t750 != 0)), (by first | rfl | (simp; done) | (simp [*]; done)), H', ⟨by have := HK1.out; have := HK2.out; first | omega | exact Nat.le_refl _⟩, ⟨lk HB⟩⟩
            ·
             rw [if_neg c30] at H
             have c30b0 : (t746 == 0) = false := beq_eq_false_iff_ne.mpr c30
             have c30b1 : (t746 != 0) = true := bne_iff_ne.mpr c30
             (first | rw [c30b0] | (simp only [i64_w, i32_w]; rw [c30b0]) | skip)
             have H' := Aside0.mk H
             clear H
             go_wp2
             go_meet
             case rel => exact ⟨_, (true), (by first | rfl | (simp; done) | (simp [*]; done)), H', ⟨by have := HK1.out; have := HK2.out; first | omega | exact Nat.le_refl _⟩, ⟨lk HB⟩⟩
           case rest =>
            clear HC22
            try clear c1
            try clear c2
            try clear p2
            try clear c3
            try clear p6
            try clear c8
            try clear c8b0
            try clear c8b1
            try clear c9
            try clear c9b0
            try clear c9b1
            try clear c9b2
            try clear c11
            try clear c11b0
            try clear c11b1
            try clear c12
            try clear c12b0
            try clear c12b1
            try clear c12b2
            try clear c16
            try clear c16b0
            try clear c16b1
            try clear c16b2
            try clear c17
            try clear c17b0
            try clear c17b1
            try clear c17b2
            try clear c18
            try clear c19
            try clear c19b0
            try clear c19b1
            try clear c19b2
            try clear c20
            try clear c20b0
            try clear c20b1
            try clear c20b2
            try clear c21
            try clear c26
            try clear c28
            try clear c30
            try clear c30b0
            try clear c30b1
            try clear p2
            obtain ⟨kq, x57_21, rfl, HA, HJ21, HB⟩ := hcut
            cases kq with
            | zero => exact absurd HA.out (by simp [vigillaw03_NumMonotone.j2])
            | succ kj21 =>
             have H := HA.out
             clear HA
             simp only [vigillaw03_NumMonotone.j2] at H
             by_cases c31 : x57_21 = true
             ·
              subst c31
              have H1 : (some false) = some r := by rw [if_pos rfl] at H; exact H
              clear H
              have H := H1
              clear H1
              obtain rfl := Option.some.inj H
              go_wp2
              go_ret
              exact ex (lk HB)
             ·
              replace c31 := Bool.eq_false_iff.mpr c31
              subst c31
              have H1 : (if (Op.bytesLess x7_1.toList x8_2.toList) = true then (if (FloatKind.f64.format.order t745 t749 == some Ordering.lt || FloatKind.f64.format.order t745 t749 == some Ordering.eq) = true then ((vigillaw03_wakes.f kj21).bind fun t751 => (some t751)) else (if x7_1.toList = x8_2.toList then ((vigilkeep_Bits.f t745 t749).bind fun t752 => (if t752 = true then ((vigillaw03_wakes.f kj21).bind fun t753 => (some t753)) else (some false))) else (some false))) else (if x7_1.toList = x8_2.toList then ((vigilkeep_Bits.f t745 t749).bind fun t754 => (if t754 = true then ((vigillaw03_wakes.f kj21).bind fun t755 => (some t755)) else (some false))) else (if (FloatKind.f64.format.order t745 t749 == some Ordering.gt || FloatKind.f64.format.order t745 t749 == some Ordering.eq) = true then ((vigillaw03_wakes.f kj21).bind fun t756 => (some t756)) else (some false)))) = some r := by rw [if_neg (show ¬ (false = true) by decide)] at H; exact H
              clear H
              have H := H1
              clear H1
              by_cases c32 : (Op.bytesLess x7_1.toList x8_2.toList) = true
              ·
               rw [if_pos c32] at H
               have c32b0 : (Op.bytesLess x7_1.toList x8_2.toList) = true := c32
               clear c32
               by_cases c33 : (FloatKind.f64.format.order t745 t749 == some Ordering.lt || FloatKind.f64.format.order t745 t749 == some Ordering.eq) = true
               ·
                rw [if_pos c33] at H
                have c33b0 : (FloatKind.f64.format.order t745 t749 == some Ordering.lt || FloatKind.f64.format.order t745 t749 == some Ordering.eq) = true := c33
                (try (have c33b1 : decide (FloatKind.f64.format.order t745 t749 = some Ordering.lt || FloatKind.f64.format.order t745 t749 == some Ordering.eq) = true := by simpa using c33))
                (try (have c33b2 : (FloatKind.f64.format.order t745 t749 == some Ordering.lt || FloatKind.f64.format.order t745 t749 == some Ordering.eq) = true := by simpa using c33))
                clear c33
                replace H := Option.bind_eq_some_iff.mp H
                obtain ⟨t751, A340, H⟩ := H
                replace H : (some t751) = some r := H
                have A34 := Aside0.mk A340
                clear A340
                obtain rfl := Option.some.inj H
                go_wp2_with (first | (go_at_call 17; (with_reducible refine (vigillaw03_wakes.calls kj21  t751 _ A34.out).mono ?_); rintro e w35 ⟨rfl, hb⟩; replace HB := lb HB hb; (try clear hb); (try clear hb2); (try clear hk); (try clear hi)))
                go_ret
                exact ex (lk HB)
               ·
                rw [if_neg c33] at H
                have c33b0 : (FloatKind.f64.format.order t745 t749 == some Ordering.lt || FloatKind.f64.format.order t745 t749 == some Ordering.eq) = false := by simpa using c33
                (try (have c33b1 : decide (FloatKind.f64.format.order t745 t749 = some Ordering.lt || FloatKind.f64.format.order t745 t749 == some Ordering.eq) = false := by simpa using c33))
                (try (have c33b2 : (FloatKind.f64.format.order t745 t749 == some Ordering.lt || FloatKind.f64.format.order t745 t749 == some Ordering.eq) = false := by simpa using c33))
                (try (have c33b3 : ¬ (FloatKind.f64.format.order t745 t749 = some Ordering.lt || FloatKind.f64.format.order t745 t749 == some Ordering.eq) := by simpa using c33))
                clear c33
                by_cases c36 : x7_1.toList = x8_2.toList
                ·
                 rw [if_pos c36] at H
                 have c36b0 : (x7_1.toList == x8_2.toList) = true := beq_iff_eq.mpr c36
                 have c36b1 : (x7_1.toList != x8_2.toList) = false := bne_eq_false_iff_eq.mpr c36
                 clear c36
                 replace H := Option.bind_eq_some_iff.mp H
                 obtain ⟨t752, A370, H⟩ := H
                 replace H : (if t752 = true then ((vigillaw03_wakes.f kj21).bind fun t753 => (some t753)) else (some false)) = some r := H
                 have A37 := Aside0.mk A370
                 clear A370
                 by_cases c38 : t752 = true
                 ·
                  subst c38
                  have H1 : ((vigillaw03_wakes.f kj21).bind fun t753 => (some t753)) = some r := by rw [if_pos rfl] at H; exact H
                  clear H
                  have H := H1
                  clear H1
                  replace H := Option.bind_eq_some_iff.mp H
                  obtain ⟨t753, A390, H⟩ := H
                  replace H : (some t753) = some r := H
                  have A39 := Aside0.mk A390
                  clear A390
                  obtain rfl := Option.some.inj H
                  go_wp2_with (first | (go_at_call 20; (with_reducible refine (vigilkeep_Bits.calls t745 t749 true _ A37.out).mono ?_); rintro e w' ⟨rfl, ⟨nd, rfl⟩⟩) | (go_at_call 17; (with_reducible refine (vigillaw03_wakes.calls kj21  t753 _ A39.out).mono ?_); rintro e w40 ⟨rfl, hb⟩; replace HB := lb HB hb; (try clear hb); (try clear hb2); (try clear hk); (try clear hi)))
                  go_ret
                  exact ex (lk HB)
                 ·
                  replace c38 := Bool.eq_false_iff.mpr c38
                  subst c38
                  have H1 : (some false) = some r := by rw [if_neg (show ¬ (false = true) by decide)] at H; exact H
                  clear H
                  have H := H1
                  clear H1
                  obtain rfl := Option.some.inj H
                  go_wp2_with (first | (go_at_call 20; (with_reducible refine (vigilkeep_Bits.calls t745 t749 false _ A37.out).mono ?_); rintro e w' ⟨rfl, ⟨nd, rfl⟩⟩))
                  go_ret
                  exact ex (lk HB)
                ·
                 rw [if_neg c36] at H
                 have c36b0 : (x7_1.toList == x8_2.toList) = false := beq_eq_false_iff_ne.mpr c36
                 have c36b1 : (x7_1.toList != x8_2.toList) = true := bne_iff_ne.mpr c36
                 obtain rfl := Option.some.inj H
                 go_wp2
                 go_ret
                 exact ex (lk HB)
              ·
               rw [if_neg c32] at H
               have c32b0 : (Op.bytesLess x7_1.toList x8_2.toList) = false := by simpa using c32
               clear c32
               by_cases c41 : x7_1.toList = x8_2.toList
               ·
                rw [if_pos c41] at H
                have c41b0 : (x7_1.toList == x8_2.toList) = true := beq_iff_eq.mpr c41
                have c41b1 : (x7_1.toList != x8_2.toList) = false := bne_eq_false_iff_eq.mpr c41
                clear c41
                replace H := Option.bind_eq_some_iff.mp H
                obtain ⟨t754, A420, H⟩ := H
                replace H : (if t754 = true then ((vigillaw03_wakes.f kj21).bind fun t755 => (some t755)) else (some false)) = some r := H
                have A42 := Aside0.mk A420
                clear A420
                by_cases c43 : t754 = true
                ·
                 subst c43
                 have H1 : ((vigillaw03_wakes.f kj21).bind fun t755 => (some t755)) = some r := by rw [if_pos rfl] at H; exact H
                 clear H
                 have H := H1
                 clear H1
                 replace H := Option.bind_eq_some_iff.mp H
                 obtain ⟨t755, A440, H⟩ := H
                 replace H : (some t755) = some r := H
                 have A44 := Aside0.mk A440
                 clear A440
                 obtain rfl := Option.some.inj H
                 go_wp2_with (first | (go_at_call 20; (with_reducible refine (vigilkeep_Bits.calls t745 t749 true _ A42.out).mono ?_); rintro e w' ⟨rfl, ⟨nd, rfl⟩⟩) | (go_at_call 17; (with_reducible refine (vigillaw03_wakes.calls kj21  t755 _ A44.out).mono ?_); rintro e w45 ⟨rfl, hb⟩; replace HB := lb HB hb; (try clear hb); (try clear hb2); (try clear hk); (try clear hi)))
                 go_ret
                 exact ex (lk HB)
                ·
                 replace c43 := Bool.eq_false_iff.mpr c43
                 subst c43
                 have H1 : (some false) = some r := by rw [if_neg (show ¬ (false = true) by decide)] at H; exact H
                 clear H
                 have H := H1
                 clear H1
                 obtain rfl := Option.some.inj H
                 go_wp2_with (first | (go_at_call 20; (with_reducible refine (vigilkeep_Bits.calls t745 t749 false _ A42.out).mono ?_); rintro e w' ⟨rfl, ⟨nd, rfl⟩⟩))
                 go_ret
                 exact ex (lk HB)
               ·
                rw [if_neg c41] at H
                have c41b0 : (x7_1.toList == x8_2.toList) = false := beq_eq_false_iff_ne.mpr c41
                have c41b1 : (x7_1.toList != x8_2.toList) = true := bne_iff_ne.mpr c41
                by_cases c46 : (FloatKind.f64.format.order t745 t749 == some Ordering.gt || FloatKind.f64.format.order t745 t749 == some Ordering.eq) = true
                ·
                 rw [if_pos c46] at H
                 have c46b0 : (FloatKind.f64.format.order t745 t749 == some Ordering.gt || FloatKind.f64.format.order t745 t749 == some Ordering.eq) = true := c46
                 (try (have c46b1 : decide (FloatKind.f64.format.order t745 t749 = some Ordering.gt || FloatKind.f64.format.order t745 t749 == some Ordering.eq) = true := by simpa using c46))
                 (try (have c46b2 : (FloatKind.f64.format.order t745 t749 == some Ordering.gt || FloatKind.f64.format.order t745 t749 == some Ordering.eq) = true := by simpa using c46))
                 clear c46
                 replace H := Option.bind_eq_some_iff.mp H
                 obtain ⟨t756, A470, H⟩ := H
                 replace H : (some t756) = some r := H
                 have A47 := Aside0.mk A470
                 clear A470
                 obtain rfl := Option.some.inj H
                 go_wp2_with (first | (go_at_call 17; (with_reducible refine (vigillaw03_wakes.calls kj21  t756 _ A47.out).mono ?_); rintro e w48 ⟨rfl, hb⟩; replace HB := lb HB hb; (try clear hb); (try clear hb2); (try clear hk); (try clear hi)))
                 go_ret
                 exact ex (lk HB)
                ·
                 rw [if_neg c46] at H
                 have c46b0 : (FloatKind.f64.format.order t745 t749 == some Ordering.gt || FloatKind.f64.format.order t745 t749 == some Ordering.eq) = false := by simpa using c46
                 (try (have c46b1 : decide (FloatKind.f64.format.order t745 t749 = some Ordering.gt || FloatKind.f64.format.order t745 t749 == some Ordering.eq) = false := by simpa using c46))
                 (try (have c46b2 : (FloatKind.f64.format.order t745 t749 == some Ordering.gt || FloatKind.f64.format.order t745 t749 == some Ordering.eq) = false := by simpa using c46))
                 (try (have c46b3 : ¬ (FloatKind.f64.format.order t745 t749 = some Ordering.gt || FloatKind.f64.format.order t745 t749 == some Ordering.eq) := by simpa using c46))
                 clear c46
                 obtain rfl := Option.some.inj H
                 go_wp2
                 go_ret
                 exact ex (lk HB)
          ·
           rw [if_neg c20] at H
           exact absurd H (by simp)
         ·
          rw [if_neg c19] at H
          exact absurd H (by simp)
        ·
         rw [if_neg c17] at H
         exact absurd H (by simp)
       ·
        rw [if_neg c16] at H
        exact absurd H (by simp)

/-- THE ONE PURE STATEMENT of vigillaw03_NumMonotone: yours. -/
def vigillaw03_NumMonotone.Pure : Prop := ∀ (l0 : List Int) (l1 : List Int) (a2 : Int), l0.length ≤ maxLen → l0.length * 1 ≤ 140737488351232 → (∀ x ∈ l0, (Lit.int .u8 x).wf = true) → l1.length ≤ maxLen → l1.length * 1 ≤ 140737488351232 → (∀ x ∈ l1, (Lit.int .u8 x).wf = true) → (Lit.int .i64 a2).wf = true → ∃ k, vigillaw03_NumMonotone.f k l0 l1 a2 = some true
theorem vigillaw03_NumMonotone.walk (P : vigillaw03_NumMonotone.Pure) (a0 : Option Addr) (len0 cap0 : Nat) (z0 : List Int) (a1 : Option Addr) (len1 cap1 : Nat) (z1 : List Int) (a2 : Int) (w : World) (w0 : (a0 = none ∧ len0 = 0 ∧ cap0 = 0 ∧ z0 = []) ∨ ∃ x, a0 = some x ∧ len0 ≤ cap0 ∧ cap0 ≤ maxLen ∧ z0.length = cap0 ∧ (∀ i, i < z0.length → w.cell? (x.add i) = some (.int .u8 (z0.getD i 0))) ∧ ∀ n ∈ z0, (Lit.int .u8 n).wf = true) (y0 : len0 * 1 ≤ 140737488351232) (w1 : (a1 = none ∧ len1 = 0 ∧ cap1 = 0 ∧ z1 = []) ∨ ∃ x, a1 = some x ∧ len1 ≤ cap1 ∧ cap1 ≤ maxLen ∧ z1.length = cap1 ∧ (∀ i, i < z1.length → w.cell? (x.add i) = some (.int .u8 (z1.getD i 0))) ∧ ∀ n ∈ z1, (Lit.int .u8 n).wf = true) (y1 : len1 * 1 ≤ 140737488351232) (w2 : (Lit.int .i64 a2).wf = true) :
  Calls Tryd.prog 8 #[.slice a0 len0 cap0, .slice a1 len1 cap1, .int .i64 a2] w fun e w' => e = .returned (.bool true) ∧ Below w.heap.size w w' := by
 obtain ⟨l0, rfl, hr0, hm0, hw0, hc0⟩ := ReadsInt.ofRowC w0
 obtain ⟨l1, rfl, hr1, hm1, hw1, hc1⟩ := ReadsInt.ofRowC w1
 obtain ⟨k, h⟩ := P l0 l1 a2 hm0 y0 hw0 hm1 y1 hw1 w2
 refine (vigillaw03_NumMonotone.calls k _ _ l0 _ _ l1 a2 true w (Kd.C_of_reads (d := (0 : Int)) (h1 := fun _ => rfl) hr0) hc0 (Kd.C_of_reads (d := (0 : Int)) (h1 := fun _ => rfl) hr1) hc1 h).mono ?_
 rintro e w' ⟨rfl, hd⟩
 exact ⟨rfl, hd⟩

end Go.Proofs.YtjlnfnfdibfniaaDoor.F

/- The plain law of NumMonotone: of two numbers the greater is not read as the lesser float. -/
namespace Go.Proofs.YtjlnfnfdibfniaaDoor.Pl
open F Hd Go.RowKit Go.Proofs.YtjlnfnfdibfniaaDoorW.PrintWords Go.Proofs.YtjlnfnfdibfniaaDoorW.PrintMore
theorem val_cons (c : UInt8) (r : List UInt8) : val (c :: r) = (c.toNat - 48) * 10 ^ r.length + val r := by
  have := val_append [c] r
  rw [List.singleton_append] at this
  rw [this]
  congr 1
  simp [val]
theorem bytes_val : ∀ (x y : List UInt8), x.length = y.length → (∀ c ∈ x, isDig c = true) → (∀ c ∈ y, isDig c = true) →
    (Op.bytesLess x y = true → val x < val y) ∧ (Op.bytesLess x y = false → x ≠ y → val y < val x) := by
  intro x
  induction x with
  | nil =>
    intro y hl _ _
    have : y = [] := List.length_eq_zero_iff.1 hl.symm
    subst this
    exact ⟨fun h => by simp [Op.bytesLess] at h, fun _ h => absurd rfl h⟩
  | cons a x ih =>
    intro y hl hx hy
    cases y with
    | nil => simp at hl
    | cons b y =>
      have hl2 : x.length = y.length := by simpa using hl
      obtain ⟨h1, h2⟩ := ih y hl2 (fun c hc => hx c (List.mem_cons_of_mem _ hc)) (fun c hc => hy c (List.mem_cons_of_mem _ hc))
      have ha := hx a (List.mem_cons_self ..)
      have hb := hy b (List.mem_cons_self ..)
      simp only [isDig, Bool.and_eq_true, decide_eq_true_eq] at ha hb
      have vx := val_lt x (fun c hc => hx c (List.mem_cons_of_mem _ hc))
      have vy := val_lt y (fun c hc => hy c (List.mem_cons_of_mem _ hc))
      rw [val_cons, val_cons, hl2]
      rw [hl2] at vx
      rw [Op.bytesLess]
      have key : ∀ m n : Nat, m < n → m * 10 ^ y.length + 10 ^ y.length ≤ n * 10 ^ y.length := by
        intro m n h
        have := Nat.mul_le_mul_right (10 ^ y.length) (show m + 1 ≤ n from h)
        rwa [Nat.add_mul, Nat.one_mul] at this
      by_cases c1 : a < b
      · have c1' : a.toNat < b.toNat := UInt8.lt_iff_toNat_lt.1 c1
        have := key (a.toNat - 48) (b.toNat - 48) (by omega)
        refine ⟨fun _ => by omega, fun h => ?_⟩
        rw [decide_eq_true c1] at h; simp at h
      · by_cases c2 : a = b
        · subst c2
          rw [decide_eq_false c1]
          simp only [beq_self_eq_true, Bool.true_and, Bool.false_or]
          refine ⟨fun h => by have := h1 h; omega, fun h hne => ?_⟩
          have := h2 h (fun e => hne (by rw [e]))
          omega
        · have c3 : b.toNat < a.toNat := by
            have h3 : ¬ a.toNat < b.toNat := fun h => c1 (UInt8.lt_iff_toNat_lt.2 h)
            have h4 : a.toNat ≠ b.toNat := fun h => c2 (UInt8.toNat_inj.1 h)
            omega
          have := key (b.toNat - 48) (a.toNat - 48) (by omega)
          rw [decide_eq_false c1]
          have hb : (a == b) = false := by rw [beq_eq_false_iff_ne]; exact c2
          rw [hb]
          refine ⟨fun h => by simp at h, fun _ _ => by omega⟩
theorem digitsOf_l0 (z : List Int) (hz : ∀ x ∈ z, 0 ≤ x ∧ x ≤ 255) (_hl : z.length ≤ 140737488351232) : ∀ (d i : Nat), i + d = 40 → ∀ acc : List UInt8, acc.length = i + 1 → (∀ c ∈ acc, isDig c = true) →
    ∃ l : List UInt8, Runs (fun k => vigillaw03_digitsOf.l0 k z (mk acc) (i : Int)) (mk l) ∧ (∀ c ∈ l, isDig c = true) ∧ 1 ≤ l.length ∧ l.length ≤ 41 := by
  intro d
  induction d with
  | zero =>
    intro i hi acc ha hd
    refine ⟨acc, Runs.suc ?_, hd, by omega, by omega⟩
    simp only [vigillaw03_digitsOf.l0]
    by_cases h : i < z.length
    · exact Runs.yes (by omega) (Runs.no (by omega) (Runs.pure _))
    · exact Runs.no (by omega) (Runs.pure _)
  | succ d ih =>
    intro i hi acc ha hd
    by_cases h : i < z.length
    · have hx := hz z[i] (List.getElem_mem h)
      have hm : Int.tmod z[i] 10 = z[i] % 10 := Int.tmod_eq_emod_of_nonneg hx.1
      obtain ⟨n, hn⟩ : ∃ n : Nat, z[i] = (n : Int) := ⟨z[i].toNat, by omega⟩
      have e : ([(48 + z[i] % 10) % 256] : List Int) = [((48 + n % 10 : Nat) : Int)] := by congr 1; omega
      have hdg : isDig (UInt8.ofNat (48 + n % 10)) = true := by
        have := dig_of (n % 10) (by omega)
        simp only [isDig, Bool.and_eq_true, decide_eq_true_eq]; omega
      obtain ⟨l, h1, h2, h3, h4⟩ := ih (i + 1) (by omega) (acc ++ [UInt8.ofNat (48 + n % 10)]) (by simp; omega) (fun c hc => by
        rcases List.mem_append.1 hc with hc | hc
        · exact hd c hc
        · rw [List.mem_singleton.1 hc]; exact hdg)
      refine ⟨l, Runs.suc ?_, h2, h3, h4⟩
      simp only [vigillaw03_digitsOf.l0]
      rw [rd_get z i h, hm, w64 (n := (i : Int) + 1) (by omega) (by omega)]
      refine Runs.yes (by omega) (Runs.yes (by omega) (Runs.yes (by omega) (Runs.bind (Runs.pure _) ?_)))
      show Runs (fun k => if (mk acc).size + (strOfNums [(48 + z[i] % 10) % 256]).size ≤ 9223372036854775807 then vigillaw03_digitsOf.l0 k z (mk acc ++ strOfNums [(48 + z[i] % 10) % 256]) ((i : Int) + 1) else none) _
      rw [e, str_one, mk_append, mk_size, mk_size]
      exact Runs.yes (by simp; omega) h1
    · refine ⟨acc, Runs.suc ?_, hd, by omega, by omega⟩
      simp only [vigillaw03_digitsOf.l0]
      exact Runs.no (by omega) (Runs.pure _)
theorem digitsOf_f (z : List Int) (hz : ∀ x ∈ z, 0 ≤ x ∧ x ≤ 255) (hl : z.length ≤ 140737488351232) :
    ∃ l : List UInt8, Runs (fun k => vigillaw03_digitsOf.f k z) (mk l) ∧ (∀ c ∈ l, isDig c = true) ∧ 1 ≤ l.length ∧ l.length ≤ 41 := by
  simp only [vigillaw03_digitsOf.f]
  exact digitsOf_l0 z hz hl 40 0 (by omega) [48] rfl (fun c hc => by rw [List.mem_singleton.1 hc]; rfl)
theorem rung_num {K : Nat} (h : K ≤ INF) : isNum K ∧ srung K = (K : Int) := by
  have hI : INF = 9218868437227405312 := rfl
  unfold isNum srung
  refine ⟨by omega, ?_⟩
  have : (K / 2 ^ 63 % 2 == 1) = false := by rw [beq_eq_false_iff_ne]; omega
  rw [this, if_neg Bool.false_ne_true]; omega
theorem order_le {K J : Nat} (hK : K ≤ INF) (hJ : J ≤ INF) (h : K ≤ J) : (FloatKind.f64.format.order K J == some Ordering.lt || FloatKind.f64.format.order K J == some Ordering.eq) = true := by
  obtain ⟨n1, s1⟩ := rung_num hK
  obtain ⟨n2, s2⟩ := rung_num hJ
  rcases Nat.lt_or_ge K J with c | c
  · have : (FloatKind.f64.format.order K J == some Ordering.lt) = true := lt_iff.2 ⟨n1, n2, by rw [s1, s2]; omega⟩
    rw [this]; rfl
  · have : (FloatKind.f64.format.order K J == some Ordering.eq) = true := eq_iff.2 ⟨n1, n2, by rw [s1, s2]; omega⟩
    rw [this, Bool.or_true]
theorem order_ge {K J : Nat} (hK : K ≤ INF) (hJ : J ≤ INF) (h : J ≤ K) : (FloatKind.f64.format.order K J == some Ordering.gt || FloatKind.f64.format.order K J == some Ordering.eq) = true := by
  obtain ⟨n1, s1⟩ := rung_num hK
  obtain ⟨n2, s2⟩ := rung_num hJ
  rcases Nat.lt_or_ge J K with c | c
  · have : (FloatKind.f64.format.order K J == some Ordering.gt) = true := gt_iff.2 ⟨n1, n2, by rw [s1, s2]; omega⟩
    rw [this]; rfl
  · have : (FloatKind.f64.format.order K J == some Ordering.eq) = true := eq_iff.2 ⟨n1, n2, by rw [s1, s2]; omega⟩
    rw [this, Bool.or_true]
theorem DecNear.mono {v v' : Nat} {x : Int} {K K' : Nat} (h : DecNear v x K) (h' : DecNear v' x K') (hv : v ≤ v') : K ≤ K' := by
  unfold DecNear at h h'
  refine IsNear.mono (Nat.pow_pos (by decide)) (Nat.pow_pos (by decide)) h h' ?_
  exact Nat.mul_le_mul_right _ (Nat.mul_le_mul_right _ (Nat.mul_le_mul_right _ hv))
theorem law_monotone : vigillaw03_NumMonotone.Pure := by
  intro z1 z2 a2 _ hl1 hw1 _ hl2 hw2 w2
  have wfz : ∀ z : List Int, (∀ x ∈ z, (Lit.int .u8 x).wf = true) → ∀ x ∈ z, 0 ≤ x ∧ x ≤ 255 := by
    intro z h x hx
    have := h x hx
    simp [Lit.wf, IntKind.min, IntKind.max, IntKind.signed, IntKind.bits] at this
    omega
  have hwf2 : -9223372036854775808 ≤ a2 ∧ a2 ≤ 9223372036854775807 := by
    simp [Lit.wf, IntKind.min, IntKind.max, IntKind.signed, IntKind.bits] at w2; omega
  obtain ⟨x, r1, d1, p1, q1⟩ := digitsOf_f z1 (wfz z1 hw1) (by omega)
  obtain ⟨y, r2, d2, p2, q2⟩ := digitsOf_f z2 (wfz z2 hw2) (by omega)
  obtain ⟨e, hee, he0, he1⟩ : ∃ e : Int, vigilkeep_Within.f a2 700 = some e ∧ 0 ≤ e ∧ e < 700 := by
    unfold vigilkeep_Within.f
    rw [if_neg (by decide)]
    have hm : Int.tmod a2 700 < 700 ∧ -700 < Int.tmod a2 700 := by
      have := Int.tmod_lt_of_pos a2 (show (0 : Int) < 700 by decide)
      have h2 := Int.tmod_lt_of_pos (-a2) (show (0 : Int) < 700 by decide)
      rw [Int.neg_tmod] at h2
      omega
    split
    · exact ⟨Int.tmod a2 700 + 700, by rw [w64 (by omega) (by omega)], by omega, by omega⟩
    · exact ⟨Int.tmod a2 700, rfl, by omega, by omega⟩
  have step : ∀ x y : List UInt8, (∀ c ∈ x, isDig c = true) → (∀ c ∈ y, isDig c = true) → 1 ≤ x.length → x.length ≤ 41 → x.length = y.length →
      Runs (fun k => vigillaw03_NumMonotone.l1 k a2 (mk x) (mk y)) true := by
    intro x y d1 d2 p1 q1 hxy
    obtain ⟨E, hE, hEt⟩ := int_text (e - 360) (by omega) (by omega)
    obtain ⟨K, hK, rK⟩ := parse_exp x E (e - 360) d1 (by omega) (by omega) hE
    obtain ⟨J, hJ, rJ⟩ := parse_exp y E (e - 360) d2 (by omega) (by omega) hE
    have bv := bytes_val x y hxy d1 d2
    refine Runs.suc ?_
    simp only [vigillaw03_NumMonotone.l1]
    rw [hee, mk_size, mk_size]
    refine Runs.no (by omega) (Runs.bind (Runs.pure _) ?_)
    show Runs (fun k => (num_IntText.f (wrap64 (e - 360))).bind _) true
    rw [w64 (by omega) (by omega), hEt]
    refine Runs.bind (Runs.pure _) ?_
    refine Runs.yes (by omega) (Runs.bind (Runs.pure _) ?_)
    have g1 : ∀ l : List UInt8, mk l ++ (⟨#[101]⟩ : ByteArray) = mk (l ++ [101]) := fun l => mk_append l [101]
    show Runs (fun k => if (mk x ++ (⟨#[101]⟩ : ByteArray)).size + (mk E).size ≤ 9223372036854775807 then (num_Parse.f k (mk x ++ (⟨#[101]⟩ : ByteArray) ++ mk E)).bind _ else none) true
    rw [g1, mk_append, mk_size, mk_size]
    have hEl := hE.1
    refine Runs.yes (by simp; omega) (Runs.bind rK (Runs.yes (by omega) (Runs.bind (Runs.pure _) ?_)))
    show Runs (fun k => if (mk y ++ (⟨#[101]⟩ : ByteArray)).size + (mk E).size ≤ 9223372036854775807 then (num_Parse.f k (mk y ++ (⟨#[101]⟩ : ByteArray) ++ mk E)).bind _ else none) true
    rw [g1, mk_append, mk_size, mk_size]
    refine Runs.yes (by simp; omega) (Runs.bind rJ (Runs.yes rfl (Runs.suc ?_)))
    have hne0 : ((0 : Int) != 0) = false := rfl
    simp only [vigillaw03_NumMonotone.j2]
    rw [mk_list, mk_list]
    refine Runs.no (by decide) ?_
    cases hb : Op.bytesLess x y with
    | true =>
      have := bv.1 hb
      refine Runs.yes rfl (Runs.yes (order_le hK.le hJ.le (hK.mono hJ (by omega))) (Runs.bind wakes_runs (Runs.pure _)))
    | false =>
      refine Runs.no Bool.false_ne_true ?_
      by_cases hxy2 : x = y
      · subst hxy2
        have : K = J := hK.unique hJ
        subst this
        refine Runs.yes rfl ?_
        rw [bits_eq]
        exact Runs.bind (Runs.pure _) (Runs.yes rfl (Runs.bind wakes_runs (Runs.pure _)))
      · have := bv.2 hb hxy2
        exact Runs.no hxy2 (Runs.yes (order_ge hK.le hJ.le (hJ.mono hK (by omega))) (Runs.bind wakes_runs (Runs.pure _)))
  have dz : ∀ l : List UInt8, (∀ c ∈ l, isDig c = true) → ∀ c ∈ (48 :: l : List UInt8), isDig c = true := by
    intro l h c hc
    rcases List.mem_cons.1 hc with rfl | hc
    · rfl
    · exact h c hc
  have pad2 : ∀ (g : Nat) (x y : List UInt8), (∀ c ∈ x, isDig c = true) → (∀ c ∈ y, isDig c = true) → 1 ≤ x.length → x.length ≤ 41 → y.length + g = x.length →
      Runs (fun k => vigillaw03_NumMonotone.l1 k a2 (mk x) (mk y)) true := by
    intro g
    induction g with
    | zero => intro x y d1 d2 p1 q1 h; exact step x y d1 d2 p1 q1 (by omega)
    | succ g ih =>
      intro x y d1 d2 p1 q1 h
      refine Runs.suc ?_
      simp only [vigillaw03_NumMonotone.l1]
      have g1 : (⟨#[48]⟩ : ByteArray) ++ mk y = mk (48 :: y) := mk_append [48] y
      rw [mk_size, mk_size, g1]
      exact Runs.yes (by omega) (Runs.yes (by omega) (ih x (48 :: y) d1 (dz y d2) p1 q1 (by rw [List.length_cons]; omega)))
  have pad1 : ∀ (g : Nat) (x y : List UInt8), (∀ c ∈ x, isDig c = true) → (∀ c ∈ y, isDig c = true) → 1 ≤ x.length → x.length ≤ 41 → y.length ≤ 41 → y.length ≤ x.length + g →
      Runs (fun k => vigillaw03_NumMonotone.l0 k a2 (mk x) (mk y)) true := by
    intro g
    induction g with
    | zero =>
      intro x y d1 d2 p1 q1 q2 h
      refine Runs.suc ?_
      simp only [vigillaw03_NumMonotone.l0]
      rw [mk_size, mk_size]
      exact Runs.no (by omega) (pad2 (x.length - y.length) x y d1 d2 p1 q1 (by omega))
    | succ g ih =>
      intro x y d1 d2 p1 q1 q2 h
      by_cases hc : x.length < y.length
      · refine Runs.suc ?_
        simp only [vigillaw03_NumMonotone.l0]
        have g1 : (⟨#[48]⟩ : ByteArray) ++ mk x = mk (48 :: x) := mk_append [48] x
        rw [mk_size, mk_size, g1]
        exact Runs.yes (by omega) (Runs.yes (by omega) (ih (48 :: x) y (dz x d1) d2 (by rw [List.length_cons]; omega) (by rw [List.length_cons]; omega) q2 (by rw [List.length_cons]; omega)))
      · exact ih x y d1 d2 p1 q1 q2 (by omega)
  have main : Runs (fun k => vigillaw03_NumMonotone.f k z1 z2 a2) true := by
    simp only [vigillaw03_NumMonotone.f]
    exact Runs.bind r1 (Runs.bind r2 (pad1 41 x y d1 d2 p1 q1 q2 (by omega)))
  obtain ⟨K, hK⟩ := main
  exact ⟨K, hK K (Nat.le_refl _)⟩
end Go.Proofs.YtjlnfnfdibfniaaDoor.Pl

namespace Go.Proofs.YtjlnfnfdibfniaaDoor.numMonotone
open Go.ChangeShapes Go.WideShapes Go.ChangeAt Go.RowKit
open Go.ChangeMaps (open_string shut_string)
set_option linter.unusedVariables false
theorem own : ownKnob Tryd.prog.godebug = none := by kernel_rfl
theorem laidOut : laidOutB Tryd.prog = true := by kernel_rfl
def IsRow (k : IntKind) (w : World) (a : Option Addr) (len cap : Nat) (zs : List Int) : Prop :=
  (a = none ∧ len = 0 ∧ cap = 0 ∧ zs = []) ∨
  ∃ x, a = some x ∧ len ≤ cap ∧ cap ≤ maxLen ∧ zs.length = cap ∧ (∀ i, i < zs.length → w.cell? (x.add i) = some (.int k (zs.getD i 0))) ∧ ∀ n ∈ zs, (Lit.int k n).wf = true
set_option maxRecDepth 100000 in
theorem lifted (os : Os) (started : os.Started) (H : Type) (enc : TypeId × Value → H) :
    ReturnsInHanded {} Tryd.checked os 8 .any (fun w args => (Rows.numMonotoneSpec.pre enc Tryd.prog Tryd.f8 [] false w args ∧ laidMetH Tryd.prog Rows.numMonotoneRow.laid w) ∧ sizedMet enc Tryd.prog Tryd.f8 (OpenSpec.ofChange Rows.numMonotoneSpec) false w args)
      (Rows.numMonotoneSpec.post enc Tryd.prog Tryd.f8 false true false false) := by
  refine returnsInHanded_of_change_and (C := Tryd.checked) (X := fun w _ => laidMetH Tryd.prog Rows.numMonotoneRow.laid w) (fun _ _ _ hh h => h.of_heap hh) own started (by kernel_rfl) Tryd.func8
    (ChangeSpec.witness_shaped (enc := enc) (C := Tryd.checked) (os := os) (X := fun w _ => laidMetH Tryd.prog Rows.numMonotoneRow.laid w) false (World.laidAll Tryd.prog os Rows.numMonotoneRow.laid) #[.slice none 0 0, .slice none 0 0, .int .i64 0] 8 (World.laidAll_os _ _ _)
      (World.shaped_of_ZipB (by kernel_rfl) (by kernel_rfl)) (by kernel_rfl) (by kernel_rfl) (by kernel_rfl)
      (by rw [MakeChecks.laidMetH_plain _ _ _ (by kernel_rfl)]; exact laidMet_laidAll _ (by kernel_rfl) (by kernel_rfl))) ?_
  intro W base args ds gs before hval0 hW _ hsz0 _ _
  have hsz : (DataW.weightsEach Tryd.prog (Tryd.f8.params.toList ++ Rows.numMonotoneSpec.plain.varTypes Tryd.prog) (ds ++ gs)).all (· ≤ reachBytes) = true := hsz0
  have hval : ∀ (j : Nat) t v, Tryd.f8.params[j]? = some t → args[j]? = some v → Value.okWide Tryd.prog W .any base t v := hval0
  have hW' := hW
  obtain ⟨p, q, hA0, hV, rfl, _, _⟩ := hW
  have hA : DataW.TrodAll enc Tryd.prog W 0 (fun _ => true) true Tryd.f8.params.toList args.toList ds p := hA0
  rw [Tryd.params8] at hA hval hsz
  obtain ⟨v0, vs0, d0, ds0, p0, q0, hargs, rfl, rfl, h0, r0⟩ := trodAll_cons hA
  obtain ⟨v1, vs1, d1, ds1, p1, q1, rfl, rfl, rfl, h1, r1⟩ := trodAll_cons r0
  obtain ⟨v2, vs2, d2, ds2, p2, q2, rfl, rfl, rfl, h2, r2⟩ := trodAll_cons r1
  obtain ⟨rfl, rfl, rfl⟩ := trodAll_nil r2
  obtain rfl : args = #[v0, v1, v2] := by cases args; simp_all
  obtain ⟨rfl, rfl⟩ := trodVars_none hV
  obtain ⟨a0, len0, cap0, rfl⟩ := okWide_slice Tryd.underlying43 (hval 0 43 v0 rfl rfl)
  have k0 := h0
  have lt0 : ∀ x ∈ p0, x.block < W.heap.size := by obtain ⟨m, hm⟩ := k0; exact DataW.trod_lt m _ _ _ hm
  obtain ⟨z0, w0⟩ : ∃ zs, IsRow .u8 W a0 len0 cap0 zs := by
    obtain ⟨fuel, hf⟩ := h0
    rcases open_ints Tryd.underlying43 Tryd.underlying5 (by kernel_rfl) hf with ⟨hcs, _⟩ | ⟨x, l, c, zs, hcs, _, hl, hm, hz, _, hcell, hwz⟩
    · simp [Value.cells] at hcs
      obtain ⟨rfl, rfl, rfl⟩ := hcs
      exact ⟨[], .inl ⟨rfl, rfl, rfl, rfl⟩⟩
    · simp [Value.cells] at hcs
      obtain ⟨rfl, rfl, rfl⟩ := hcs
      exact ⟨zs, .inr ⟨_, rfl, hl, hm, by simpa using hz, hcell, hwz⟩⟩
  have y0 : len0 * 1 ≤ 140737488351232 := Go.Proofs.YtjlnfnfdibfniaaDoorW.PrintWords.sized_ints hsz (j := 0) (t := 43) rfl rfl Tryd.underlying43 Tryd.underlying5 (by kernel_rfl) (by kernel_rfl) h0
  obtain ⟨a1, len1, cap1, rfl⟩ := okWide_slice Tryd.underlying43 (hval 1 43 v1 rfl rfl)
  have k1 := h1
  have lt1 : ∀ x ∈ p1, x.block < W.heap.size := by obtain ⟨m, hm⟩ := k1; exact DataW.trod_lt m _ _ _ hm
  obtain ⟨z1, w1⟩ : ∃ zs, IsRow .u8 W a1 len1 cap1 zs := by
    obtain ⟨fuel, hf⟩ := h1
    rcases open_ints Tryd.underlying43 Tryd.underlying5 (by kernel_rfl) hf with ⟨hcs, _⟩ | ⟨x, l, c, zs, hcs, _, hl, hm, hz, _, hcell, hwz⟩
    · simp [Value.cells] at hcs
      obtain ⟨rfl, rfl, rfl⟩ := hcs
      exact ⟨[], .inl ⟨rfl, rfl, rfl, rfl⟩⟩
    · simp [Value.cells] at hcs
      obtain ⟨rfl, rfl, rfl⟩ := hcs
      exact ⟨zs, .inr ⟨_, rfl, hl, hm, by simpa using hz, hcell, hwz⟩⟩
  have y1 : len1 * 1 ≤ 140737488351232 := Go.Proofs.YtjlnfnfdibfniaaDoorW.PrintWords.sized_ints hsz (j := 1) (t := 43) rfl rfl Tryd.underlying43 Tryd.underlying5 (by kernel_rfl) (by kernel_rfl) h1
  obtain ⟨a2, rfl, rfl, rfl, w2⟩ := open_int Tryd.underlying3 (hval 2 3 v2 rfl rfl) h2
  clear hA0 hval0 hsz0 hsz
  refine (F.vigillaw03_NumMonotone.walk Pl.law_monotone a0 len0 cap0 z0 a1 len1 cap1 z1 a2 W w0 y0 w1 y1 w2).mono fun e W' ⟨he, bel⟩ => ?_
  subst he
  exact ⟨_, rfl, _, _, _, [], _, [], hW', trodAll_mk1 (shut_bool Tryd.underlying4 _), (trodAll_cons_mk (Below.trod laidOut (by kernel_rfl) (of_decide_eq_true (by kernel_rfl)) k0 bel lt0) (trodAll_cons_mk (Below.trod laidOut (by kernel_rfl) (of_decide_eq_true (by kernel_rfl)) k1 bel lt1) (trodAll_cons_mk (shut_int Tryd.underlying3 w2) trodAll_mk0))), rfl, bel.frame _, fun h => by cases h⟩
theorem over : Rows.numMonotoneRow.holds Tryd.pinned (OpenSpec.ofChange Rows.numMonotoneSpec) :=
  OpenClaim.holds_of_wide 8 Tryd.f8 rfl rfl rfl rfl rfl rfl rfl ⟨rfl, rfl, rfl, rfl, rfl⟩ rfl rfl rfl rfl rfl (by kernel_rfl) Tryd.func8 (by kernel_rfl)
    (of_decide_eq_true (by kernel_rfl)) (by unfold Func.isWrapper; first | (rw [if_pos (by decide +kernel)]; kernel_rfl) | (rw [if_neg (by decide +kernel)]; exact ⟨rfl, rfl⟩))
    (fun os started H enc _ => lifted os started H enc)
theorem card_holds : Rows.NumMonotoneCardSaid :=
  Claim7.holds_tied_plain_at .later [] [.data, .pinned] true (true, "a90acdf829413157ef6e6e8aea78a484b42a66cc9924c82fc4fb50f94bff3414") false over (fun _ h => by cases h) (by kernel_rfl) (fun _ h => by cases h) numMonotone_row_tie rfl ⟨rfl, rfl⟩ (by kernel_rfl) rfl
    (fun f fn hf hfn => by
      obtain rfl : f = 8 := Option.some.inj ((show Tryd.prog.funcNamed "vigil/vigillaw03.NumMonotone" = some 8 by kernel_rfl).symm.trans hf) |>.symm
      obtain rfl : fn = Tryd.f8 := (Option.some.inj (Tryd.func8.symm.trans hfn)).symm
      exact ⟨by kernel_rfl, fun j t ht => by
        rw [Tryd.params8] at ht
        have hm : t ∈ [43, 3] := by have h_ := Array.mem_of_getElem? ht; simp at h_ ⊢; omega
        have hall : ([43, 3].all fun u => !Tryd.prog.wantsStandIn u) = true := by kernel_rfl
        exact (show Tryd.prog.wantsStandIn t = false by simpa using List.all_eq_true.1 hall t hm)⟩)
    (by kernel_rfl)
#print axioms card_holds
end Go.Proofs.YtjlnfnfdibfniaaDoor.numMonotone
namespace Go.Proofs.YtjlnfnfdibfniaaDoor
/-- The card, under a short name, for the claim. -/
theorem numMonotone_card : Rows.NumMonotoneCardSaid := numMonotone.card_holds
end Go.Proofs.YtjlnfnfdibfniaaDoor

