/- NumNearest: the middle between two floats, written exactly, is read as the one whose last bit is 0; a digit more as the greater, a digit less as the lesser. For all words m and e. -/
import Derived.Test.YtjlnfnfdibfniaaDoorCNear5
import Derived.KernelRfl
import Derived.Laws.FloatArith
import Derived.Outline
import Derived.Test.YtjlnfnfdibfniaaDoorRows
import Derived.Test.YtjlnfnfdibfniaaDoorCards
import Derived.Test.YtjlnfnfdibfniaaDoorTie
import Derived.WalkKit
import Derived.ProofKit
import Derived.OpenShut
import Derived.ShutString
import Derived.ChangeOld
import Derived.Below
import Derived.SizedLaws
import Derived.Lay
import Derived.LaidOnce
import Derived.SevenTiedAt
-- Written by a program of this session (wip/vprint.py): Lean checks it.
namespace Go.Proofs.YtjlnfnfdibfniaaDoor.F
open Go.RowKit Go.Proofs.YtjlnfnfdibfniaaDoorW.PrintWords Go.Proofs.YtjlnfnfdibfniaaDoorW.PrintLast Go.Proofs.YtjlnfnfdibfniaaDoorW.PrintMore
attribute [local go_sem] max2_int min2_int max_two min_two max_three min_three max_four min_four   -- for this text's walks alone
set_option linter.unusedVariables false
set_option linter.unusedSimpArgs false

/-! ### num_Text: function 15 -/
mutual
def num_Text.j0 : Nat → Nat → ByteArray → Int → ByteArray → Option (ByteArray)
 | 0, _, _, _, _ => none
 | k + 1, x0, x3, x4, x6 => (math_IsNaN.f x0).bind fun t495 => (if t495 = true then (some (⟨#[78, 97, 78]⟩ : ByteArray)) else (if (FloatKind.f64.format.order x0 9218868437227405311 == some Ordering.gt) = true then (some (⟨#[43, 73, 110, 102]⟩ : ByteArray)) else (if (FloatKind.f64.format.order x0 18442240474082181119 == some Ordering.lt) = true then (some (⟨#[45, 73, 110, 102]⟩ : ByteArray)) else (if (FloatKind.f64.format.order x0 0 == some Ordering.eq) = true then (if x6.size + 1 ≤ 9223372036854775807 then (some (x6 ++ (⟨#[48]⟩ : ByteArray))) else (none)) else (if x4 < (-5) then (num_Text.j1 k x3 x4 x6 true) else (num_Text.j1 k x3 x4 x6 (decide (x4 > 21))))))))
def num_Text.j1 : Nat → ByteArray → Int → ByteArray → Bool → Option (ByteArray)
 | 0, _, _, _, _ => none
 | k + 1, x3, x4, x6, x28 => if x28 = true then ((num_scientific.f k x3 (wrap64 (x4 - 1))).bind fun t497 => (if x6.size + t497.size ≤ 9223372036854775807 then (some (x6 ++ t497)) else (none))) else (if x4 ≤ 0 then (if x6.size + 2 ≤ 9223372036854775807 then ((some (x6 ++ (⟨#[48, 46]⟩ : ByteArray) : ByteArray)).bind fun y499 => ((Hd.strings_Repeat.f (⟨#[48]⟩ : ByteArray) (wrap64 (-x4))).bind fun t500 => (if y499.size + t500.size ≤ 9223372036854775807 then ((some (y499 ++ t500 : ByteArray)).bind fun y501 => (if y501.size + x3.size ≤ 9223372036854775807 then (some (y501 ++ x3)) else (none))) else (none)))) else (none)) else (if x4 ≥ (x3.size : Int) then (if x6.size + x3.size ≤ 9223372036854775807 then ((some (x6 ++ x3 : ByteArray)).bind fun y503 => ((Hd.strings_Repeat.f (⟨#[48]⟩ : ByteArray) (wrap64 (x4 - (x3.size : Int)))).bind fun t504 => (if y503.size + t504.size ≤ 9223372036854775807 then (some (y503 ++ t504)) else (none)))) else (none)) else (if 0 ≤ x4 then (if x4 ≤ (x3.size : Int) then ((some (x3.extract 0 (x4 : Int).toNat : ByteArray)).bind fun y506 => (if x6.size + y506.size ≤ 9223372036854775807 then ((some (x6 ++ y506 : ByteArray)).bind fun y507 => (if y507.size + 1 ≤ 9223372036854775807 then ((some (y507 ++ (⟨#[46]⟩ : ByteArray) : ByteArray)).bind fun y508 => ((some (x3.extract (x4 : Int).toNat x3.size : ByteArray)).bind fun y509 => (if y508.size + y509.size ≤ 9223372036854775807 then (some (y508 ++ y509)) else (none)))) else (none))) else (none))) else (none)) else (none))))
end
def num_Text.f (k : Nat) (a0 : Nat) : Option (ByteArray) := (num_Digits.f k a0).bind fun bt492 => (if bt492.2.2 = true then (num_Text.j0 k a0 bt492.1 bt492.2.1 (⟨#[45]⟩ : ByteArray)) else (num_Text.j0 k a0 bt492.1 bt492.2.1 (⟨#[]⟩ : ByteArray)))
theorem num_Text.mono_l : ∀ k, (∀ y0 y1 y2 y3, LeO (num_Text.j0 k y0 y1 y2 y3) (num_Text.j0 (k + 1) y0 y1 y2 y3)) ∧ (∀ y0 y1 y2 y3, LeO (num_Text.j1 k y0 y1 y2 y3) (num_Text.j1 (k + 1) y0 y1 y2 y3))
 | 0 => ⟨fun _ _ _ _ r h => by simp [num_Text.j0] at h, fun _ _ _ _ r h => by simp [num_Text.j1] at h⟩
 | k + 1 => by
  obtain ⟨ih0, ih1⟩ := num_Text.mono_l k
  refine ⟨?_, ?_⟩
  ·
   intro y0 y1 y2 y3
   unfold num_Text.j0
   repeat' first | (with_reducible exact ih0 _ _ _ _) | (with_reducible exact ih1 _ _ _ _) | (with_reducible exact num_Digits.mono _ _) | (with_reducible exact num_scientific.mono _ _ _) | (with_reducible exact LeO.refl _) | (with_reducible exact LeO.none _) | (with_reducible refine LeO.ite ?_ ?_) | (with_reducible refine LeO.bind ?_ (fun _ => ?_))
  ·
   intro y0 y1 y2 y3
   unfold num_Text.j1
   repeat' first | (with_reducible exact ih0 _ _ _ _) | (with_reducible exact ih1 _ _ _ _) | (with_reducible exact num_Digits.mono _ _) | (with_reducible exact num_scientific.mono _ _ _) | (with_reducible exact LeO.refl _) | (with_reducible exact LeO.none _) | (with_reducible refine LeO.ite ?_ ?_) | (with_reducible refine LeO.bind ?_ (fun _ => ?_))
theorem num_Text.mono : ∀ a0 k, LeO (num_Text.f k a0) (num_Text.f (k + 1) a0) := by
 intro a0 k
 obtain ⟨ih0, ih1⟩ := num_Text.mono_l k
 unfold num_Text.f
 repeat' first | (with_reducible exact ih0 _ _ _ _) | (with_reducible exact ih1 _ _ _ _) | (with_reducible exact num_Digits.mono _ _) | (with_reducible exact num_scientific.mono _ _ _) | (with_reducible exact LeO.refl _) | (with_reducible exact LeO.none _) | (with_reducible refine LeO.ite ?_ ?_) | (with_reducible refine LeO.bind ?_ (fun _ => ?_))
set_option maxHeartbeats 8000000 in
set_option maxRecDepth 100000 in
theorem num_Text.calls (k : Nat) (a0 : Nat) (r : ByteArray) (w : World) (h : num_Text.f k a0 = some r) :
  Calls Tryd.prog 15 #[.float .f64 a0] w fun e w' => e = .returned (.string r) ∧ Below w.heap.size w w' := by
 have HB := Aside0.mk (Below.refl w.heap.size w)
 have H : ((num_Digits.f k a0).bind fun bt492 => (if bt492.2.2 = true then (num_Text.j0 k a0 bt492.1 bt492.2.1 (⟨#[45]⟩ : ByteArray)) else (num_Text.j0 k a0 bt492.1 bt492.2.1 (⟨#[]⟩ : ByteArray)))) = some r := h
 clear h
 replace H := Option.bind_eq_some_iff.mp H
 obtain ⟨⟨t492, t493, t494⟩, A20, H⟩ := H
 replace H : (if t494 = true then (num_Text.j0 k a0 t492 t493 (⟨#[45]⟩ : ByteArray)) else (num_Text.j0 k a0 t492 t493 (⟨#[]⟩ : ByteArray))) = some r := H
 have A2 := Aside0.mk A20
 clear A20
 have HC3 := Aside0.mk H
 clear H
 go_enter Tryd.func15, Tryd.ntmps15
 go_upto_if 13 with (first | (go_at_call 13; (with_reducible refine (num_Digits.calls k a0 t492 t493 t494 _ A2.out).mono ?_); rintro e w4 ⟨rfl, hb⟩; replace HB := lb HB hb; (try clear hb); (try clear hb2); (try clear hk); (try clear hi)))
 repeat (go_quiet (first | (go_at_call 13; (with_reducible refine (num_Digits.calls k a0 t492 t493 t494 _ A2.out).mono ?_); rintro e w4 ⟨rfl, hb⟩; replace HB := lb HB hb; (try clear hb); (try clear hb2); (try clear hk); (try clear hi))); go_upto_if 13 with (first | (go_at_call 13; (with_reducible refine (num_Digits.calls k a0 t492 t493 t494 _ A2.out).mono ?_); rintro e w4 ⟨rfl, hb⟩; replace HB := lb HB hb; (try clear hb); (try clear hb2); (try clear hk); (try clear hi))))
 (try simp only [Act.put, List.setIfInBounds_toArray, List.set_cons_zero, List.set_cons_succ])
 go_cut [6] (fun v6 wc => ∃ (kq : Nat) (x6_2 : ByteArray), v6 = .string x6_2 ∧ Aside0 (num_Text.j0 kq a0 t492 t493 x6_2 = some r) ∧ Aside0 (kq ≤ k) ∧ Aside0 (Below w.heap.size w wc))
 case first =>
  have H := HC3.out
  clear HC3
  by_cases c5 : t494 = true
  ·
   subst c5
   have H1 : (num_Text.j0 k a0 t492 t493 (⟨#[45]⟩ : ByteArray)) = some r := by rw [if_pos rfl] at H; exact H
   clear H
   have H := H1
   clear H1
   have H' := Aside0.mk H
   clear H
   go_wp2
   repeat (go_quiet (fail); try go_wp2)
   go_meet
   case rel => exact ⟨_, ((⟨#[45]⟩ : ByteArray)), (by first | rfl | (simp; done) | (simp [*]; done)), H', ⟨by first | omega | exact Nat.le_refl _⟩, ⟨lk HB⟩⟩
  ·
   replace c5 := Bool.eq_false_iff.mpr c5
   subst c5
   have H1 : (num_Text.j0 k a0 t492 t493 (⟨#[]⟩ : ByteArray)) = some r := by rw [if_neg (show ¬ (false = true) by decide)] at H; exact H
   clear H
   have H := H1
   clear H1
   have H' := Aside0.mk H
   clear H
   go_wp2
   repeat (go_quiet (fail); try go_wp2)
   go_meet
   case rel => exact ⟨_, ((⟨#[]⟩ : ByteArray)), (by first | rfl | (simp; done) | (simp [*]; done)), H', ⟨by first | omega | exact Nat.le_refl _⟩, ⟨lk HB⟩⟩
 case rest =>
  clear HC3
  try clear c1
  try clear p2
  try clear c5
  obtain ⟨kq, x6_2, rfl, HA, HJ2, HB⟩ := hcut
  cases kq with
  | zero => exact absurd HA.out (by simp [num_Text.j0])
  | succ kj2 =>
   have H := HA.out
   clear HA
   simp only [num_Text.j0] at H
   replace H := Option.bind_eq_some_iff.mp H
   obtain ⟨t495, A60, H⟩ := H
   replace H : (if t495 = true then (some (⟨#[78, 97, 78]⟩ : ByteArray)) else (if (FloatKind.f64.format.order a0 9218868437227405311 == some Ordering.gt) = true then (some (⟨#[43, 73, 110, 102]⟩ : ByteArray)) else (if (FloatKind.f64.format.order a0 18442240474082181119 == some Ordering.lt) = true then (some (⟨#[45, 73, 110, 102]⟩ : ByteArray)) else (if (FloatKind.f64.format.order a0 0 == some Ordering.eq) = true then (if x6_2.size + 1 ≤ 9223372036854775807 then (some (x6_2 ++ (⟨#[48]⟩ : ByteArray))) else (none)) else (if t493 < (-5) then (num_Text.j1 kj2 t492 t493 x6_2 true) else (num_Text.j1 kj2 t492 t493 x6_2 (decide (t493 > 21)))))))) = some r := H
   have A6 := Aside0.mk A60
   clear A60
   by_cases c7 : t495 = true
   ·
    subst c7
    have H1 : (some (⟨#[78, 97, 78]⟩ : ByteArray)) = some r := by rw [if_pos rfl] at H; exact H
    clear H
    have H := H1
    clear H1
    obtain rfl := Option.some.inj H
    go_wp2_with (first | (go_at_call 43; (with_reducible refine (math_IsNaN.calls a0 true _ A6.out).mono ?_); rintro e w' ⟨rfl, ⟨nd, rfl⟩⟩; (try first | exact ⟨rfl, _, World.drewN_drewN _ _ _⟩ | exact ⟨rfl, _, Eq.trans (World.drewN_drewN _ _ _) (congrArg (World.drewN _) (Nat.add_assoc _ _ _))⟩)))
    repeat (go_quiet (first | (go_at_call 43; (with_reducible refine (math_IsNaN.calls a0 true _ A6.out).mono ?_); rintro e w' ⟨rfl, ⟨nd, rfl⟩⟩; (try first | exact ⟨rfl, _, World.drewN_drewN _ _ _⟩ | exact ⟨rfl, _, Eq.trans (World.drewN_drewN _ _ _) (congrArg (World.drewN _) (Nat.add_assoc _ _ _))⟩))); try go_wp2_with (first | (go_at_call 43; (with_reducible refine (math_IsNaN.calls a0 true _ A6.out).mono ?_); rintro e w' ⟨rfl, ⟨nd, rfl⟩⟩; (try first | exact ⟨rfl, _, World.drewN_drewN _ _ _⟩ | exact ⟨rfl, _, Eq.trans (World.drewN_drewN _ _ _) (congrArg (World.drewN _) (Nat.add_assoc _ _ _))⟩))))
    go_ret
    exact ex (lk HB)
   ·
    replace c7 := Bool.eq_false_iff.mpr c7
    subst c7
    have H1 : (if (FloatKind.f64.format.order a0 9218868437227405311 == some Ordering.gt) = true then (some (⟨#[43, 73, 110, 102]⟩ : ByteArray)) else (if (FloatKind.f64.format.order a0 18442240474082181119 == some Ordering.lt) = true then (some (⟨#[45, 73, 110, 102]⟩ : ByteArray)) else (if (FloatKind.f64.format.order a0 0 == some Ordering.eq) = true then (if x6_2.size + 1 ≤ 9223372036854775807 then (some (x6_2 ++ (⟨#[48]⟩ : ByteArray))) else (none)) else (if t493 < (-5) then (num_Text.j1 kj2 t492 t493 x6_2 true) else (num_Text.j1 kj2 t492 t493 x6_2 (decide (t493 > 21))))))) = some r := by rw [if_neg (show ¬ (false = true) by decide)] at H; exact H
    clear H
    have H := H1
    clear H1
    by_cases c8 : (FloatKind.f64.format.order a0 9218868437227405311 == some Ordering.gt) = true
    ·
     rw [if_pos c8] at H
     have c8b0 : (FloatKind.f64.format.order a0 9218868437227405311 == some Ordering.gt) = true := c8
     (try (have c8b1 : decide (FloatKind.f64.format.order a0 9218868437227405311 = some Ordering.gt) = true := by simpa using c8))
     (try (have c8b2 : (FloatKind.f64.format.order a0 9218868437227405311 == some Ordering.gt) = true := by simpa using c8))
     clear c8
     obtain rfl := Option.some.inj H
     go_wp2_with (first | (go_at_call 43; (with_reducible refine (math_IsNaN.calls a0 false _ A6.out).mono ?_); rintro e w' ⟨rfl, ⟨nd, rfl⟩⟩; (try first | exact ⟨rfl, _, World.drewN_drewN _ _ _⟩ | exact ⟨rfl, _, Eq.trans (World.drewN_drewN _ _ _) (congrArg (World.drewN _) (Nat.add_assoc _ _ _))⟩)))
     repeat (go_quiet (first | (go_at_call 43; (with_reducible refine (math_IsNaN.calls a0 false _ A6.out).mono ?_); rintro e w' ⟨rfl, ⟨nd, rfl⟩⟩; (try first | exact ⟨rfl, _, World.drewN_drewN _ _ _⟩ | exact ⟨rfl, _, Eq.trans (World.drewN_drewN _ _ _) (congrArg (World.drewN _) (Nat.add_assoc _ _ _))⟩))); try go_wp2_with (first | (go_at_call 43; (with_reducible refine (math_IsNaN.calls a0 false _ A6.out).mono ?_); rintro e w' ⟨rfl, ⟨nd, rfl⟩⟩; (try first | exact ⟨rfl, _, World.drewN_drewN _ _ _⟩ | exact ⟨rfl, _, Eq.trans (World.drewN_drewN _ _ _) (congrArg (World.drewN _) (Nat.add_assoc _ _ _))⟩))))
     go_ret
     exact ex (lk HB)
    ·
     rw [if_neg c8] at H
     have c8b0 : (FloatKind.f64.format.order a0 9218868437227405311 == some Ordering.gt) = false := by simpa using c8
     (try (have c8b1 : decide (FloatKind.f64.format.order a0 9218868437227405311 = some Ordering.gt) = false := by simpa using c8))
     (try (have c8b2 : (FloatKind.f64.format.order a0 9218868437227405311 == some Ordering.gt) = false := by simpa using c8))
     (try (have c8b3 : ¬ (FloatKind.f64.format.order a0 9218868437227405311 = some Ordering.gt) := by simpa using c8))
     clear c8
     by_cases c9 : (FloatKind.f64.format.order a0 18442240474082181119 == some Ordering.lt) = true
     ·
      rw [if_pos c9] at H
      have c9b0 : (FloatKind.f64.format.order a0 18442240474082181119 == some Ordering.lt) = true := c9
      (try (have c9b1 : decide (FloatKind.f64.format.order a0 18442240474082181119 = some Ordering.lt) = true := by simpa using c9))
      (try (have c9b2 : (FloatKind.f64.format.order a0 18442240474082181119 == some Ordering.lt) = true := by simpa using c9))
      clear c9
      obtain rfl := Option.some.inj H
      go_wp2_with (first | (go_at_call 43; (with_reducible refine (math_IsNaN.calls a0 false _ A6.out).mono ?_); rintro e w' ⟨rfl, ⟨nd, rfl⟩⟩; (try first | exact ⟨rfl, _, World.drewN_drewN _ _ _⟩ | exact ⟨rfl, _, Eq.trans (World.drewN_drewN _ _ _) (congrArg (World.drewN _) (Nat.add_assoc _ _ _))⟩)))
      repeat (go_quiet (first | (go_at_call 43; (with_reducible refine (math_IsNaN.calls a0 false _ A6.out).mono ?_); rintro e w' ⟨rfl, ⟨nd, rfl⟩⟩; (try first | exact ⟨rfl, _, World.drewN_drewN _ _ _⟩ | exact ⟨rfl, _, Eq.trans (World.drewN_drewN _ _ _) (congrArg (World.drewN _) (Nat.add_assoc _ _ _))⟩))); try go_wp2_with (first | (go_at_call 43; (with_reducible refine (math_IsNaN.calls a0 false _ A6.out).mono ?_); rintro e w' ⟨rfl, ⟨nd, rfl⟩⟩; (try first | exact ⟨rfl, _, World.drewN_drewN _ _ _⟩ | exact ⟨rfl, _, Eq.trans (World.drewN_drewN _ _ _) (congrArg (World.drewN _) (Nat.add_assoc _ _ _))⟩))))
      go_ret
      exact ex (lk HB)
     ·
      rw [if_neg c9] at H
      have c9b0 : (FloatKind.f64.format.order a0 18442240474082181119 == some Ordering.lt) = false := by simpa using c9
      (try (have c9b1 : decide (FloatKind.f64.format.order a0 18442240474082181119 = some Ordering.lt) = false := by simpa using c9))
      (try (have c9b2 : (FloatKind.f64.format.order a0 18442240474082181119 == some Ordering.lt) = false := by simpa using c9))
      (try (have c9b3 : ¬ (FloatKind.f64.format.order a0 18442240474082181119 = some Ordering.lt) := by simpa using c9))
      clear c9
      by_cases c10 : (FloatKind.f64.format.order a0 0 == some Ordering.eq) = true
      ·
       rw [if_pos c10] at H
       have c10b0 : (FloatKind.f64.format.order a0 0 == some Ordering.eq) = true := c10
       (try (have c10b1 : decide (FloatKind.f64.format.order a0 0 = some Ordering.eq) = true := by simpa using c10))
       (try (have c10b2 : (FloatKind.f64.format.order a0 0 == some Ordering.eq) = true := by simpa using c10))
       clear c10
       by_cases c11 : x6_2.size + 1 ≤ 9223372036854775807
       ·
        rw [if_pos c11] at H
        have c11b0 := eq_true c11
        have c11b1 : decide (x6_2.size + 1 ≤ 9223372036854775807) = true := decide_eq_true c11
        try have c11b2 : (9223372036854775807 < x6_2.size + 1) = False := eq_false (Nat.not_lt.2 c11)
        obtain ⟨y496, hy496⟩ : ∃ y_ : ByteArray, y_ = (x6_2 ++ (⟨#[48]⟩ : ByteArray)) := ⟨_, rfl⟩
        replace H : (some y496) = some r := by first | (rw [hy496]; with_reducible exact H) | (have H2_ := (Option.bind_some _ _).symm.trans H; rw [hy496]; with_reducible exact H2_) | (have H2_ := (Option.bind_some _ _).symm.trans H; with_reducible exact H2_) | with_reducible exact H | (rw [hy496]; exact H) | exact H
        have Ny496 := Aside0.mk hy496
        clear hy496
        obtain rfl := Option.some.inj H
        go_wp2_with (first | (go_at_call 43; (with_reducible refine (math_IsNaN.calls a0 false _ A6.out).mono ?_); rintro e w' ⟨rfl, ⟨nd, rfl⟩⟩; (try first | exact ⟨rfl, _, World.drewN_drewN _ _ _⟩ | exact ⟨rfl, _, Eq.trans (World.drewN_drewN _ _ _) (congrArg (World.drewN _) (Nat.add_assoc _ _ _))⟩); have hcs12 := Hd.str_cat (P := Tryd.prog) (s := x6_2) (t := (⟨#[48]⟩ : ByteArray)) (y := y496) (by first | (with_reducible assumption) | assumption | exact of_eq_true (by assumption) | omega) Ny496.out; have hcs12' := Hd.str_cat' (P := Tryd.prog) (s := x6_2) (t := (⟨#[48]⟩ : ByteArray)) (y := y496) (by first | (with_reducible assumption) | assumption | exact of_eq_true (by assumption) | omega) Ny496.out))
        repeat (go_quiet (first | (go_at_call 43; (with_reducible refine (math_IsNaN.calls a0 false _ A6.out).mono ?_); rintro e w' ⟨rfl, ⟨nd, rfl⟩⟩; (try first | exact ⟨rfl, _, World.drewN_drewN _ _ _⟩ | exact ⟨rfl, _, Eq.trans (World.drewN_drewN _ _ _) (congrArg (World.drewN _) (Nat.add_assoc _ _ _))⟩); have hcs12 := Hd.str_cat (P := Tryd.prog) (s := x6_2) (t := (⟨#[48]⟩ : ByteArray)) (y := y496) (by first | (with_reducible assumption) | assumption | exact of_eq_true (by assumption) | omega) Ny496.out; have hcs12' := Hd.str_cat' (P := Tryd.prog) (s := x6_2) (t := (⟨#[48]⟩ : ByteArray)) (y := y496) (by first | (with_reducible assumption) | assumption | exact of_eq_true (by assumption) | omega) Ny496.out)); try go_wp2_with (first | (go_at_call 43; (with_reducible refine (math_IsNaN.calls a0 false _ A6.out).mono ?_); rintro e w' ⟨rfl, ⟨nd, rfl⟩⟩; (try first | exact ⟨rfl, _, World.drewN_drewN _ _ _⟩ | exact ⟨rfl, _, Eq.trans (World.drewN_drewN _ _ _) (congrArg (World.drewN _) (Nat.add_assoc _ _ _))⟩); have hcs12 := Hd.str_cat (P := Tryd.prog) (s := x6_2) (t := (⟨#[48]⟩ : ByteArray)) (y := y496) (by first | (with_reducible assumption) | assumption | exact of_eq_true (by assumption) | omega) Ny496.out; have hcs12' := Hd.str_cat' (P := Tryd.prog) (s := x6_2) (t := (⟨#[48]⟩ : ByteArray)) (y := y496) (by first | (with_reducible assumption) | assumption | exact of_eq_true (by assumption) | omega) Ny496.out)))
        go_ret
        exact ex (lk HB)
       ·
        rw [if_neg c11] at H
        exact absurd H (by simp)
      ·
       rw [if_neg c10] at H
       have c10b0 : (FloatKind.f64.format.order a0 0 == some Ordering.eq) = false := by simpa using c10
       (try (have c10b1 : decide (FloatKind.f64.format.order a0 0 = some Ordering.eq) = false := by simpa using c10))
       (try (have c10b2 : (FloatKind.f64.format.order a0 0 == some Ordering.eq) = false := by simpa using c10))
       (try (have c10b3 : ¬ (FloatKind.f64.format.order a0 0 = some Ordering.eq) := by simpa using c10))
       clear c10
       have HC13 := Aside0.mk H
       clear H
       go_upto_region 13 with (first | (go_at_call 43; (with_reducible refine (math_IsNaN.calls a0 false _ A6.out).mono ?_); rintro e w' ⟨rfl, ⟨nd, rfl⟩⟩; (try first | exact ⟨rfl, _, World.drewN_drewN _ _ _⟩ | exact ⟨rfl, _, Eq.trans (World.drewN_drewN _ _ _) (congrArg (World.drewN _) (Nat.add_assoc _ _ _))⟩)))
       repeat (go_quiet (first | (go_at_call 43; (with_reducible refine (math_IsNaN.calls a0 false _ A6.out).mono ?_); rintro e w' ⟨rfl, ⟨nd, rfl⟩⟩; (try first | exact ⟨rfl, _, World.drewN_drewN _ _ _⟩ | exact ⟨rfl, _, Eq.trans (World.drewN_drewN _ _ _) (congrArg (World.drewN _) (Nat.add_assoc _ _ _))⟩))); go_upto_region 13 with (first | (go_at_call 43; (with_reducible refine (math_IsNaN.calls a0 false _ A6.out).mono ?_); rintro e w' ⟨rfl, ⟨nd, rfl⟩⟩; (try first | exact ⟨rfl, _, World.drewN_drewN _ _ _⟩ | exact ⟨rfl, _, Eq.trans (World.drewN_drewN _ _ _) (congrArg (World.drewN _) (Nat.add_assoc _ _ _))⟩))))
       (try simp only [Act.put, List.setIfInBounds_toArray, List.set_cons_zero, List.set_cons_succ])
       go_cut [28] (fun v28 wc => ∃ (kq : Nat) (x28_12 : Bool), v28 = .bool x28_12 ∧ Aside0 (num_Text.j1 kq t492 t493 x6_2 x28_12 = some r) ∧ Aside0 (kq ≤ kj2) ∧ Aside0 (Below w.heap.size w wc))
       case first =>
        have H := HC13.out
        clear HC13
        by_cases c14 : t493 < (-5)
        ·
         rw [if_pos c14] at H
         have c14b0 : decide (t493 < (-5)) = true := decide_eq_true c14
         clear c14
         (first | rw [c14b0] | (simp only [i64_w, i32_w]; rw [c14b0]) | skip)
         have H' := Aside0.mk H
         clear H
         go_wp2
         repeat (go_quiet (fail); try go_wp2)
         go_meet
         case rel => exact ⟨_, (true), (by first | rfl | (simp; done) | (simp [*]; done)), H', ⟨by have := HJ2.out; first | omega | exact Nat.le_refl _⟩, ⟨lk HB⟩⟩
        ·
         rw [if_neg c14] at H
         have c14b0 : decide (t493 < (-5)) = false := decide_eq_false c14
         clear c14
         (first | rw [c14b0] | (simp only [i64_w, i32_w]; rw [c14b0]) | skip)
         have H' := Aside0.mk H
         clear H
         go_wp2
         repeat (go_quiet (fail); try go_wp2)
         go_meet
         case rel => exact ⟨_, (decide (t493 > 21)), (by first | rfl | (simp; done) | (simp [*]; done)), H', ⟨by have := HJ2.out; first | omega | exact Nat.le_refl _⟩, ⟨lk HB⟩⟩
       case rest =>
        clear HC13
        try clear c1
        try clear p2
        try clear c5
        try clear c7
        try clear c8
        try clear c8b0
        try clear c8b1
        try clear c8b2
        try clear c9
        try clear c9b0
        try clear c9b1
        try clear c9b2
        try clear c10
        try clear c10b0
        try clear c10b1
        try clear c10b2
        try clear c11
        try clear c11b0
        try clear c11b1
        try clear c11b2
        try clear c14
        try clear c14b0
        try clear p2
        obtain ⟨kq, x28_12, rfl, HA, HJ12, HB⟩ := hcut
        cases kq with
        | zero => exact absurd HA.out (by simp [num_Text.j1])
        | succ kj12 =>
         have H := HA.out
         clear HA
         simp only [num_Text.j1] at H
         by_cases c15 : x28_12 = true
         ·
          subst c15
          have H1 : ((num_scientific.f kj12 t492 (wrap64 (t493 - 1))).bind fun t497 => (if x6_2.size + t497.size ≤ 9223372036854775807 then (some (x6_2 ++ t497)) else (none))) = some r := by rw [if_pos rfl] at H; exact H
          clear H
          have H := H1
          clear H1
          replace H := Option.bind_eq_some_iff.mp H
          obtain ⟨t497, A160, H⟩ := H
          replace H : (if x6_2.size + t497.size ≤ 9223372036854775807 then (some (x6_2 ++ t497)) else (none)) = some r := H
          have A16 := Aside0.mk A160
          clear A160
          by_cases c17 : x6_2.size + t497.size ≤ 9223372036854775807
          ·
           rw [if_pos c17] at H
           have c17b0 := eq_true c17
           have c17b1 : decide (x6_2.size + t497.size ≤ 9223372036854775807) = true := decide_eq_true c17
           try have c17b2 : (9223372036854775807 < x6_2.size + t497.size) = False := eq_false (Nat.not_lt.2 c17)
           obtain ⟨y498, hy498⟩ : ∃ y_ : ByteArray, y_ = (x6_2 ++ t497) := ⟨_, rfl⟩
           replace H : (some y498) = some r := by first | (rw [hy498]; with_reducible exact H) | (have H2_ := (Option.bind_some _ _).symm.trans H; rw [hy498]; with_reducible exact H2_) | (have H2_ := (Option.bind_some _ _).symm.trans H; with_reducible exact H2_) | with_reducible exact H | (rw [hy498]; exact H) | exact H
           have Ny498 := Aside0.mk hy498
           clear hy498
           obtain rfl := Option.some.inj H
           go_wp2_with (first | (go_at_call 61; (with_reducible refine (num_scientific.calls kj12 t492 (wrap64 (t493 - 1)) t497 _ A16.out).mono ?_); rintro e w18 ⟨rfl, hb⟩; replace HB := lb HB hb; (try clear hb); (try clear hb2); (try clear hk); (try clear hi); have hcs19 := Hd.str_cat (P := Tryd.prog) (s := x6_2) (t := t497) (y := y498) (by first | (with_reducible assumption) | assumption | exact of_eq_true (by assumption) | omega) Ny498.out; have hcs19' := Hd.str_cat' (P := Tryd.prog) (s := x6_2) (t := t497) (y := y498) (by first | (with_reducible assumption) | assumption | exact of_eq_true (by assumption) | omega) Ny498.out))
           repeat (go_quiet (first | (go_at_call 61; (with_reducible refine (num_scientific.calls kj12 t492 (wrap64 (t493 - 1)) t497 _ A16.out).mono ?_); rintro e w18 ⟨rfl, hb⟩; replace HB := lb HB hb; (try clear hb); (try clear hb2); (try clear hk); (try clear hi); have hcs19 := Hd.str_cat (P := Tryd.prog) (s := x6_2) (t := t497) (y := y498) (by first | (with_reducible assumption) | assumption | exact of_eq_true (by assumption) | omega) Ny498.out; have hcs19' := Hd.str_cat' (P := Tryd.prog) (s := x6_2) (t := t497) (y := y498) (by first | (with_reducible assumption) | assumption | exact of_eq_true (by assumption) | omega) Ny498.out)); try go_wp2_with (first | (go_at_call 61; (with_reducible refine (num_scientific.calls kj12 t492 (wrap64 (t493 - 1)) t497 _ A16.out).mono ?_); rintro e w18 ⟨rfl, hb⟩; replace HB := lb HB hb; (try clear hb); (try clear hb2); (try clear hk); (try clear hi); have hcs19 := Hd.str_cat (P := Tryd.prog) (s := x6_2) (t := t497) (y := y498) (by first | (with_reducible assumption) | assumption | exact of_eq_true (by assumption) | omega) Ny498.out; have hcs19' := Hd.str_cat' (P := Tryd.prog) (s := x6_2) (t := t497) (y := y498) (by first | (with_reducible assumption) | assumption | exact of_eq_true (by assumption) | omega) Ny498.out)))
           go_ret
           exact ex (lk HB)
          ·
           rw [if_neg c17] at H
           exact absurd H (by simp)
         ·
          replace c15 := Bool.eq_false_iff.mpr c15
          subst c15
          have H1 : (if t493 ≤ 0 then (if x6_2.size + 2 ≤ 9223372036854775807 then ((some (x6_2 ++ (⟨#[48, 46]⟩ : ByteArray) : ByteArray)).bind fun y499 => ((Hd.strings_Repeat.f (⟨#[48]⟩ : ByteArray) (wrap64 (-t493))).bind fun t500 => (if y499.size + t500.size ≤ 9223372036854775807 then ((some (y499 ++ t500 : ByteArray)).bind fun y501 => (if y501.size + t492.size ≤ 9223372036854775807 then (some (y501 ++ t492)) else (none))) else (none)))) else (none)) else (if t493 ≥ (t492.size : Int) then (if x6_2.size + t492.size ≤ 9223372036854775807 then ((some (x6_2 ++ t492 : ByteArray)).bind fun y503 => ((Hd.strings_Repeat.f (⟨#[48]⟩ : ByteArray) (wrap64 (t493 - (t492.size : Int)))).bind fun t504 => (if y503.size + t504.size ≤ 9223372036854775807 then (some (y503 ++ t504)) else (none)))) else (none)) else (if 0 ≤ t493 then (if t493 ≤ (t492.size : Int) then ((some (t492.extract 0 (t493 : Int).toNat : ByteArray)).bind fun y506 => (if x6_2.size + y506.size ≤ 9223372036854775807 then ((some (x6_2 ++ y506 : ByteArray)).bind fun y507 => (if y507.size + 1 ≤ 9223372036854775807 then ((some (y507 ++ (⟨#[46]⟩ : ByteArray) : ByteArray)).bind fun y508 => ((some (t492.extract (t493 : Int).toNat t492.size : ByteArray)).bind fun y509 => (if y508.size + y509.size ≤ 9223372036854775807 then (some (y508 ++ y509)) else (none)))) else (none))) else (none))) else (none)) else (none)))) = some r := by rw [if_neg (show ¬ (false = true) by decide)] at H; exact H
          clear H
          have H := H1
          clear H1
          by_cases c20 : t493 ≤ 0
          ·
           rw [if_pos c20] at H
           have c20b0 : decide (t493 ≤ 0) = true := decide_eq_true c20
           clear c20
           by_cases c21 : x6_2.size + 2 ≤ 9223372036854775807
           ·
            rw [if_pos c21] at H
            have c21b0 := eq_true c21
            have c21b1 : decide (x6_2.size + 2 ≤ 9223372036854775807) = true := decide_eq_true c21
            try have c21b2 : (9223372036854775807 < x6_2.size + 2) = False := eq_false (Nat.not_lt.2 c21)
            obtain ⟨y499, hy499⟩ : ∃ y_ : ByteArray, y_ = (x6_2 ++ (⟨#[48, 46]⟩ : ByteArray)) := ⟨_, rfl⟩
            replace H : ((Hd.strings_Repeat.f (⟨#[48]⟩ : ByteArray) (wrap64 (-t493))).bind fun t500 => (if y499.size + t500.size ≤ 9223372036854775807 then ((some (y499 ++ t500 : ByteArray)).bind fun y501 => (if y501.size + t492.size ≤ 9223372036854775807 then (some (y501 ++ t492)) else (none))) else (none))) = some r := by first | (rw [hy499]; with_reducible exact H) | (have H2_ := (Option.bind_some _ _).symm.trans H; rw [hy499]; with_reducible exact H2_) | (have H2_ := (Option.bind_some _ _).symm.trans H; with_reducible exact H2_) | with_reducible exact H | (rw [hy499]; exact H) | exact H
            have Ny499 := Aside0.mk hy499
            clear hy499
            replace H := Option.bind_eq_some_iff.mp H
            obtain ⟨t500, A220, H⟩ := H
            replace H : (if y499.size + t500.size ≤ 9223372036854775807 then ((some (y499 ++ t500 : ByteArray)).bind fun y501 => (if y501.size + t492.size ≤ 9223372036854775807 then (some (y501 ++ t492)) else (none))) else (none)) = some r := H
            have A22 := Aside0.mk A220
            clear A220
            by_cases c23 : y499.size + t500.size ≤ 9223372036854775807
            ·
             rw [if_pos c23] at H
             have c23b0 := eq_true c23
             have c23b1 : decide (y499.size + t500.size ≤ 9223372036854775807) = true := decide_eq_true c23
             try have c23b2 : (9223372036854775807 < y499.size + t500.size) = False := eq_false (Nat.not_lt.2 c23)
             obtain ⟨y501, hy501⟩ : ∃ y_ : ByteArray, y_ = (y499 ++ t500) := ⟨_, rfl⟩
             replace H : (if y501.size + t492.size ≤ 9223372036854775807 then (some (y501 ++ t492)) else (none)) = some r := by first | (rw [hy501]; with_reducible exact H) | (have H2_ := (Option.bind_some _ _).symm.trans H; rw [hy501]; with_reducible exact H2_) | (have H2_ := (Option.bind_some _ _).symm.trans H; with_reducible exact H2_) | with_reducible exact H | (rw [hy501]; exact H) | exact H
             have Ny501 := Aside0.mk hy501
             clear hy501
             by_cases c24 : y501.size + t492.size ≤ 9223372036854775807
             ·
              rw [if_pos c24] at H
              have c24b0 := eq_true c24
              have c24b1 : decide (y501.size + t492.size ≤ 9223372036854775807) = true := decide_eq_true c24
              try have c24b2 : (9223372036854775807 < y501.size + t492.size) = False := eq_false (Nat.not_lt.2 c24)
              obtain ⟨y502, hy502⟩ : ∃ y_ : ByteArray, y_ = (y501 ++ t492) := ⟨_, rfl⟩
              replace H : (some y502) = some r := by first | (rw [hy502]; with_reducible exact H) | (have H2_ := (Option.bind_some _ _).symm.trans H; rw [hy502]; with_reducible exact H2_) | (have H2_ := (Option.bind_some _ _).symm.trans H; with_reducible exact H2_) | with_reducible exact H | (rw [hy502]; exact H) | exact H
              have Ny502 := Aside0.mk hy502
              clear hy502
              obtain rfl := Option.some.inj H
              have hcs25 := Hd.str_cat (P := Tryd.prog) (s := x6_2) (t := (⟨#[48, 46]⟩ : ByteArray)) (y := y499) (by first | (with_reducible assumption) | assumption | exact of_eq_true (by assumption) | omega) Ny499.out
              have hcs25' := Hd.str_cat' (P := Tryd.prog) (s := x6_2) (t := (⟨#[48, 46]⟩ : ByteArray)) (y := y499) (by first | (with_reducible assumption) | assumption | exact of_eq_true (by assumption) | omega) Ny499.out
              go_wp2_with (first | (go_at_call 62; (with_reducible refine (Hd.strings_Repeat.calls (⟨#[48]⟩ : ByteArray) (wrap64 (-t493)) t500 _ A22.out).mono ?_); rintro e w26 ⟨rfl, hb⟩; replace HB := lb HB hb; (try clear hb); (try clear hb2); (try clear hk); (try clear hi); have hcs27 := Hd.str_cat (P := Tryd.prog) (s := y499) (t := t500) (y := y501) (by first | (with_reducible assumption) | assumption | exact of_eq_true (by assumption) | omega) Ny501.out; have hcs27' := Hd.str_cat' (P := Tryd.prog) (s := y499) (t := t500) (y := y501) (by first | (with_reducible assumption) | assumption | exact of_eq_true (by assumption) | omega) Ny501.out; have hcs28 := Hd.str_cat (P := Tryd.prog) (s := y501) (t := t492) (y := y502) (by first | (with_reducible assumption) | assumption | exact of_eq_true (by assumption) | omega) Ny502.out; have hcs28' := Hd.str_cat' (P := Tryd.prog) (s := y501) (t := t492) (y := y502) (by first | (with_reducible assumption) | assumption | exact of_eq_true (by assumption) | omega) Ny502.out))
              repeat (go_quiet (first | (go_at_call 62; (with_reducible refine (Hd.strings_Repeat.calls (⟨#[48]⟩ : ByteArray) (wrap64 (-t493)) t500 _ A22.out).mono ?_); rintro e w26 ⟨rfl, hb⟩; replace HB := lb HB hb; (try clear hb); (try clear hb2); (try clear hk); (try clear hi); have hcs27 := Hd.str_cat (P := Tryd.prog) (s := y499) (t := t500) (y := y501) (by first | (with_reducible assumption) | assumption | exact of_eq_true (by assumption) | omega) Ny501.out; have hcs27' := Hd.str_cat' (P := Tryd.prog) (s := y499) (t := t500) (y := y501) (by first | (with_reducible assumption) | assumption | exact of_eq_true (by assumption) | omega) Ny501.out; have hcs28 := Hd.str_cat (P := Tryd.prog) (s := y501) (t := t492) (y := y502) (by first | (with_reducible assumption) | assumption | exact of_eq_true (by assumption) | omega) Ny502.out; have hcs28' := Hd.str_cat' (P := Tryd.prog) (s := y501) (t := t492) (y := y502) (by first | (with_reducible assumption) | assumption | exact of_eq_true (by assumption) | omega) Ny502.out)); try go_wp2_with (first | (go_at_call 62; (with_reducible refine (Hd.strings_Repeat.calls (⟨#[48]⟩ : ByteArray) (wrap64 (-t493)) t500 _ A22.out).mono ?_); rintro e w26 ⟨rfl, hb⟩; replace HB := lb HB hb; (try clear hb); (try clear hb2); (try clear hk); (try clear hi); have hcs27 := Hd.str_cat (P := Tryd.prog) (s := y499) (t := t500) (y := y501) (by first | (with_reducible assumption) | assumption | exact of_eq_true (by assumption) | omega) Ny501.out; have hcs27' := Hd.str_cat' (P := Tryd.prog) (s := y499) (t := t500) (y := y501) (by first | (with_reducible assumption) | assumption | exact of_eq_true (by assumption) | omega) Ny501.out; have hcs28 := Hd.str_cat (P := Tryd.prog) (s := y501) (t := t492) (y := y502) (by first | (with_reducible assumption) | assumption | exact of_eq_true (by assumption) | omega) Ny502.out; have hcs28' := Hd.str_cat' (P := Tryd.prog) (s := y501) (t := t492) (y := y502) (by first | (with_reducible assumption) | assumption | exact of_eq_true (by assumption) | omega) Ny502.out)))
              go_ret
              exact ex (lk HB)
             ·
              rw [if_neg c24] at H
              exact absurd H (by simp)
            ·
             rw [if_neg c23] at H
             exact absurd H (by simp)
           ·
            rw [if_neg c21] at H
            exact absurd H (by simp)
          ·
           rw [if_neg c20] at H
           have c20b0 : decide (t493 ≤ 0) = false := decide_eq_false c20
           clear c20
           by_cases c29 : t493 ≥ (t492.size : Int)
           ·
            rw [if_pos c29] at H
            have c29b0 : decide ((t492.size : Int) ≤ t493) = true := decide_eq_true c29
            clear c29
            by_cases c30 : x6_2.size + t492.size ≤ 9223372036854775807
            ·
             rw [if_pos c30] at H
             have c30b0 := eq_true c30
             have c30b1 : decide (x6_2.size + t492.size ≤ 9223372036854775807) = true := decide_eq_true c30
             try have c30b2 : (9223372036854775807 < x6_2.size + t492.size) = False := eq_false (Nat.not_lt.2 c30)
             obtain ⟨y503, hy503⟩ : ∃ y_ : ByteArray, y_ = (x6_2 ++ t492) := ⟨_, rfl⟩
             replace H : ((Hd.strings_Repeat.f (⟨#[48]⟩ : ByteArray) (wrap64 (t493 - (t492.size : Int)))).bind fun t504 => (if y503.size + t504.size ≤ 9223372036854775807 then (some (y503 ++ t504)) else (none))) = some r := by first | (rw [hy503]; with_reducible exact H) | (have H2_ := (Option.bind_some _ _).symm.trans H; rw [hy503]; with_reducible exact H2_) | (have H2_ := (Option.bind_some _ _).symm.trans H; with_reducible exact H2_) | with_reducible exact H | (rw [hy503]; exact H) | exact H
             have Ny503 := Aside0.mk hy503
             clear hy503
             replace H := Option.bind_eq_some_iff.mp H
             obtain ⟨t504, A310, H⟩ := H
             replace H : (if y503.size + t504.size ≤ 9223372036854775807 then (some (y503 ++ t504)) else (none)) = some r := H
             have A31 := Aside0.mk A310
             clear A310
             by_cases c32 : y503.size + t504.size ≤ 9223372036854775807
             ·
              rw [if_pos c32] at H
              have c32b0 := eq_true c32
              have c32b1 : decide (y503.size + t504.size ≤ 9223372036854775807) = true := decide_eq_true c32
              try have c32b2 : (9223372036854775807 < y503.size + t504.size) = False := eq_false (Nat.not_lt.2 c32)
              obtain ⟨y505, hy505⟩ : ∃ y_ : ByteArray, y_ = (y503 ++ t504) := ⟨_, rfl⟩
              replace H : (some y505) = some r := by first | (rw [hy505]; with_reducible exact H) | (have H2_ := (Option.bind_some _ _).symm.trans H; rw [hy505]; with_reducible exact H2_) | (have H2_ := (Option.bind_some _ _).symm.trans H; with_reducible exact H2_) | with_reducible exact H | (rw [hy505]; exact H) | exact H
              have Ny505 := Aside0.mk hy505
              clear hy505
              obtain rfl := Option.some.inj H
              have hcs33 := Hd.str_cat (P := Tryd.prog) (s := x6_2) (t := t492) (y := y503) (by first | (with_reducible assumption) | assumption | exact of_eq_true (by assumption) | omega) Ny503.out
              have hcs33' := Hd.str_cat' (P := Tryd.prog) (s := x6_2) (t := t492) (y := y503) (by first | (with_reducible assumption) | assumption | exact of_eq_true (by assumption) | omega) Ny503.out
              go_wp2_with (first | (go_at_call 62; (with_reducible refine (Hd.strings_Repeat.calls (⟨#[48]⟩ : ByteArray) (wrap64 (t493 - (t492.size : Int))) t504 _ A31.out).mono ?_); rintro e w34 ⟨rfl, hb⟩; replace HB := lb HB hb; (try clear hb); (try clear hb2); (try clear hk); (try clear hi); have hcs35 := Hd.str_cat (P := Tryd.prog) (s := y503) (t := t504) (y := y505) (by first | (with_reducible assumption) | assumption | exact of_eq_true (by assumption) | omega) Ny505.out; have hcs35' := Hd.str_cat' (P := Tryd.prog) (s := y503) (t := t504) (y := y505) (by first | (with_reducible assumption) | assumption | exact of_eq_true (by assumption) | omega) Ny505.out))
              repeat (go_quiet (first | (go_at_call 62; (with_reducible refine (Hd.strings_Repeat.calls (⟨#[48]⟩ : ByteArray) (wrap64 (t493 - (t492.size : Int))) t504 _ A31.out).mono ?_); rintro e w34 ⟨rfl, hb⟩; replace HB := lb HB hb; (try clear hb); (try clear hb2); (try clear hk); (try clear hi); have hcs35 := Hd.str_cat (P := Tryd.prog) (s := y503) (t := t504) (y := y505) (by first | (with_reducible assumption) | assumption | exact of_eq_true (by assumption) | omega) Ny505.out; have hcs35' := Hd.str_cat' (P := Tryd.prog) (s := y503) (t := t504) (y := y505) (by first | (with_reducible assumption) | assumption | exact of_eq_true (by assumption) | omega) Ny505.out)); try go_wp2_with (first | (go_at_call 62; (with_reducible refine (Hd.strings_Repeat.calls (⟨#[48]⟩ : ByteArray) (wrap64 (t493 - (t492.size : Int))) t504 _ A31.out).mono ?_); rintro e w34 ⟨rfl, hb⟩; replace HB := lb HB hb; (try clear hb); (try clear hb2); (try clear hk); (try clear hi); have hcs35 := Hd.str_cat (P := Tryd.prog) (s := y503) (t := t504) (y := y505) (by first | (with_reducible assumption) | assumption | exact of_eq_true (by assumption) | omega) Ny505.out; have hcs35' := Hd.str_cat' (P := Tryd.prog) (s := y503) (t := t504) (y := y505) (by first | (with_reducible assumption) | assumption | exact of_eq_true (by assumption) | omega) Ny505.out)))
              go_ret
              exact ex (lk HB)
             ·
              rw [if_neg c32] at H
              exact absurd H (by simp)
            ·
             rw [if_neg c30] at H
             exact absurd H (by simp)
           ·
            rw [if_neg c29] at H
            have c29b0 : decide ((t492.size : Int) ≤ t493) = false := decide_eq_false c29
            clear c29
            by_cases c36 : 0 ≤ t493
            ·
             rw [if_pos c36] at H
             have c36b0 := eq_true c36
             have c36b1 : decide (0 ≤ t493) = true := decide_eq_true c36
             clear c36
             by_cases c37 : t493 ≤ (t492.size : Int)
             ·
              rw [if_pos c37] at H
              have c37b0 := eq_true c37
              have c37b1 : decide (t493 ≤ (t492.size : Int)) = true := decide_eq_true c37
              clear c37
              obtain ⟨y506, hy506⟩ : ∃ y_ : ByteArray, y_ = (t492.extract 0 (t493 : Int).toNat) := ⟨_, rfl⟩
              replace H : (if x6_2.size + y506.size ≤ 9223372036854775807 then ((some (x6_2 ++ y506 : ByteArray)).bind fun y507 => (if y507.size + 1 ≤ 9223372036854775807 then ((some (y507 ++ (⟨#[46]⟩ : ByteArray) : ByteArray)).bind fun y508 => ((some (t492.extract (t493 : Int).toNat t492.size : ByteArray)).bind fun y509 => (if y508.size + y509.size ≤ 9223372036854775807 then (some (y508 ++ y509)) else (none)))) else (none))) else (none)) = some r := by first | (rw [hy506]; with_reducible exact H) | (have H2_ := (Option.bind_some _ _).symm.trans H; rw [hy506]; with_reducible exact H2_) | (have H2_ := (Option.bind_some _ _).symm.trans H; with_reducible exact H2_) | with_reducible exact H | (rw [hy506]; exact H) | exact H
              have Ny506 := Aside0.mk hy506
              clear hy506
              by_cases c38 : x6_2.size + y506.size ≤ 9223372036854775807
              ·
               rw [if_pos c38] at H
               have c38b0 := eq_true c38
               have c38b1 : decide (x6_2.size + y506.size ≤ 9223372036854775807) = true := decide_eq_true c38
               try have c38b2 : (9223372036854775807 < x6_2.size + y506.size) = False := eq_false (Nat.not_lt.2 c38)
               obtain ⟨y507, hy507⟩ : ∃ y_ : ByteArray, y_ = (x6_2 ++ y506) := ⟨_, rfl⟩
               replace H : (if y507.size + 1 ≤ 9223372036854775807 then ((some (y507 ++ (⟨#[46]⟩ : ByteArray) : ByteArray)).bind fun y508 => ((some (t492.extract (t493 : Int).toNat t492.size : ByteArray)).bind fun y509 => (if y508.size + y509.size ≤ 9223372036854775807 then (some (y508 ++ y509)) else (none)))) else (none)) = some r := by first | (rw [hy507]; with_reducible exact H) | (have H2_ := (Option.bind_some _ _).symm.trans H; rw [hy507]; with_reducible exact H2_) | (have H2_ := (Option.bind_some _ _).symm.trans H; with_reducible exact H2_) | with_reducible exact H | (rw [hy507]; exact H) | exact H
               have Ny507 := Aside0.mk hy507
               clear hy507
               by_cases c39 : y507.size + 1 ≤ 9223372036854775807
               ·
                rw [if_pos c39] at H
                have c39b0 := eq_true c39
                have c39b1 : decide (y507.size + 1 ≤ 9223372036854775807) = true := decide_eq_true c39
                try have c39b2 : (9223372036854775807 < y507.size + 1) = False := eq_false (Nat.not_lt.2 c39)
                obtain ⟨y508, hy508⟩ : ∃ y_ : ByteArray, y_ = (y507 ++ (⟨#[46]⟩ : ByteArray)) := ⟨_, rfl⟩
                replace H : ((some (t492.extract (t493 : Int).toNat t492.size : ByteArray)).bind fun y509 => (if y508.size + y509.size ≤ 9223372036854775807 then (some (y508 ++ y509)) else (none))) = some r := by first | (rw [hy508]; with_reducible exact H) | (have H2_ := (Option.bind_some _ _).symm.trans H; rw [hy508]; with_reducible exact H2_) | (have H2_ := (Option.bind_some _ _).symm.trans H; with_reducible exact H2_) | with_reducible exact H | (rw [hy508]; exact H) | exact H
                have Ny508 := Aside0.mk hy508
                clear hy508
                have c40b0 := eq_true (of_decide_eq_true (by first | (with_reducible assumption) | assumption) : 0 ≤ t493)
                have c41b0 := eq_true (of_decide_eq_true (by first | (with_reducible assumption) | assumption) : t493 ≤ (t492.size : Int))
                obtain ⟨y509, hy509⟩ : ∃ y_ : ByteArray, y_ = (t492.extract (t493 : Int).toNat t492.size) := ⟨_, rfl⟩
                replace H : (if y508.size + y509.size ≤ 9223372036854775807 then (some (y508 ++ y509)) else (none)) = some r := by first | (rw [hy509]; with_reducible exact H) | (have H2_ := (Option.bind_some _ _).symm.trans H; rw [hy509]; with_reducible exact H2_) | (have H2_ := (Option.bind_some _ _).symm.trans H; with_reducible exact H2_) | with_reducible exact H | (rw [hy509]; exact H) | exact H
                have Ny509 := Aside0.mk hy509
                clear hy509
                by_cases c42 : y508.size + y509.size ≤ 9223372036854775807
                ·
                 rw [if_pos c42] at H
                 have c42b0 := eq_true c42
                 have c42b1 : decide (y508.size + y509.size ≤ 9223372036854775807) = true := decide_eq_true c42
                 try have c42b2 : (9223372036854775807 < y508.size + y509.size) = False := eq_false (Nat.not_lt.2 c42)
                 obtain ⟨y510, hy510⟩ : ∃ y_ : ByteArray, y_ = (y508 ++ y509) := ⟨_, rfl⟩
                 replace H : (some y510) = some r := by first | (rw [hy510]; with_reducible exact H) | (have H2_ := (Option.bind_some _ _).symm.trans H; rw [hy510]; with_reducible exact H2_) | (have H2_ := (Option.bind_some _ _).symm.trans H; with_reducible exact H2_) | with_reducible exact H | (rw [hy510]; exact H) | exact H
                 have Ny510 := Aside0.mk hy510
                 clear hy510
                 obtain rfl := Option.some.inj H
                 have hcs43 := Hd.str_to (P := Tryd.prog) (k := .i64) Tryd.underlying9 (j := t493) (s := t492) (y := y506) (by first | (with_reducible assumption) | exact of_decide_eq_true (by first | (with_reducible assumption) | assumption) | omega) (by first | (with_reducible assumption) | exact of_decide_eq_true (by first | (with_reducible assumption) | assumption) | omega) Ny506.out
                 have hcs44 := Hd.str_cat (P := Tryd.prog) (s := x6_2) (t := y506) (y := y507) (by first | (with_reducible assumption) | assumption | exact of_eq_true (by assumption) | omega) Ny507.out
                 have hcs44' := Hd.str_cat' (P := Tryd.prog) (s := x6_2) (t := y506) (y := y507) (by first | (with_reducible assumption) | assumption | exact of_eq_true (by assumption) | omega) Ny507.out
                 have hcs45 := Hd.str_cat (P := Tryd.prog) (s := y507) (t := (⟨#[46]⟩ : ByteArray)) (y := y508) (by first | (with_reducible assumption) | assumption | exact of_eq_true (by assumption) | omega) Ny508.out
                 have hcs45' := Hd.str_cat' (P := Tryd.prog) (s := y507) (t := (⟨#[46]⟩ : ByteArray)) (y := y508) (by first | (with_reducible assumption) | assumption | exact of_eq_true (by assumption) | omega) Ny508.out
                 have hcs46 := Hd.str_from (P := Tryd.prog) (k := .i64) Tryd.underlying9 (i := t493) (s := t492) (y := y509) (by first | (with_reducible assumption) | exact of_decide_eq_true (by first | (with_reducible assumption) | assumption) | omega) (by first | (with_reducible assumption) | exact of_decide_eq_true (by first | (with_reducible assumption) | assumption) | omega) Ny509.out
                 have hcs47 := Hd.str_cat (P := Tryd.prog) (s := y508) (t := y509) (y := y510) (by first | (with_reducible assumption) | assumption | exact of_eq_true (by assumption) | omega) Ny510.out
                 have hcs47' := Hd.str_cat' (P := Tryd.prog) (s := y508) (t := y509) (y := y510) (by first | (with_reducible assumption) | assumption | exact of_eq_true (by assumption) | omega) Ny510.out
                 go_wp2
                 repeat (go_quiet (fail); try go_wp2)
                 go_ret
                 exact ex (lk HB)
                ·
                 rw [if_neg c42] at H
                 exact absurd H (by simp)
               ·
                rw [if_neg c39] at H
                exact absurd H (by simp)
              ·
               rw [if_neg c38] at H
               exact absurd H (by simp)
             ·
              rw [if_neg c37] at H
              exact absurd H (by simp)
            ·
             rw [if_neg c36] at H
             exact absurd H (by simp)


/-! ### num_units: function 77 -/
def num_units.f  : Option ((List (S98))) := some (([(⟨(⟨#[121]⟩ : ByteArray), 31536000000⟩ : S98), (⟨(⟨#[119]⟩ : ByteArray), 604800000⟩ : S98), (⟨(⟨#[100]⟩ : ByteArray), 86400000⟩ : S98), (⟨(⟨#[104]⟩ : ByteArray), 3600000⟩ : S98), (⟨(⟨#[109]⟩ : ByteArray), 60000⟩ : S98), (⟨(⟨#[115]⟩ : ByteArray), 1000⟩ : S98), (⟨(⟨#[109, 115]⟩ : ByteArray), 1⟩ : S98)] : List (S98)))
set_option maxHeartbeats 8000000 in
set_option maxRecDepth 100000 in
theorem num_units.calls  (r : List (S98)) (w : World) (h : num_units.f  = some r) :
  Calls Tryd.prog 77 #[] w fun e w' => ∃ v0_ : Value, e = .returned (v0_) ∧ Kd.R k98 98 w' w.heap.size (fun _ => True) v0_ r ∧ Below w.heap.size w w' := by
 have hu98 := Tryd.underlying98
 have HB := Aside0.mk (Below.refl w.heap.size w)
 have H : (some (([(⟨(⟨#[121]⟩ : ByteArray), 31536000000⟩ : S98), (⟨(⟨#[119]⟩ : ByteArray), 604800000⟩ : S98), (⟨(⟨#[100]⟩ : ByteArray), 86400000⟩ : S98), (⟨(⟨#[104]⟩ : ByteArray), 3600000⟩ : S98), (⟨(⟨#[109]⟩ : ByteArray), 60000⟩ : S98), (⟨(⟨#[115]⟩ : ByteArray), 1000⟩ : S98), (⟨(⟨#[109, 115]⟩ : ByteArray), 1⟩ : S98)] : List (S98)))) = some r := h
 clear h
 obtain ⟨y606, hy606⟩ : ∃ y_ : List (S98), y_ = (([(⟨(⟨#[121]⟩ : ByteArray), 31536000000⟩ : S98), (⟨(⟨#[119]⟩ : ByteArray), 604800000⟩ : S98), (⟨(⟨#[100]⟩ : ByteArray), 86400000⟩ : S98), (⟨(⟨#[104]⟩ : ByteArray), 3600000⟩ : S98), (⟨(⟨#[109]⟩ : ByteArray), 60000⟩ : S98), (⟨(⟨#[115]⟩ : ByteArray), 1000⟩ : S98), (⟨(⟨#[109, 115]⟩ : ByteArray), 1⟩ : S98)] : List (S98))) := ⟨_, rfl⟩
 replace H : (some y606) = some r := by first | (rw [hy606]; with_reducible exact H) | (have H2_ := (Option.bind_some _ _).symm.trans H; rw [hy606]; with_reducible exact H2_) | (have H2_ := (Option.bind_some _ _).symm.trans H; with_reducible exact H2_) | with_reducible exact H | (rw [hy606]; exact H) | exact H
 have Ny606 := Aside0.mk hy606
 clear hy606
 obtain rfl := Option.some.inj H
 go_enter Tryd.func77, Tryd.ntmps77
 go_wp2_with (first | ((with_reducible refine gate_dst (N := 8) rfl ?_); refine Kd.R_lit k98 _ 98 ?hg (N := 8) ?hd (xs := ([(⟨(⟨#[121]⟩ : ByteArray), 31536000000⟩ : S98), (⟨(⟨#[119]⟩ : ByteArray), 604800000⟩ : S98), (⟨(⟨#[100]⟩ : ByteArray), 86400000⟩ : S98), (⟨(⟨#[104]⟩ : ByteArray), 3600000⟩ : S98), (⟨(⟨#[109]⟩ : ByteArray), 60000⟩ : S98), (⟨(⟨#[115]⟩ : ByteArray), 1000⟩ : S98), (⟨(⟨#[109, 115]⟩ : ByteArray), 1⟩ : S98)] : List (S98))) (inner := [.string (⟨#[121]⟩ : ByteArray), .int .i64 31536000000, .string (⟨#[119]⟩ : ByteArray), .int .i64 604800000, .string (⟨#[100]⟩ : ByteArray), .int .i64 86400000, .string (⟨#[104]⟩ : ByteArray), .int .i64 3600000, .string (⟨#[109]⟩ : ByteArray), .int .i64 60000, .string (⟨#[115]⟩ : ByteArray), .int .i64 1000, .string (⟨#[109, 115]⟩ : ByteArray), .int .i64 1]) (ok := fun _ => True) (okp := fun _ => True) ?hr ?hp (fun _ hk => hk) trivial (Below.refl _ _) (Nat.le_refl _) (by simp) ?_; (case hd => rfl); (case hg => rfl); (case hr => first | (go_simp; done) | (go_simp; rfl)); (case hp => exact (Reps.c2 (show Kd.M k98 _ _ _ (⟨(⟨#[121]⟩ : ByteArray), 31536000000⟩ : S98) [.string (⟨#[121]⟩ : ByteArray), .int .i64 31536000000] from (k98_mkM _ _ _ (⟨(⟨#[121]⟩ : ByteArray), 31536000000⟩ : S98) )) (Reps.c2 (show Kd.M k98 _ _ _ (⟨(⟨#[119]⟩ : ByteArray), 604800000⟩ : S98) [.string (⟨#[119]⟩ : ByteArray), .int .i64 604800000] from (k98_mkM _ _ _ (⟨(⟨#[119]⟩ : ByteArray), 604800000⟩ : S98) )) (Reps.c2 (show Kd.M k98 _ _ _ (⟨(⟨#[100]⟩ : ByteArray), 86400000⟩ : S98) [.string (⟨#[100]⟩ : ByteArray), .int .i64 86400000] from (k98_mkM _ _ _ (⟨(⟨#[100]⟩ : ByteArray), 86400000⟩ : S98) )) (Reps.c2 (show Kd.M k98 _ _ _ (⟨(⟨#[104]⟩ : ByteArray), 3600000⟩ : S98) [.string (⟨#[104]⟩ : ByteArray), .int .i64 3600000] from (k98_mkM _ _ _ (⟨(⟨#[104]⟩ : ByteArray), 3600000⟩ : S98) )) (Reps.c2 (show Kd.M k98 _ _ _ (⟨(⟨#[109]⟩ : ByteArray), 60000⟩ : S98) [.string (⟨#[109]⟩ : ByteArray), .int .i64 60000] from (k98_mkM _ _ _ (⟨(⟨#[109]⟩ : ByteArray), 60000⟩ : S98) )) (Reps.c2 (show Kd.M k98 _ _ _ (⟨(⟨#[115]⟩ : ByteArray), 1000⟩ : S98) [.string (⟨#[115]⟩ : ByteArray), .int .i64 1000] from (k98_mkM _ _ _ (⟨(⟨#[115]⟩ : ByteArray), 1000⟩ : S98) )) (Reps.c2 (show Kd.M k98 _ _ _ (⟨(⟨#[109, 115]⟩ : ByteArray), 1⟩ : S98) [.string (⟨#[109, 115]⟩ : ByteArray), .int .i64 1] from (k98_mkM _ _ _ (⟨(⟨#[109, 115]⟩ : ByteArray), 1⟩ : S98) )) (Reps.none _ _))))))))); intro v607 w1 ho2 hb hg_ hnew_; clear hg_ hnew_; (first | rw [← Ny606.out] at ho2 | (simp only [Int.reduceToNat] at ho2; rw [← Ny606.out] at ho2)); have HO608 := Aside0.mk (Kd.R_lower ho2 (below_size (lk HB))); replace HB := lb HB hb; clear hb ho2))
 go_ret
 exact ⟨_, by first | rfl | (simp [errW_none, errW_some] <;> rfl) | (simp [*, errW_none, errW_some] <;> rfl), by (with_reducible repeat (first | apply Kd.R_alloc | apply Kd.R_drewN | apply Kd.R_drew)); exact HO608.out, lk HB⟩


/-! ### num_DurationText: function 38 -/
mutual
def num_DurationText.j0 : Nat → Int → ByteArray → Option (ByteArray)
 | 0, _, _ => none
 | k + 1, x3, x4 => (num_units.f).bind fun t609 => (num_DurationText.l0 k x3 x4 t609 (t609.length : Int) 0)
def num_DurationText.l0 : Nat → Int → ByteArray → List (S98) → Int → Int → Option (ByteArray)
 | 0, _, _, _, _, _ => none
 | k + 1, x3, x4, x16, x17, x18 => if x18 < x17 then (if 0 ≤ x18 then (if x18 < (x16.length : Int) then (if (IntKind.u64.wrap ((rd_T98 x16 x18).f1)) = 0 then (none) else (if (IntKind.u64.wrap (Int.tdiv x3 (IntKind.u64.wrap ((rd_T98 x16 x18).f1)))) > 0 then ((Hd.num_IntText.f (wrap64 (IntKind.u64.wrap (Int.tdiv x3 (IntKind.u64.wrap ((rd_T98 x16 x18).f1)))))).bind fun t614 => (if t614.size + ((rd_T98 x16 x18).f0).size ≤ 9223372036854775807 then ((some (t614 ++ ((rd_T98 x16 x18).f0) : ByteArray)).bind fun y615 => (if x4.size + y615.size ≤ 9223372036854775807 then (num_DurationText.l0 k (Int.tmod x3 (IntKind.u64.wrap ((rd_T98 x16 x18).f1))) (x4 ++ y615) x16 x17 (wrap64 (x18 + 1))) else (none))) else (none))) else (num_DurationText.l0 k x3 x4 x16 x17 (wrap64 (x18 + 1))))) else (none)) else (none)) else (some x4)
end
def num_DurationText.f (k : Nat) (a0 : Int) : Option (ByteArray) := if a0 = 0 then (some (⟨#[48, 115]⟩ : ByteArray)) else (if a0 < 0 then (num_DurationText.j0 k (IntKind.u64.wrap (-(IntKind.u64.wrap (a0)))) (⟨#[45]⟩ : ByteArray)) else (num_DurationText.j0 k (IntKind.u64.wrap (a0)) (⟨#[]⟩ : ByteArray)))
theorem num_DurationText.mono_l : ∀ k, (∀ y0 y1, LeO (num_DurationText.j0 k y0 y1) (num_DurationText.j0 (k + 1) y0 y1)) ∧ (∀ y0 y1 y2 y3 y4, LeO (num_DurationText.l0 k y0 y1 y2 y3 y4) (num_DurationText.l0 (k + 1) y0 y1 y2 y3 y4))
 | 0 => ⟨fun _ _ r h => by simp [num_DurationText.j0] at h, fun _ _ _ _ _ r h => by simp [num_DurationText.l0] at h⟩
 | k + 1 => by
  obtain ⟨ih0, ih1⟩ := num_DurationText.mono_l k
  refine ⟨?_, ?_⟩
  ·
   intro y0 y1
   unfold num_DurationText.j0
   repeat' first | (with_reducible exact ih0 _ _) | (with_reducible exact ih1 _ _ _ _ _) | (with_reducible exact LeO.refl _) | (with_reducible exact LeO.none _) | (with_reducible refine LeO.ite ?_ ?_) | (with_reducible refine LeO.bind ?_ (fun _ => ?_))
  ·
   intro y0 y1 y2 y3 y4
   unfold num_DurationText.l0
   repeat' first | (with_reducible exact ih0 _ _) | (with_reducible exact ih1 _ _ _ _ _) | (with_reducible exact LeO.refl _) | (with_reducible exact LeO.none _) | (with_reducible refine LeO.ite ?_ ?_) | (with_reducible refine LeO.bind ?_ (fun _ => ?_))
theorem num_DurationText.mono : ∀ a0 k, LeO (num_DurationText.f k a0) (num_DurationText.f (k + 1) a0) := by
 intro a0 k
 obtain ⟨ih0, ih1⟩ := num_DurationText.mono_l k
 unfold num_DurationText.f
 repeat' first | (with_reducible exact ih0 _ _) | (with_reducible exact ih1 _ _ _ _ _) | (with_reducible exact LeO.refl _) | (with_reducible exact LeO.none _) | (with_reducible refine LeO.ite ?_ ?_) | (with_reducible refine LeO.bind ?_ (fun _ => ?_))
def num_DurationText.T11 : Bool × List (List Nat × List Nat) := (true, [([], []), ([], []), ([1], [1]), ([2], [2]), ([], []), ([4], [4]), ([3, 5], [3, 5]), ([0, 6], [0, 6]), ([7, 3, 0, 1, 2, 3, 4, 5, 6, 7], [0, 7])])
def num_DurationText.B11 : List Nat := [0, 0, 2, 6, 0, 16, 62, 127, 255]
theorem num_DurationText.tab11 : rtab .any (opsOf Tryd.f38 11) = num_DurationText.T11 := by kernel_rfl
theorem num_DurationText.bits11 : waitsOk num_DurationText.T11.2 num_DurationText.B11 = true := by kernel_rfl
set_option maxHeartbeats 8000000 in
set_option maxRecDepth 100000 in
theorem num_DurationText.calls (k : Nat) (a0 : Int) (r : ByteArray) (w : World) (h : num_DurationText.f k a0 = some r) :
  Calls Tryd.prog 38 #[.int .i64 a0] w fun e w' => e = .returned (.string r) ∧ Below w.heap.size w w' := by
 have hu98 := Tryd.underlying98
 have HB := Aside0.mk (Below.refl w.heap.size w)
 have H : (if a0 = 0 then (some (⟨#[48, 115]⟩ : ByteArray)) else (if a0 < 0 then (num_DurationText.j0 k (IntKind.u64.wrap (-(IntKind.u64.wrap (a0)))) (⟨#[45]⟩ : ByteArray)) else (num_DurationText.j0 k (IntKind.u64.wrap (a0)) (⟨#[]⟩ : ByteArray)))) = some r := h
 clear h
 by_cases c2 : a0 = 0
 ·
  rw [if_pos c2] at H
  have c2b0 : (a0 == 0) = true := beq_iff_eq.mpr c2
  have c2b1 : (a0 != 0) = false := bne_eq_false_iff_eq.mpr c2
  clear c2
  obtain rfl := Option.some.inj H
  go_enter Tryd.func38, Tryd.ntmps38
  go_wp2
  go_ret
  exact ex (lk HB)
 ·
  rw [if_neg c2] at H
  have c2b0 : (a0 == 0) = false := beq_eq_false_iff_ne.mpr c2
  have c2b1 : (a0 != 0) = true := bne_iff_ne.mpr c2
  have HC3 := Aside0.mk H
  clear H
  go_enter Tryd.func38, Tryd.ntmps38
  go_upto_if 13 with (fail)
  go_cut [3, 4] (fun v3 v4 wc => ∃ (kq : Nat) (x3_2 : Int) (x4_2 : ByteArray), v3 = .int .u64 x3_2 ∧ v4 = .string x4_2 ∧ Aside0 (num_DurationText.j0 kq x3_2 x4_2 = some r) ∧ Aside0 (kq ≤ k) ∧ Aside0 (Below w.heap.size w wc))
  case first =>
   have H := HC3.out
   clear HC3
   by_cases c4 : a0 < 0
   ·
    rw [if_pos c4] at H
    have c4b0 : decide (a0 < 0) = true := decide_eq_true c4
    clear c4
    (first | rw [c4b0] | (simp only [i64_w, i32_w]; rw [c4b0]) | skip)
    have H' := Aside0.mk H
    clear H
    go_wp2
    go_meet
    case rel => exact ⟨_, (IntKind.u64.wrap (-(IntKind.u64.wrap (a0)))), ((⟨#[45]⟩ : ByteArray)), (by first | rfl | (simp; done) | (simp [*]; done)), (by first | rfl | (simp; done) | (simp [*]; done)), H', ⟨by first | omega | exact Nat.le_refl _⟩, ⟨lk HB⟩⟩
   ·
    rw [if_neg c4] at H
    have c4b0 : decide (a0 < 0) = false := decide_eq_false c4
    clear c4
    (first | rw [c4b0] | (simp only [i64_w, i32_w]; rw [c4b0]) | skip)
    have H' := Aside0.mk H
    clear H
    go_wp2
    go_meet
    case rel => exact ⟨_, (IntKind.u64.wrap (a0)), ((⟨#[]⟩ : ByteArray)), (by first | rfl | (simp; done) | (simp [*]; done)), (by first | rfl | (simp; done) | (simp [*]; done)), H', ⟨by first | omega | exact Nat.le_refl _⟩, ⟨lk HB⟩⟩
  case rest =>
   clear HC3
   try clear c2
   try clear c2b0
   try clear c2b1
   try clear p2
   try clear c3
   try clear c4
   try clear c4b0
   obtain ⟨kq, x3_2, x4_2, rfl, rfl, HA, HJ2, HB⟩ := hcut
   cases kq with
   | zero => exact absurd HA.out (by simp [num_DurationText.j0])
   | succ kj2 =>
    have H := HA.out
    clear HA
    simp only [num_DurationText.j0] at H
    replace H := Option.bind_eq_some_iff.mp H
    obtain ⟨t609, A50, H⟩ := H
    replace H : (num_DurationText.l0 kj2 x3_2 x4_2 t609 (t609.length : Int) 0) = some r := H
    have A5 := Aside0.mk A50
    clear A50
    have H' := Aside0.mk H
    clear H
    go_wp2_with (first | ((with_reducible refine gate_callee (f := 77) rfl ?_); refine gL (some 16) Tryd.func77 #[] ?_; (with_reducible refine (num_units.calls  t609 _ A5.out).mono ?_); rintro e w6 ⟨v610, rfl, ho0, hb⟩; refine ⟨_, rfl, ?_⟩; have HO611 := Aside0.mk (Kd.R_lower ho0 (below_size (lk HB))); replace HB := lb HB hb; (try clear hb); (try clear hb2); (try clear hk); (try clear hi); (try clear ho0); obtain ⟨Ao7, co7, eo7⟩ := Kd.R_slice HO611.out; subst eo7))
    go_loopg [3, 4, 18] kj2 (fun kq v3 v4 v18 w' => ∃ (x3_2 : Int) (x4_2 : ByteArray) (x18_2 : Int), v3 = .int .u64 x3_2 ∧ v4 = .string x4_2 ∧ v18 = .int .i64 x18_2 ∧ Aside0 (num_DurationText.l0 kq x3_2 x4_2 t609 (t609.length : Int) x18_2 = some r) ∧ Aside0 (kq ≤ kj2) ∧ Aside0 (Kd.R k98 98 w' w.heap.size (fun _ => True) (.slice Ao7 t609.length co7) t609) ∧ Aside0 (Below w.heap.size w w'))
    case atStart => exact ⟨(x3_2), (x4_2), (0), (by first | rfl | (simp; done) | (simp [*]; done)), (by first | rfl | (simp; done) | (simp [*]; done)), (by first | rfl | (simp; done) | (simp [*]; done)), H', ⟨Nat.le_refl _⟩, ⟨by (with_reducible repeat (first | apply Kd.R_alloc | apply Kd.R_drewN | apply Kd.R_drew)); exact HO611.out⟩, ⟨lk HB⟩⟩
    case round =>
     clear H'
     try clear c2
     try clear c2b0
     try clear c2b1
     try clear p2
     try clear c3
     try clear c4
     try clear c4b0
     try clear c7
     try clear p2
     obtain ⟨x3_2, x4_2, x18_2, rfl, rfl, rfl, HA, HK2, HO_16, HB⟩ := hrel
     cases gk with
     | zero => exact absurd HA.out (by simp [num_DurationText.l0])
     | succ k2 =>
      have H := HA.out
      clear HA
      simp only [num_DurationText.l0] at H
      by_cases c8 : x18_2 < (t609.length : Int)
      ·
       rw [if_pos c8] at H
       have c8b0 : decide (x18_2 < (t609.length : Int)) = true := decide_eq_true c8
       clear c8
       by_cases c9 : 0 ≤ x18_2
       ·
        rw [if_pos c9] at H
        have c9b0 : decide (0 ≤ x18_2) = true := decide_eq_true c9
        clear c9
        by_cases c10 : x18_2 < (t609.length : Int)
        ·
         rw [if_pos c10] at H
         have c10b0 : decide (x18_2 < (t609.length : Int)) = true := decide_eq_true c10
         clear c10
         by_cases c11 : (IntKind.u64.wrap ((rd_T98 t609 x18_2).f1)) = 0
         ·
          rw [if_pos c11] at H
          exact absurd H (by simp)
         ·
          rw [if_neg c11] at H
          have c11b0 : ((IntKind.u64.wrap ((rd_T98 t609 x18_2).f1)) == 0) = false := beq_eq_false_iff_ne.mpr c11
          have c11b1 : ((IntKind.u64.wrap ((rd_T98 t609 x18_2).f1)) != 0) = true := bne_iff_ne.mpr c11
          by_cases c12 : (IntKind.u64.wrap (Int.tdiv x3_2 (IntKind.u64.wrap ((rd_T98 t609 x18_2).f1)))) > 0
          ·
           rw [if_pos c12] at H
           have c12b0 : decide (0 < (IntKind.u64.wrap (Int.tdiv x3_2 (IntKind.u64.wrap ((rd_T98 t609 x18_2).f1))))) = true := decide_eq_true c12
           clear c12
           replace H := Option.bind_eq_some_iff.mp H
           obtain ⟨t614, A130, H⟩ := H
           replace H : (if t614.size + ((rd_T98 t609 x18_2).f0).size ≤ 9223372036854775807 then ((some (t614 ++ ((rd_T98 t609 x18_2).f0) : ByteArray)).bind fun y615 => (if x4_2.size + y615.size ≤ 9223372036854775807 then (num_DurationText.l0 k2 (Int.tmod x3_2 (IntKind.u64.wrap ((rd_T98 t609 x18_2).f1))) (x4_2 ++ y615) t609 (t609.length : Int) (wrap64 (x18_2 + 1))) else (none))) else (none)) = some r := H
           have A13 := Aside0.mk A130
           clear A130
           by_cases c14 : t614.size + ((rd_T98 t609 x18_2).f0).size ≤ 9223372036854775807
           ·
            rw [if_pos c14] at H
            have c14b0 := eq_true c14
            have c14b1 : decide (t614.size + ((rd_T98 t609 x18_2).f0).size ≤ 9223372036854775807) = true := decide_eq_true c14
            try have c14b2 : (9223372036854775807 < t614.size + ((rd_T98 t609 x18_2).f0).size) = False := eq_false (Nat.not_lt.2 c14)
            obtain ⟨y615, hy615⟩ : ∃ y_ : ByteArray, y_ = (t614 ++ ((rd_T98 t609 x18_2).f0)) := ⟨_, rfl⟩
            replace H : (if x4_2.size + y615.size ≤ 9223372036854775807 then (num_DurationText.l0 k2 (Int.tmod x3_2 (IntKind.u64.wrap ((rd_T98 t609 x18_2).f1))) (x4_2 ++ y615) t609 (t609.length : Int) (wrap64 (x18_2 + 1))) else (none)) = some r := by first | (rw [hy615]; with_reducible exact H) | (have H2_ := (Option.bind_some _ _).symm.trans H; rw [hy615]; with_reducible exact H2_) | (have H2_ := (Option.bind_some _ _).symm.trans H; with_reducible exact H2_) | with_reducible exact H | (rw [hy615]; exact H) | exact H
            have Ny615 := Aside0.mk hy615
            clear hy615
            by_cases c15 : x4_2.size + y615.size ≤ 9223372036854775807
            ·
             rw [if_pos c15] at H
             have c15b0 := eq_true c15
             have c15b1 : decide (x4_2.size + y615.size ≤ 9223372036854775807) = true := decide_eq_true c15
             try have c15b2 : (9223372036854775807 < x4_2.size + y615.size) = False := eq_false (Nat.not_lt.2 c15)
             obtain ⟨y616, hy616⟩ : ∃ y_ : ByteArray, y_ = (x4_2 ++ y615) := ⟨_, rfl⟩
             replace H : (num_DurationText.l0 k2 (Int.tmod x3_2 (IntKind.u64.wrap ((rd_T98 t609 x18_2).f1))) y616 t609 (t609.length : Int) (wrap64 (x18_2 + 1))) = some r := by first | (rw [hy616]; with_reducible exact H) | (have H2_ := (Option.bind_some _ _).symm.trans H; rw [hy616]; with_reducible exact H2_) | (have H2_ := (Option.bind_some _ _).symm.trans H; with_reducible exact H2_) | with_reducible exact H | (rw [hy616]; exact H) | exact H
             have Ny616 := Aside0.mk hy616
             clear hy616
             have H' := Aside0.mk H
             clear H
             have p612 : 0 ≤ (x18_2 : Int) := of_decide_eq_true (by first | (with_reducible assumption) | assumption)
             have q612 : x18_2 < (t609.length : Int) := of_decide_eq_true (by first | (with_reducible assumption) | assumption)
             obtain ⟨ad612, e612, hx612_0, hx612_1⟩ := at_T98 (Kd.R_reads' HO_16.out).2.2 x18_2 p612 q612
             cases e612
             replace p612 := eq_true p612
             replace q612 := eq_true q612
             try go_wp2_with (first | ((with_reducible refine gate_dst (N := 6) rfl ?_); refine box_event ?hg (N := 6) ?hd (cs := #[.string (⟨#[]⟩ : ByteArray), .int .i64 0]) (t := 98) ?hr ?_; (case hd => rfl); (case hg => rfl); (case hr => first | (go_simp; done) | (go_simp; rfl)); intro gb613 hg w16 hbox hb; replace HO_16 := Aside0.mk (Kd.R_below (Kd.R_elderB (rk HO_16) gb613 (Nat.le_of_eq hg.symm)) hb); have BK613 := Aside0.mk (hbox); have GW613 := Aside0.mk ((by rw [hg]; exact (below_size (lk HB)) : w.heap.size ≤ gb613)); have GE613 := Aside0.mk ((by rw [hg]; exact (below_size (lk HB)) : w.heap.size ≤ gb613)); replace HB := lb HB hb; clear hb hbox hg; have hcz17_0 : w16.cell? ⟨gb613, 0, none⟩ = some (.string (⟨#[]⟩ : ByteArray)) := (blk_cell BK613.out 0).trans rfl; have hcz17_1 : w16.cell? ⟨gb613, 1, none⟩ = some (.int .i64 0) := (blk_cell BK613.out 1).trans rfl; have hfz17_0 := blk_frozen BK613.out 0; have hfz17_1 := blk_frozen BK613.out 1))
             (first | refine Hd.letter_ (fun w18 hw => ?_) | refine Hd.letterL_ (fun w18 hw => ?_) | refine Hd.letterE_ (fun w18 hw => ?_))
             have n0_ : Aside0 (Kd.R k98 98 w18 w.heap.size (fun k_ => k_ ≠ gb613) (.slice (some ad612) t609.length co7) t609) := ⟨by rw [hw]; exact (by (with_reducible repeat (first | apply Kd.R_alloc | apply Kd.R_drewN | apply Kd.R_drew)); exact Kd.R_mono (Kd.R_far (p := ⟨gb613, 1, none⟩) (Kd.R_far (p := ⟨gb613, 0, none⟩) (Kd.R_mono HO_16.out (fun k_ hk => (⟨hk, hk.2⟩ : _ ∧ k_ ≠ gb613))) (fun _ hk => hk.2) (.string ((rd_T98 t609 x18_2).f0))) (fun _ hk => hk.2) (.int .i64 ((rd_T98 t609 x18_2).f1))) (fun _ hk => hk.1.2))⟩
             have n1_ : Aside0 (w18.heap[gb613]? = some (.cells #[.string ((rd_T98 t609 x18_2).f0), .int .i64 ((rd_T98 t609 x18_2).f1)] 98 (0, 0))) := ⟨by rw [hw]; exact (by (with_reducible repeat (first | refine blk_drewN ?_ _ | refine blk_drew ?_ | refine blk_alloc ?_ _)); refine blk_put (cs := #[.string ((rd_T98 t609 x18_2).f0), .int .i64 0]) ?_ 1 _ rfl; (with_reducible repeat (first | refine blk_drewN ?_ _ | refine blk_drew ?_ | refine blk_alloc ?_ _)); refine blk_put (cs := #[.string (⟨#[]⟩ : ByteArray), .int .i64 0]) ?_ 0 _ rfl; (with_reducible repeat (first | refine blk_drewN ?_ _ | refine blk_drew ?_ | refine blk_alloc ?_ _)); exact BK613.out)⟩
             have n2_ : Aside0 (Below w.heap.size w w18) := ⟨by rw [hw]; exact (lk HB)⟩
             clear hw
             (try clear HO_16)
             (try clear BK613)
             (try clear HB)
             have HO_16 := n0_
             have BK613 := n1_
             have HB := n2_
             clear n0_ n1_ n2_
             have n0_ := Aside0.mk (Kd.R_drew HO_16.out)
             have n1_ := Aside0.mk (blk_drew BK613.out)
             have n2_ := Aside0.mk (below_drew1 HB.out)
             clear HO_16
             clear BK613
             clear HB
             have HO_16 := n0_
             have BK613 := n1_
             have HB := n2_
             clear n0_ n1_ n2_
             refine start_ (n := 9) (S := fun w' => w'.cell? ⟨gb613, 0, none⟩ = some (.string ((rd_T98 t609 x18_2).f0)) ∧ w'.cell? ⟨gb613, 1, none⟩ = some (.int .i64 ((rd_T98 t609 x18_2).f1))) (ds := []) #[false, false, false, false, false, false, false, false, false] (by kernel_rfl) rfl rfl ⟨(blk_cell BK613.out 0).trans rfl, (blk_cell BK613.out 1).trans rfl⟩ (fun hHeld => ?_); refine with_tabW num_DurationText.tab11 num_DurationText.bits11 (fun HT_ HW_ => ?_)
             generalize w18.drew = w19 at HO_16 BK613 HB hHeld ⊢
             refine pure_ (i := 0) (N := some 29) (v := ?_) (a' := ?_) #[true, false, false, false, false, false, false, false, false] rfl rfl (any_of HT_.out (by kernel_rfl)) (fun _ _ _ h => h) (Or.inl ⟨by rfl, ?_⟩) ?_ ?_
             rotate_left
             ·
              intro w'
              go_simp
              with_reducible rfl
             rotate_left
             ·
              simp only [Act.put, List.setIfInBounds_toArray, List.set_cons_zero, List.set_cons_succ, i64_w, i32_w]
              rfl
             refine pure_ (i := 1) (N := some 30) (v := ?_) (a' := ?_) #[true, true, false, false, false, false, false, false, false] rfl rfl (any_of HT_.out (by kernel_rfl)) (fun _ _ _ h => h) (Or.inl ⟨by rfl, ?_⟩) ?_ ?_
             rotate_left
             ·
              intro w'
              go_simp
              with_reducible rfl
             rotate_left
             ·
              simp only [Act.put, List.setIfInBounds_toArray, List.set_cons_zero, List.set_cons_succ, i64_w, i32_w]
              rfl
             refine pure_ (i := 2) (N := some 31) (v := ?_) (a' := ?_) #[true, true, true, false, false, false, false, false, false] rfl rfl (any_of HT_.out (by kernel_rfl)) (fun _ _ _ h => h) (Or.inl ⟨by rfl, ?_⟩) ?_ ?_
             rotate_left
             ·
              intro w'
              go_simp
              with_reducible rfl
             rotate_left
             ·
              simp only [Act.put, List.setIfInBounds_toArray, List.set_cons_zero, List.set_cons_succ, i64_w, i32_w]
              rfl
             refine pure_ (i := 4) (N := some 33) (v := ?_) (a' := ?_) #[true, true, true, false, true, false, false, false, false] rfl rfl (any_of HT_.out (by kernel_rfl)) (fun _ _ _ h => h) (Or.inl ⟨by rfl, ?_⟩) ?_ ?_
             rotate_left
             ·
              intro w'
              go_simp
              with_reducible rfl
             rotate_left
             ·
              simp only [Act.put, List.setIfInBounds_toArray, List.set_cons_zero, List.set_cons_succ, i64_w, i32_w]
              rfl
             refine take_ (i := 5) (N := some 34) (v := ?_) (a' := ?_) #[true, true, true, false, true, true, false, false, false] rfl rfl (take_ofW HT_.out HW_.out (by kernel_rfl)) (fun _ _ _ h => h) (Or.inl ⟨by rfl, ?_⟩) hHeld ?_ ?_
             rotate_left
             ·
              rintro w' ⟨s0, s1⟩
              go_simp
              with_reducible rfl
             rotate_left
             ·
              simp only [Act.put, List.setIfInBounds_toArray, List.set_cons_zero, List.set_cons_succ, i64_w, i32_w]
              rfl
             refine one_ (i := 3) (N := some 32) #[true, true, true, true, true, true, false, false, false] rfl rfl (one_of HT_.out (by kernel_rfl)) (by decide) (fun K hK => ?_)
             refine goes_ Tryd.func26 (by kernel_rfl) rfl #[.int .i64 (wrap64 (IntKind.u64.wrap (Int.tdiv x3_2 (IntKind.u64.wrap ((rd_T98 t609 x18_2).f1)))))] (by rfl) rfl rfl (by (try simp only [List.map_toArray, List.map_cons, List.map_nil]); first | done | rfl | (simp only [List.length_drop, List.length_take]; rfl) | (simp [Act.eval, Hd.wrap_u8]; done)) ?_
             with_reducible refine (Hd.num_IntText.calls (wrap64 (IntKind.u64.wrap (Int.tdiv x3_2 (IntKind.u64.wrap ((rd_T98 t609 x18_2).f1))))) t614 _ A13.out).mono ?_
             rintro e w20 ⟨rfl, hb⟩
             refine ⟨_, rfl, ?_⟩
             have n0_ := Aside0.mk (Kd.R_below (rk HO_16) hb)
             have n1_ := bb BK613 hb
             have n2_ := lb HB hb
             clear HO_16
             clear BK613
             clear HB
             have HO_16 := n0_
             have BK613 := n1_
             have HB := n2_
             clear n0_ n1_ n2_
             (try clear hb)
             (try clear hb2)
             (try clear hk)
             (try clear hi)
             have hcs21 := Hd.str_cat (P := Tryd.prog) (s := t614) (t := ((rd_T98 t609 x18_2).f0)) (y := y615) (by first | (with_reducible assumption) | assumption | exact of_eq_true (by assumption) | omega) Ny615.out
             have hcs21' := Hd.str_cat' (P := Tryd.prog) (s := t614) (t := ((rd_T98 t609 x18_2).f0)) (y := y615) (by first | (with_reducible assumption) | assumption | exact of_eq_true (by assumption) | omega) Ny615.out
             have hcs22 := Hd.str_cat (P := Tryd.prog) (s := x4_2) (t := y615) (y := y616) (by first | (with_reducible assumption) | assumption | exact of_eq_true (by assumption) | omega) Ny616.out
             have hcs22' := Hd.str_cat' (P := Tryd.prog) (s := x4_2) (t := y615) (y := y616) (by first | (with_reducible assumption) | assumption | exact of_eq_true (by assumption) | omega) Ny616.out
             refine hK.out _ _ ⟨(blk_cell BK613.out 0).trans rfl, (blk_cell BK613.out 1).trans rfl⟩ (fun hHeld => ?_)
             clear hK K
             refine norm_ (a' := ?_) ?_ ?_
             rotate_left
             ·
              show Act.put _ (some 32) _ = _
              simp only [Act.put, List.setIfInBounds_toArray, List.set_cons_zero, List.set_cons_succ, i64_w, i32_w]
              rfl
             refine pure_ (i := 6) (N := some 35) (v := ?_) (a' := ?_) #[true, true, true, true, true, true, true, false, false] rfl rfl (any_of HT_.out (by kernel_rfl)) (fun _ _ _ h => h) (Or.inl ⟨by rfl, ?_⟩) ?_ ?_
             rotate_left
             ·
              intro w'
              go_simp
              with_reducible rfl
             rotate_left
             ·
              simp only [Act.put, List.setIfInBounds_toArray, List.set_cons_zero, List.set_cons_succ, i64_w, i32_w]
              rfl
             refine pure_ (i := 7) (N := some 36) (v := ?_) (a' := ?_) #[true, true, true, true, true, true, true, true, false] rfl rfl (any_of HT_.out (by kernel_rfl)) (fun _ _ _ h => h) (Or.inl ⟨by rfl, ?_⟩) ?_ ?_
             rotate_left
             ·
              intro w'
              go_simp
              with_reducible rfl
             rotate_left
             ·
              simp only [Act.put, List.setIfInBounds_toArray, List.set_cons_zero, List.set_cons_succ, i64_w, i32_w]
              rfl
             refine pure_ (i := 8) (N := some 4) (v := ?_) (a' := ?_) #[true, true, true, true, true, true, true, true, true] rfl rfl (any_of HT_.out (by kernel_rfl)) (fun _ _ _ h => h) (Or.inl ⟨by rfl, ?_⟩) ?_ ?_
             rotate_left
             ·
              intro w'
              go_simp
              with_reducible rfl
             rotate_left
             ·
              simp only [Act.put, List.setIfInBounds_toArray, List.set_cons_zero, List.set_cons_succ, i64_w, i32_w]
              rfl
             refine done_ (done_of HT_.out (by kernel_rfl)) ?_
             have hcz23_0 : w20.cell? ⟨gb613, 0, none⟩ = some (.string ((rd_T98 t609 x18_2).f0)) := (blk_cell BK613.out 0).trans rfl
             have hcz23_1 : w20.cell? ⟨gb613, 1, none⟩ = some (.int .i64 ((rd_T98 t609 x18_2).f1)) := (blk_cell BK613.out 1).trans rfl
             have hfz23_0 := blk_frozen BK613.out 0
             have hfz23_1 := blk_frozen BK613.out 1
             try go_wp2
             go_roundg k2
             case measure => have := HJ2.out; have := HK2.out; omega
             case rel => exact ⟨(Int.tmod x3_2 (IntKind.u64.wrap ((rd_T98 t609 x18_2).f1))), (y616), (wrap64 (x18_2 + 1)), (by first | rfl | (simp; done) | (simp [*]; done)), (by first | rfl | (simp; done) | (simp [*]; done)), (by first | rfl | (simp; done) | (simp [*]; done)), H', ⟨by have := HJ2.out; have := HK2.out; omega⟩, ⟨by (with_reducible repeat (first | apply Kd.R_alloc | apply Kd.R_drewN | apply Kd.R_drew)); exact Kd.R_mono HO_16.out (fun _ hk => trivial)⟩, ⟨lk HB⟩⟩
            ·
             rw [if_neg c15] at H
             exact absurd H (by simp)
           ·
            rw [if_neg c14] at H
            exact absurd H (by simp)
          ·
           rw [if_neg c12] at H
           have c12b0 : decide (0 < (IntKind.u64.wrap (Int.tdiv x3_2 (IntKind.u64.wrap ((rd_T98 t609 x18_2).f1))))) = false := decide_eq_false c12
           clear c12
           have H' := Aside0.mk H
           clear H
           have p612 : 0 ≤ (x18_2 : Int) := of_decide_eq_true (by first | (with_reducible assumption) | assumption)
           have q612 : x18_2 < (t609.length : Int) := of_decide_eq_true (by first | (with_reducible assumption) | assumption)
           obtain ⟨ad612, e612, hx612_0, hx612_1⟩ := at_T98 (Kd.R_reads' HO_16.out).2.2 x18_2 p612 q612
           cases e612
           replace p612 := eq_true p612
           replace q612 := eq_true q612
           go_wp2_with (first | ((with_reducible refine gate_dst (N := 6) rfl ?_); refine box_event ?hg (N := 6) ?hd (cs := #[.string (⟨#[]⟩ : ByteArray), .int .i64 0]) (t := 98) ?hr ?_; (case hd => rfl); (case hg => rfl); (case hr => first | (go_simp; done) | (go_simp; rfl)); intro gb613 hg w24 hbox hb; replace HO_16 := Aside0.mk (Kd.R_below (Kd.R_elderB (rk HO_16) gb613 (Nat.le_of_eq hg.symm)) hb); have BK613 := Aside0.mk (hbox); have GW613 := Aside0.mk ((by rw [hg]; exact (below_size (lk HB)) : w.heap.size ≤ gb613)); have GE613 := Aside0.mk ((by rw [hg]; exact (below_size (lk HB)) : w.heap.size ≤ gb613)); replace HB := lb HB hb; clear hb hbox hg; have hcz25_0 : w24.cell? ⟨gb613, 0, none⟩ = some (.string (⟨#[]⟩ : ByteArray)) := (blk_cell BK613.out 0).trans rfl; have hcz25_1 : w24.cell? ⟨gb613, 1, none⟩ = some (.int .i64 0) := (blk_cell BK613.out 1).trans rfl; have hfz25_0 := blk_frozen BK613.out 0; have hfz25_1 := blk_frozen BK613.out 1))
           go_roundg k2
           case measure => have := HJ2.out; have := HK2.out; omega
           case rel => exact ⟨(x3_2), (x4_2), (wrap64 (x18_2 + 1)), (by first | rfl | (simp; done) | (simp [*]; done)), (by first | rfl | (simp; done) | (simp [*]; done)), (by first | rfl | (simp; done) | (simp [*]; done)), H', ⟨by have := HJ2.out; have := HK2.out; omega⟩, ⟨by (with_reducible repeat (first | apply Kd.R_alloc | apply Kd.R_drewN | apply Kd.R_drew)); exact Kd.R_mono (Kd.R_far (p := ⟨gb613, 1, none⟩) (Kd.R_far (p := ⟨gb613, 0, none⟩) (Kd.R_mono HO_16.out (fun k_ hk => (⟨hk, hk.2⟩ : _ ∧ k_ ≠ gb613))) (fun _ hk => hk.2) (.string ((rd_T98 t609 x18_2).f0))) (fun _ hk => hk.2) (.int .i64 ((rd_T98 t609 x18_2).f1))) (fun _ hk => trivial)⟩, ⟨lk HB⟩⟩
        ·
         rw [if_neg c10] at H
         exact absurd H (by simp)
       ·
        rw [if_neg c9] at H
        exact absurd H (by simp)
      ·
       rw [if_neg c8] at H
       have c8b0 : decide (x18_2 < (t609.length : Int)) = false := decide_eq_false c8
       clear c8
       obtain rfl := Option.some.inj H
       go_wp2
       go_ret
       exact ex (lk HB)


/-! ### vigillaw03_wakes: function 17 -/
def vigillaw03_wakes.f (k : Nat)  : Option (Bool) := (num_Parse.f k (⟨#[50, 46, 53, 101, 45, 49]⟩ : ByteArray)).bind fun bt617 => (if bt617.2 = 0 then (if (FloatKind.f64.format.order bt617.1 4598175219545276416 == some Ordering.eq) = true then ((num_Text.f k 4591870180066957722).bind fun t619 => (if t619.toList = ([48, 46, 49] : List UInt8) then ((num_DurationText.f k 90000).bind fun t620 => (some (t620.toList == ([49, 109, 51, 48, 115] : List UInt8)))) else (some false))) else (some false)) else (some false))
theorem vigillaw03_wakes.mono : ∀ k, LeO (vigillaw03_wakes.f k ) (vigillaw03_wakes.f (k + 1) ) := by
 intro  k
 unfold vigillaw03_wakes.f
 repeat' first | (with_reducible exact num_DurationText.mono _ _) | (with_reducible exact num_Parse.mono _ _) | (with_reducible exact num_Text.mono _ _) | (with_reducible exact LeO.refl _) | (with_reducible exact LeO.none _) | (with_reducible refine LeO.ite ?_ ?_) | (with_reducible refine LeO.bind ?_ (fun _ => ?_))
set_option maxHeartbeats 8000000 in
set_option maxRecDepth 100000 in
theorem vigillaw03_wakes.calls (k : Nat)  (r : Bool) (w : World) (h : vigillaw03_wakes.f k  = some r) :
  Calls Tryd.prog 17 #[] w fun e w' => e = .returned (.bool r) ∧ Below w.heap.size w w' := by
 have HB := Aside0.mk (Below.refl w.heap.size w)
 have H : ((num_Parse.f k (⟨#[50, 46, 53, 101, 45, 49]⟩ : ByteArray)).bind fun bt617 => (if bt617.2 = 0 then (if (FloatKind.f64.format.order bt617.1 4598175219545276416 == some Ordering.eq) = true then ((num_Text.f k 4591870180066957722).bind fun t619 => (if t619.toList = ([48, 46, 49] : List UInt8) then ((num_DurationText.f k 90000).bind fun t620 => (some (t620.toList == ([49, 109, 51, 48, 115] : List UInt8)))) else (some false))) else (some false)) else (some false))) = some r := h
 clear h
 replace H := Option.bind_eq_some_iff.mp H
 obtain ⟨⟨t617, t618⟩, A10, H⟩ := H
 replace H : (if t618 = 0 then (if (FloatKind.f64.format.order t617 4598175219545276416 == some Ordering.eq) = true then ((num_Text.f k 4591870180066957722).bind fun t619 => (if t619.toList = ([48, 46, 49] : List UInt8) then ((num_DurationText.f k 90000).bind fun t620 => (some (t620.toList == ([49, 109, 51, 48, 115] : List UInt8)))) else (some false))) else (some false)) else (some false)) = some r := H
 have A1 := Aside0.mk A10
 clear A10
 by_cases c2 : t618 = 0
 ·
  rw [if_pos c2] at H
  have c2b0 : (t618 == 0) = true := beq_iff_eq.mpr c2
  have c2b1 : (t618 != 0) = false := bne_eq_false_iff_eq.mpr c2
  clear c2
  by_cases c3 : (FloatKind.f64.format.order t617 4598175219545276416 == some Ordering.eq) = true
  ·
   rw [if_pos c3] at H
   have c3b0 : (FloatKind.f64.format.order t617 4598175219545276416 == some Ordering.eq) = true := c3
   (try (have c3b1 : decide (FloatKind.f64.format.order t617 4598175219545276416 = some Ordering.eq) = true := by simpa using c3))
   (try (have c3b2 : (FloatKind.f64.format.order t617 4598175219545276416 == some Ordering.eq) = true := by simpa using c3))
   clear c3
   replace H := Option.bind_eq_some_iff.mp H
   obtain ⟨t619, A40, H⟩ := H
   replace H : (if t619.toList = ([48, 46, 49] : List UInt8) then ((num_DurationText.f k 90000).bind fun t620 => (some (t620.toList == ([49, 109, 51, 48, 115] : List UInt8)))) else (some false)) = some r := H
   have A4 := Aside0.mk A40
   clear A40
   by_cases c5 : t619.toList = ([48, 46, 49] : List UInt8)
   ·
    rw [if_pos c5] at H
    have c5b0 : (t619.toList == ([48, 46, 49] : List UInt8)) = true := beq_iff_eq.mpr c5
    have c5b1 : (t619.toList != ([48, 46, 49] : List UInt8)) = false := bne_eq_false_iff_eq.mpr c5
    clear c5
    replace H := Option.bind_eq_some_iff.mp H
    obtain ⟨t620, A60, H⟩ := H
    replace H : (some (t620.toList == ([49, 109, 51, 48, 115] : List UInt8))) = some r := H
    have A6 := Aside0.mk A60
    clear A60
    obtain rfl := Option.some.inj H
    go_enter Tryd.func17, Tryd.ntmps17
    go_wp2_with (first | ((with_reducible refine gate_callee (f := 18) rfl ?_); refine gL (some 4) Tryd.func18 #[.string (⟨#[50, 46, 53, 101, 45, 49]⟩ : ByteArray)] ?_; (with_reducible refine (num_Parse.calls k (⟨#[50, 46, 53, 101, 45, 49]⟩ : ByteArray) t617 t618 _ A1.out).mono ?_); rintro e w7 ⟨rfl, hb⟩; refine ⟨_, rfl, ?_⟩; replace HB := lb HB hb; (try clear hb); (try clear hb2); (try clear hk); (try clear hi)) | (go_at_call 15; (with_reducible refine (num_Text.calls k 4591870180066957722 t619 _ A4.out).mono ?_); rintro e w8 ⟨rfl, hb⟩; replace HB := lb HB hb; (try clear hb); (try clear hb2); (try clear hk); (try clear hi)) | (go_at_call 38; (with_reducible refine (num_DurationText.calls k 90000 t620 _ A6.out).mono ?_); rintro e w9 ⟨rfl, hb⟩; replace HB := lb HB hb; (try clear hb); (try clear hb2); (try clear hk); (try clear hi)))
    go_ret
    exact ex (lk HB)
   ·
    rw [if_neg c5] at H
    have c5b0 : (t619.toList == ([48, 46, 49] : List UInt8)) = false := beq_eq_false_iff_ne.mpr c5
    have c5b1 : (t619.toList != ([48, 46, 49] : List UInt8)) = true := bne_iff_ne.mpr c5
    obtain rfl := Option.some.inj H
    go_enter Tryd.func17, Tryd.ntmps17
    go_wp2_with (first | ((with_reducible refine gate_callee (f := 18) rfl ?_); refine gL (some 4) Tryd.func18 #[.string (⟨#[50, 46, 53, 101, 45, 49]⟩ : ByteArray)] ?_; (with_reducible refine (num_Parse.calls k (⟨#[50, 46, 53, 101, 45, 49]⟩ : ByteArray) t617 t618 _ A1.out).mono ?_); rintro e w10 ⟨rfl, hb⟩; refine ⟨_, rfl, ?_⟩; replace HB := lb HB hb; (try clear hb); (try clear hb2); (try clear hk); (try clear hi)) | (go_at_call 15; (with_reducible refine (num_Text.calls k 4591870180066957722 t619 _ A4.out).mono ?_); rintro e w11 ⟨rfl, hb⟩; replace HB := lb HB hb; (try clear hb); (try clear hb2); (try clear hk); (try clear hi)))
    go_ret
    exact ex (lk HB)
  ·
   rw [if_neg c3] at H
   have c3b0 : (FloatKind.f64.format.order t617 4598175219545276416 == some Ordering.eq) = false := by simpa using c3
   (try (have c3b1 : decide (FloatKind.f64.format.order t617 4598175219545276416 = some Ordering.eq) = false := by simpa using c3))
   (try (have c3b2 : (FloatKind.f64.format.order t617 4598175219545276416 == some Ordering.eq) = false := by simpa using c3))
   (try (have c3b3 : ¬ (FloatKind.f64.format.order t617 4598175219545276416 = some Ordering.eq) := by simpa using c3))
   clear c3
   obtain rfl := Option.some.inj H
   go_enter Tryd.func17, Tryd.ntmps17
   go_wp2_with (first | ((with_reducible refine gate_callee (f := 18) rfl ?_); refine gL (some 4) Tryd.func18 #[.string (⟨#[50, 46, 53, 101, 45, 49]⟩ : ByteArray)] ?_; (with_reducible refine (num_Parse.calls k (⟨#[50, 46, 53, 101, 45, 49]⟩ : ByteArray) t617 t618 _ A1.out).mono ?_); rintro e w12 ⟨rfl, hb⟩; refine ⟨_, rfl, ?_⟩; replace HB := lb HB hb; (try clear hb); (try clear hb2); (try clear hk); (try clear hi)))
   go_ret
   exact ex (lk HB)
 ·
  rw [if_neg c2] at H
  have c2b0 : (t618 == 0) = false := beq_eq_false_iff_ne.mpr c2
  have c2b1 : (t618 != 0) = true := bne_iff_ne.mpr c2
  obtain rfl := Option.some.inj H
  go_enter Tryd.func17, Tryd.ntmps17
  go_wp2_with (first | ((with_reducible refine gate_callee (f := 18) rfl ?_); refine gL (some 4) Tryd.func18 #[.string (⟨#[50, 46, 53, 101, 45, 49]⟩ : ByteArray)] ?_; (with_reducible refine (num_Parse.calls k (⟨#[50, 46, 53, 101, 45, 49]⟩ : ByteArray) t617 t618 _ A1.out).mono ?_); rintro e w13 ⟨rfl, hb⟩; refine ⟨_, rfl, ?_⟩; replace HB := lb HB hb; (try clear hb); (try clear hb2); (try clear hk); (try clear hi)))
  go_ret
  exact ex (lk HB)

end Go.Proofs.YtjlnfnfdibfniaaDoor.F

/- What the laws end with: a float is written, and read. -/
namespace Go.Proofs.YtjlnfnfdibfniaaDoor.Pl
theorem wakes : F.vigillaw03_wakes.f 400 = some true := by kernel_rfl
end Go.Proofs.YtjlnfnfdibfniaaDoor.Pl

-- Written by a program of this session (wip/vprint.py): Lean checks it.
namespace Go.Proofs.YtjlnfnfdibfniaaDoor.F
open Go.RowKit Go.Proofs.YtjlnfnfdibfniaaDoorW.PrintWords Go.Proofs.YtjlnfnfdibfniaaDoorW.PrintLast Go.Proofs.YtjlnfnfdibfniaaDoorW.PrintMore
attribute [local go_sem] max2_int min2_int max_two min_two max_three min_three max_four min_four   -- for this text's walks alone
set_option linter.unusedVariables false
set_option linter.unusedSimpArgs false

/-! ### vigilkeep_Bits: function 20 -/
def vigilkeep_Bits.f (a0 : Nat) (a1 : Nat) : Option (Bool) := some ((a0 : Int) == (a1 : Int))
set_option maxHeartbeats 8000000 in
set_option maxRecDepth 100000 in
theorem vigilkeep_Bits.calls (a0 : Nat) (a1 : Nat) (r : Bool) (w : World) (h : vigilkeep_Bits.f a0 a1 = some r) :
  Calls Tryd.prog 20 #[.float .f64 a0, .float .f64 a1] w fun e w' => e = .returned (.bool r) ∧ Drawn0 w w' := by
 have H : (some ((a0 : Int) == (a1 : Int))) = some r := h
 clear h
 obtain rfl := Option.some.inj H
 have hext0 := Hd.ext54
 go_enter Tryd.func20, Tryd.ntmps20
 go_wp2
 go_ret
 exact ⟨by first | rfl | (simp; done) | (simp [*]; done), by repeat (first | exact Drawn0.refl _ | apply Drawn0.step)⟩


/-! ### vigilkeep_Within: function 21 -/
def vigilkeep_Within.f (a0 : Int) (a1 : Int) : Option (Int) := if a1 = 0 then (none) else (if (Int.tmod a0 a1) < 0 then (some (wrap64 ((Int.tmod a0 a1) + a1))) else (some (Int.tmod a0 a1)))
set_option maxHeartbeats 8000000 in
set_option maxRecDepth 100000 in
theorem vigilkeep_Within.calls (a0 : Int) (a1 : Int) (r : Int) (w : World) (h : vigilkeep_Within.f a0 a1 = some r) :
  Calls Tryd.prog 21 #[.int .i64 a0, .int .i64 a1] w fun e w' => e = .returned (.int .i64 r) ∧ Drawn0 w w' := by
 have H : (if a1 = 0 then (none) else (if (Int.tmod a0 a1) < 0 then (some (wrap64 ((Int.tmod a0 a1) + a1))) else (some (Int.tmod a0 a1)))) = some r := h
 clear h
 by_cases c3 : a1 = 0
 ·
  rw [if_pos c3] at H
  exact absurd H (by simp)
 ·
  rw [if_neg c3] at H
  have c3b0 : (a1 == 0) = false := beq_eq_false_iff_ne.mpr c3
  have c3b1 : (a1 != 0) = true := bne_iff_ne.mpr c3
  by_cases c4 : (Int.tmod a0 a1) < 0
  ·
   rw [if_pos c4] at H
   have c4b0 : decide ((Int.tmod a0 a1) < 0) = true := decide_eq_true c4
   clear c4
   obtain rfl := Option.some.inj H
   go_enter Tryd.func21, Tryd.ntmps21
   go_wp2
   go_ret
   exact ⟨by first | rfl | (simp; done) | (simp [*]; done), by repeat (first | exact Drawn0.refl _ | apply Drawn0.step)⟩
  ·
   rw [if_neg c4] at H
   have c4b0 : decide ((Int.tmod a0 a1) < 0) = false := decide_eq_false c4
   clear c4
   obtain rfl := Option.some.inj H
   go_enter Tryd.func21, Tryd.ntmps21
   go_wp2
   go_ret
   exact ⟨by first | rfl | (simp; done) | (simp [*]; done), by repeat (first | exact Drawn0.refl _ | apply Drawn0.step)⟩


/-! ### vigillaw03_digits: function 22 -/
mutual
def vigillaw03_digits.l0 : Nat → Int → Int → List Int → Option (ByteArray)
 | 0, _, _, _ => none
 | k + 1, x0, x1, x5 => if x0 > 0 then (if x5.length < 17592186044416 then (vigillaw03_digits.l0 k (IntKind.u64.wrap (Int.tdiv x0 10)) x1 (x5 ++ [wrap64 (Int.tmod x0 10)])) else (none)) else (vigillaw03_digits.l1 k x1 x5 0)
def vigillaw03_digits.l1 : Nat → Int → List Int → Int → Option (ByteArray)
 | 0, _, _, _ => none
 | k + 1, x1, x5, x6 => if x6 < x1 then (vigillaw03_digits.l2 k x1 x5 x6 0 0) else (vigillaw03_digits.l3 k x5 (⟨#[]⟩ : ByteArray) (wrap64 ((x5.length : Int) - 1)))
def vigillaw03_digits.l2 : Nat → Int → List Int → Int → Int → Int → Option (ByteArray)
 | 0, _, _, _, _, _ => none
 | k + 1, x1, x5, x6, x7, x8 => if x8 < (x5.length : Int) then (if 0 ≤ x8 then (vigillaw03_digits.l2 k x1 (x5.set (x8 : Int).toNat (Int.tmod (wrap64 ((wrap64 (2 * (rd x5 x8))) + x7)) 10)) x6 (wrap64 (Int.tdiv (wrap64 ((wrap64 (2 * (rd x5 x8))) + x7)) 10)) (wrap64 (x8 + 1))) else (none)) else (if x7 > 0 then (if x5.length < 17592186044416 then (vigillaw03_digits.l1 k x1 (x5 ++ [x7]) (wrap64 (x6 + 1))) else (none)) else (vigillaw03_digits.l1 k x1 x5 (wrap64 (x6 + 1))))
def vigillaw03_digits.l3 : Nat → List Int → ByteArray → Int → Option (ByteArray)
 | 0, _, _, _ => none
 | k + 1, x5, x10, x11 => if x11 ≥ 0 then (if 0 ≤ x11 then (if x11 < (x5.length : Int) then ((some (([(wrap64 (48 + (rd x5 x11))) % 256] : List Int) : List Int)).bind fun y682 => (if x10.size + (strOfNums y682).size ≤ 9223372036854775807 then (vigillaw03_digits.l3 k x5 (x10 ++ (strOfNums y682)) (wrap64 (x11 - 1))) else (none))) else (none)) else (none)) else (some x10)
end
def vigillaw03_digits.f (k : Nat) (a0 : Int) (a1 : Int) : Option (ByteArray) := vigillaw03_digits.l0 k a0 a1 ([] : List Int)
theorem vigillaw03_digits.mono_l : ∀ k, (∀ y0 y1 y2, LeO (vigillaw03_digits.l0 k y0 y1 y2) (vigillaw03_digits.l0 (k + 1) y0 y1 y2)) ∧ (∀ y0 y1 y2, LeO (vigillaw03_digits.l1 k y0 y1 y2) (vigillaw03_digits.l1 (k + 1) y0 y1 y2)) ∧ (∀ y0 y1 y2 y3 y4, LeO (vigillaw03_digits.l2 k y0 y1 y2 y3 y4) (vigillaw03_digits.l2 (k + 1) y0 y1 y2 y3 y4)) ∧ (∀ y0 y1 y2, LeO (vigillaw03_digits.l3 k y0 y1 y2) (vigillaw03_digits.l3 (k + 1) y0 y1 y2))
 | 0 => ⟨fun _ _ _ r h => by simp [vigillaw03_digits.l0] at h, fun _ _ _ r h => by simp [vigillaw03_digits.l1] at h, fun _ _ _ _ _ r h => by simp [vigillaw03_digits.l2] at h, fun _ _ _ r h => by simp [vigillaw03_digits.l3] at h⟩
 | k + 1 => by
  obtain ⟨ih0, ih1, ih2, ih3⟩ := vigillaw03_digits.mono_l k
  refine ⟨?_, ?_, ?_, ?_⟩
  ·
   intro y0 y1 y2
   unfold vigillaw03_digits.l0
   repeat' first | (with_reducible exact ih0 _ _ _) | (with_reducible exact ih1 _ _ _) | (with_reducible exact ih2 _ _ _ _ _) | (with_reducible exact ih3 _ _ _) | (with_reducible exact LeO.refl _) | (with_reducible exact LeO.none _) | (with_reducible refine LeO.ite ?_ ?_) | (with_reducible refine LeO.bind ?_ (fun _ => ?_))
  ·
   intro y0 y1 y2
   unfold vigillaw03_digits.l1
   repeat' first | (with_reducible exact ih0 _ _ _) | (with_reducible exact ih1 _ _ _) | (with_reducible exact ih2 _ _ _ _ _) | (with_reducible exact ih3 _ _ _) | (with_reducible exact LeO.refl _) | (with_reducible exact LeO.none _) | (with_reducible refine LeO.ite ?_ ?_) | (with_reducible refine LeO.bind ?_ (fun _ => ?_))
  ·
   intro y0 y1 y2 y3 y4
   unfold vigillaw03_digits.l2
   repeat' first | (with_reducible exact ih0 _ _ _) | (with_reducible exact ih1 _ _ _) | (with_reducible exact ih2 _ _ _ _ _) | (with_reducible exact ih3 _ _ _) | (with_reducible exact LeO.refl _) | (with_reducible exact LeO.none _) | (with_reducible refine LeO.ite ?_ ?_) | (with_reducible refine LeO.bind ?_ (fun _ => ?_))
  ·
   intro y0 y1 y2
   unfold vigillaw03_digits.l3
   repeat' first | (with_reducible exact ih0 _ _ _) | (with_reducible exact ih1 _ _ _) | (with_reducible exact ih2 _ _ _ _ _) | (with_reducible exact ih3 _ _ _) | (with_reducible exact LeO.refl _) | (with_reducible exact LeO.none _) | (with_reducible refine LeO.ite ?_ ?_) | (with_reducible refine LeO.bind ?_ (fun _ => ?_))
theorem vigillaw03_digits.mono : ∀ a0 a1 k, LeO (vigillaw03_digits.f k a0 a1) (vigillaw03_digits.f (k + 1) a0 a1) := by
 intro a0 a1 k
 obtain ⟨ih0, ih1, ih2, ih3⟩ := vigillaw03_digits.mono_l k
 unfold vigillaw03_digits.f
 repeat' first | (with_reducible exact ih0 _ _ _) | (with_reducible exact ih1 _ _ _) | (with_reducible exact ih2 _ _ _ _ _) | (with_reducible exact ih3 _ _ _) | (with_reducible exact LeO.refl _) | (with_reducible exact LeO.none _) | (with_reducible refine LeO.ite ?_ ?_) | (with_reducible refine LeO.bind ?_ (fun _ => ?_))
set_option maxHeartbeats 8000000 in
set_option maxRecDepth 100000 in
theorem vigillaw03_digits.calls (k : Nat) (a0 : Int) (a1 : Int) (r : ByteArray) (w : World) (h : vigillaw03_digits.f k a0 a1 = some r) :
  Calls Tryd.prog 22 #[.int .u64 a0, .int .i64 a1] w fun e w' => e = .returned (.string r) ∧ Below w.heap.size w w' := by
 have HB := Aside0.mk (Below.refl w.heap.size w)
 have H : (vigillaw03_digits.l0 k a0 a1 ([] : List Int)) = some r := h
 clear h
 have H' := Aside0.mk H
 clear H
 go_enter Tryd.func22, Tryd.ntmps22
 go_wp2
 go_loopg [0, 5] k (fun kq v0 v5 w' => ∃ (x0_1 : Int) (x5_1 : List Int), v0 = .int .u64 x0_1 ∧ Aside0 (vigillaw03_digits.l0 kq x0_1 a1 x5_1 = some r) ∧ Aside0 (kq ≤ k) ∧ Aside0 (Kd.R (Kd.int .i64) 3 w' w.heap.size (fun _ => True) v5 x5_1) ∧ Aside0 (Below w.heap.size w w'))
 case atStart => exact ⟨(a0), (([] : List Int)), (by first | rfl | (simp; done) | (simp [*]; done)), H', ⟨Nat.le_refl _⟩, ⟨by first | exact Kd.R_nil _ _ _ _ _ | exact Kd.N_nil _ _ _ _ _ | exact Kd.V_nil _ _ _ _ _ | exact Kd.Q_nil _ _ _ _ _ | exact Kd.S_nil _ _ _ _ _⟩, ⟨lk HB⟩⟩
 case round =>
  clear H'
  try clear c2
  try clear p2
  obtain ⟨x0_1, x5_1, rfl, HA, HK1, HO_5, HB⟩ := hrel
  cases gk with
  | zero => exact absurd HA.out (by simp [vigillaw03_digits.l0])
  | succ k1 =>
   have H := HA.out
   clear HA
   simp only [vigillaw03_digits.l0] at H
   by_cases c3 : x0_1 > 0
   ·
    rw [if_pos c3] at H
    have c3b0 : decide (0 < x0_1) = true := decide_eq_true c3
    clear c3
    by_cases c4 : x5_1.length < 17592186044416
    ·
     rw [if_pos c4] at H
     have LMc4 := Aside0.mk c4
     clear c4
     obtain ⟨y673, hy673⟩ : ∃ y_ : List Int, y_ = (x5_1 ++ [wrap64 (Int.tmod x0_1 10)]) := ⟨_, rfl⟩
     replace H : (vigillaw03_digits.l0 k1 (IntKind.u64.wrap (Int.tdiv x0_1 10)) a1 y673) = some r := by first | (rw [hy673]; with_reducible exact H) | (have H2_ := (Option.bind_some _ _).symm.trans H; rw [hy673]; with_reducible exact H2_) | (have H2_ := (Option.bind_some _ _).symm.trans H; with_reducible exact H2_) | with_reducible exact H | (rw [hy673]; exact H) | exact H
     have Ny673 := Aside0.mk hy673
     clear hy673
     have H' := Aside0.mk H
     clear H
     go_wp2_with (first | ((with_reducible refine gate_builtin (b := .append) (xs := #[.tmp 14, .tmp 18]) rfl ?_); at_builtin; refine Kd.R_append (Kd.int .i64) (w0 := w) w.heap.size rfl (.tmp 14) (.tmp 18) 66 3 (.int .i64 0) 8 rfl Tryd.underlying66 info3 rfl (by decide) (by omega) u5 x5_1 (wrap64 (Int.tmod x0_1 10)) [.int .i64 (wrap64 (Int.tmod x0_1 10))] (fun _ => True) (fun _ => False) rfl rfl ?aP (fun _ hk => hk.elim) ?aF ?aO ?aB ?aS ?aL ?_; (case aP => exact rfl); (case aB => exact (lk HB)); (case aF => exact (fun _ _ => trivial)); (case aO => exact (rk HO_5)); (case aS => exact (below_size (lk HB))); (case aL => have := LMc4.out; omega); intro v674 w5 ho hb hg hat; rw [← Ny673.out] at ho; replace HB := Aside0.mk (hb); have HO675 := Aside0.mk (ho); clear HO_5 ho hb hg hat))
     go_roundg k1
     case measure => have := HK1.out; omega
     case rel => exact ⟨(IntKind.u64.wrap (Int.tdiv x0_1 10)), (y673), (by first | rfl | (simp; done) | (simp [*]; done)), H', ⟨by have := HK1.out; omega⟩, ⟨by (with_reducible repeat (first | apply Kd.R_alloc | apply Kd.R_drewN | apply Kd.R_drew)); exact HO675.out⟩, ⟨lk HB⟩⟩
    ·
     rw [if_neg c4] at H
     exact absurd H (by simp)
   ·
    rw [if_neg c3] at H
    have c3b0 : decide (0 < x0_1) = false := decide_eq_false c3
    clear c3
    have H' := Aside0.mk H
    clear H
    go_wp2
    go_loopg [5, 6] k1 (fun kq v5 v6 w' => ∃ (x5_2 : List Int) (x6_2 : Int), v6 = .int .i64 x6_2 ∧ Aside0 (vigillaw03_digits.l1 kq a1 x5_2 x6_2 = some r) ∧ Aside0 (kq ≤ k1) ∧ Aside0 (Kd.R (Kd.int .i64) 3 w' w.heap.size (fun _ => True) v5 x5_2) ∧ Aside0 (Below w.heap.size w w'))
    case atStart => exact ⟨(x5_1), (0), (by first | rfl | (simp; done) | (simp [*]; done)), H', ⟨Nat.le_refl _⟩, ⟨by (with_reducible repeat (first | apply Kd.R_alloc | apply Kd.R_drewN | apply Kd.R_drew)); exact HO_5.out⟩, ⟨lk HB⟩⟩
    case round =>
     clear H'
     try clear c2
     try clear p2
     try clear c3
     try clear c3b0
     try clear c4
     try clear p2
     obtain ⟨x5_2, x6_2, rfl, HA, HK2, HO_5, HB⟩ := hrel
     cases gk with
     | zero => exact absurd HA.out (by simp [vigillaw03_digits.l1])
     | succ k2 =>
      have H := HA.out
      clear HA
      simp only [vigillaw03_digits.l1] at H
      by_cases c6 : x6_2 < a1
      ·
       rw [if_pos c6] at H
       have c6b0 : decide (x6_2 < a1) = true := decide_eq_true c6
       clear c6
       have H' := Aside0.mk H
       clear H
       go_wp2
       go_loopg [7, 8] k2 (fun kq v7 v8 w' => ∃ (x5_3 : List Int) (x7_3 : Int) (x8_3 : Int), v7 = .int .i64 x7_3 ∧ v8 = .int .i64 x8_3 ∧ Aside0 (vigillaw03_digits.l2 kq a1 x5_3 x6_2 x7_3 x8_3 = some r) ∧ Aside0 (kq ≤ k2) ∧ Aside0 (Kd.R (Kd.int .i64) 3 w' w.heap.size (fun _ => True) u5 x5_3) ∧ Aside0 (Below w.heap.size w w'))
       case atStart => exact ⟨(x5_2), (0), (0), (by first | rfl | (simp; done) | (simp [*]; done)), (by first | rfl | (simp; done) | (simp [*]; done)), H', ⟨Nat.le_refl _⟩, ⟨by (with_reducible repeat (first | apply Kd.R_alloc | apply Kd.R_drewN | apply Kd.R_drew)); exact HO_5.out⟩, ⟨lk HB⟩⟩
       case round =>
        clear H'
        try clear c2
        try clear p2
        try clear c3
        try clear c3b0
        try clear c4
        try clear c6
        try clear c6b0
        try clear p6
        try clear p2
        obtain ⟨x5_3, x7_3, x8_3, rfl, rfl, HA, HK3, HO_5, HB⟩ := hrel
        cases gk with
        | zero => exact absurd HA.out (by simp [vigillaw03_digits.l2])
        | succ k3 =>
         have H := HA.out
         clear HA
         simp only [vigillaw03_digits.l2] at H
         by_cases c7 : x8_3 < (x5_3.length : Int)
         ·
          rw [if_pos c7] at H
          have c7b0 : decide (x8_3 < (x5_3.length : Int)) = true := decide_eq_true c7
          clear c7
          by_cases c8 : 0 ≤ x8_3
          ·
           rw [if_pos c8] at H
           have c8b0 : decide (0 ≤ x8_3) = true := decide_eq_true c8
           clear c8
           obtain ⟨y677, hy677⟩ : ∃ y_ : List Int, y_ = (x5_3.set (x8_3 : Int).toNat (Int.tmod (wrap64 ((wrap64 (2 * (rd x5_3 x8_3))) + x7_3)) 10)) := ⟨_, rfl⟩
           replace H : (vigillaw03_digits.l2 k3 a1 y677 x6_2 (wrap64 (Int.tdiv (wrap64 ((wrap64 (2 * (rd x5_3 x8_3))) + x7_3)) 10)) (wrap64 (x8_3 + 1))) = some r := by first | (rw [hy677]; with_reducible exact H) | (have H2_ := (Option.bind_some _ _).symm.trans H; rw [hy677]; with_reducible exact H2_) | (have H2_ := (Option.bind_some _ _).symm.trans H; with_reducible exact H2_) | with_reducible exact H | (rw [hy677]; exact H) | exact H
           have Ny677 := Aside0.mk hy677
           clear hy677
           have H' := Aside0.mk H
           clear H
           obtain ⟨Ao10, co10, eo10⟩ := Kd.R_slice HO_5.out
           subst eo10
           have p676 : 0 ≤ (x8_3 : Int) := of_decide_eq_true (by first | (with_reducible assumption) | assumption)
           have q676 : x8_3 < (x5_3.length : Int) := of_decide_eq_true (by first | (with_reducible assumption) | assumption)
           obtain ⟨ad676, e676, hx676_0⟩ := Kd.at_int (Kd.R_reads' HO_5.out).2.2 x8_3 p676 q676
           cases e676
           replace p676 := eq_true p676
           replace q676 := eq_true q676
           have p9 : 0 ≤ (x8_3 : Int) := of_decide_eq_true (by first | (with_reducible assumption) | assumption)
           have q9 : (x8_3 : Int) < ((x5_3.length : Int) : Int) := of_decide_eq_true (by first | (with_reducible assumption) | assumption)
           obtain ⟨go9, co9, eo9, gb9, gl9, cl9, HG9⟩ := Kd.R_form HO_5.out (by omega)
           (first | cases eo9 | (injection eo9 with ea_ en_ ec_; (first | subst ea_ | (injection ea_ with ea_; subst ea_)); subst ec_; clear en_))
           have GB9 := Aside0.mk gb9
           have GG9 := Aside0.mk HG9
           clear gb9 gl9 HG9
           (first | simp only [add_plain] at hx676_0 | skip)
           obtain ⟨hx9_0, hf9_0⟩ := Kd.R_celln 0 HO_5.out (x8_3 : Int) p9 q9
           replace p9 := eq_true p9
           replace q9 := eq_true q9
           have HP11 := Kd.R_putg HO_5.out (x8_3 : Int) (Int.tmod (wrap64 ((wrap64 (2 * (rd x5_3 x8_3))) + x7_3)) 10)
           go_wp2_with (first | ((with_reducible refine gate_store (t := 3) (p := 44) rfl ?_); refine store_event (t := 3) (p := 44) (v := ?vo_w12) (w1 := (wr.setCell ⟨go9, (x8_3 : Int).toNat, none⟩ (.int .i64 (Int.tmod (wrap64 ((wrap64 (2 * (rd x5_3 x8_3))) + x7_3)) 10)))) ?hg ?ho ?hn ?hr ?_; (case ho => rfl); (case hg => rfl); (case hn => rfl); (case hr => first | (go_simp; done) | (go_simp; rfl)); intro w12 hw; have hg : wr.grownBy w12 (some go9) := (by rw [hw]; exact HP11.2); have hp_ : Kd.R (Kd.int .i64) 3 w12 w.heap.size (fun _ => True) (.slice (some ⟨go9, 0, none⟩) x5_3.length co10) y677 := (by rw [hw, Ny677.out]; exact HP11.1); clear HP11; replace HO_5 := Aside0.mk (hp_); replace HB := Aside0.mk ((by rw [hw]; exact below_set (HB.out) GB9.out : Below w.heap.size w w12)); clear hg hw hp_))
           go_roundg k3
           case measure => have := HK1.out; have := HK2.out; have := HK3.out; omega
           case rel => exact ⟨(y677), (wrap64 (Int.tdiv (wrap64 ((wrap64 (2 * (rd x5_3 x8_3))) + x7_3)) 10)), (wrap64 (x8_3 + 1)), (by first | rfl | (simp; done) | (simp [*]; done)), (by first | rfl | (simp; done) | (simp [*]; done)), H', ⟨by have := HK1.out; have := HK2.out; have := HK3.out; omega⟩, ⟨by (with_reducible repeat (first | apply Kd.R_alloc | apply Kd.R_drewN | apply Kd.R_drew)); exact HO_5.out⟩, ⟨lk HB⟩⟩
          ·
           rw [if_neg c8] at H
           exact absurd H (by simp)
         ·
          rw [if_neg c7] at H
          have c7b0 : decide (x8_3 < (x5_3.length : Int)) = false := decide_eq_false c7
          clear c7
          by_cases c13 : x7_3 > 0
          ·
           rw [if_pos c13] at H
           have c13b0 : decide (0 < x7_3) = true := decide_eq_true c13
           clear c13
           by_cases c14 : x5_3.length < 17592186044416
           ·
            rw [if_pos c14] at H
            have LMc14 := Aside0.mk c14
            clear c14
            obtain ⟨y678, hy678⟩ : ∃ y_ : List Int, y_ = (x5_3 ++ [x7_3]) := ⟨_, rfl⟩
            replace H : (vigillaw03_digits.l1 k3 a1 y678 (wrap64 (x6_2 + 1))) = some r := by first | (rw [hy678]; with_reducible exact H) | (have H2_ := (Option.bind_some _ _).symm.trans H; rw [hy678]; with_reducible exact H2_) | (have H2_ := (Option.bind_some _ _).symm.trans H; with_reducible exact H2_) | with_reducible exact H | (rw [hy678]; exact H) | exact H
            have Ny678 := Aside0.mk hy678
            clear hy678
            have H' := Aside0.mk H
            clear H
            obtain ⟨Ao15, co15, eo15⟩ := Kd.R_slice HO_5.out
            subst eo15
            go_wp2_with (first | ((with_reducible refine gate_builtin (b := .append) (xs := #[.tmp 49, .tmp 51]) rfl ?_); at_builtin; refine Kd.R_append (Kd.int .i64) (w0 := w) w.heap.size rfl (.tmp 49) (.tmp 51) 66 3 (.int .i64 0) 8 rfl Tryd.underlying66 info3 rfl (by decide) (by omega) (.slice Ao15 x5_3.length co15) x5_3 x7_3 [.int .i64 x7_3] (fun _ => True) (fun _ => False) rfl rfl ?aP (fun _ hk => hk.elim) ?aF ?aO ?aB ?aS ?aL ?_; (case aP => exact rfl); (case aB => exact (lk HB)); (case aF => exact (fun _ _ => trivial)); (case aO => exact (rk HO_5)); (case aS => exact (below_size (lk HB))); (case aL => have := LMc14.out; omega); intro v679 w16 ho hb hg hat; rw [← Ny678.out] at ho; replace HB := Aside0.mk (hb); have HO680 := Aside0.mk (ho); clear HO_5 ho hb hg hat))
            go_roundg k3
            case measure => have := HK1.out; have := HK2.out; have := HK3.out; omega
            case rel => exact ⟨(y678), (wrap64 (x6_2 + 1)), (by first | rfl | (simp; done) | (simp [*]; done)), H', ⟨by have := HK1.out; have := HK2.out; have := HK3.out; omega⟩, ⟨by (with_reducible repeat (first | apply Kd.R_alloc | apply Kd.R_drewN | apply Kd.R_drew)); exact HO680.out⟩, ⟨lk HB⟩⟩
           ·
            rw [if_neg c14] at H
            exact absurd H (by simp)
          ·
           rw [if_neg c13] at H
           have c13b0 : decide (0 < x7_3) = false := decide_eq_false c13
           clear c13
           have H' := Aside0.mk H
           clear H
           obtain ⟨Ao17, co17, eo17⟩ := Kd.R_slice HO_5.out
           subst eo17
           go_wp2
           go_roundg k3
           case measure => have := HK1.out; have := HK2.out; have := HK3.out; omega
           case rel => exact ⟨(x5_3), (wrap64 (x6_2 + 1)), (by first | rfl | (simp; done) | (simp [*]; done)), H', ⟨by have := HK1.out; have := HK2.out; have := HK3.out; omega⟩, ⟨by (with_reducible repeat (first | apply Kd.R_alloc | apply Kd.R_drewN | apply Kd.R_drew)); exact HO_5.out⟩, ⟨lk HB⟩⟩
      ·
       rw [if_neg c6] at H
       have c6b0 : decide (x6_2 < a1) = false := decide_eq_false c6
       clear c6
       have H' := Aside0.mk H
       clear H
       obtain ⟨Ao18, co18, eo18⟩ := Kd.R_slice HO_5.out
       subst eo18
       go_wp2
       go_loopg [10, 11] k2 (fun kq v10 v11 w' => ∃ (x10_3 : ByteArray) (x11_3 : Int), v10 = .string x10_3 ∧ v11 = .int .i64 x11_3 ∧ Aside0 (vigillaw03_digits.l3 kq x5_2 x10_3 x11_3 = some r) ∧ Aside0 (kq ≤ k2) ∧ Aside0 (Kd.R (Kd.int .i64) 3 w' w.heap.size (fun _ => True) (.slice Ao18 x5_2.length co18) x5_2) ∧ Aside0 (Below w.heap.size w w'))
       case atStart => exact ⟨((⟨#[]⟩ : ByteArray)), (wrap64 ((x5_2.length : Int) - 1)), (by first | rfl | (simp; done) | (simp [*]; done)), (by first | rfl | (simp; done) | (simp [*]; done)), H', ⟨Nat.le_refl _⟩, ⟨by (with_reducible repeat (first | apply Kd.R_alloc | apply Kd.R_drewN | apply Kd.R_drew)); exact HO_5.out⟩, ⟨lk HB⟩⟩
       case round =>
        clear H'
        try clear c1
        try clear c2
        try clear p2
        try clear c3
        try clear c3b0
        try clear c4
        try clear c6
        try clear c6b0
        try clear p6
        try clear q6
        try clear hx6
        try clear c7
        try clear c7b0
        try clear c8
        try clear c8b0
        try clear p9
        try clear q9
        try clear hx9
        try clear hf9
        try clear c13
        try clear c13b0
        try clear c14
        try clear hx676_0
        try clear hx9_0
        try clear p2
        try clear p6
        try clear p676
        try clear p9
        try clear q676
        try clear q9
        obtain ⟨x10_3, x11_3, rfl, rfl, HA, HK3, HO_5, HB⟩ := hrel
        cases gk with
        | zero => exact absurd HA.out (by simp [vigillaw03_digits.l3])
        | succ k3 =>
         have H := HA.out
         clear HA
         simp only [vigillaw03_digits.l3] at H
         by_cases c19 : x11_3 ≥ 0
         ·
          rw [if_pos c19] at H
          have c19b0 : decide (0 ≤ x11_3) = true := decide_eq_true c19
          clear c19
          by_cases c20 : 0 ≤ x11_3
          ·
           rw [if_pos c20] at H
           have c20b0 : decide (0 ≤ x11_3) = true := decide_eq_true c20
           clear c20
           by_cases c21 : x11_3 < (x5_2.length : Int)
           ·
            rw [if_pos c21] at H
            have c21b0 : decide (x11_3 < (x5_2.length : Int)) = true := decide_eq_true c21
            clear c21
            obtain ⟨y682, hy682⟩ : ∃ y_ : List Int, y_ = (([(wrap64 (48 + (rd x5_2 x11_3))) % 256] : List Int)) := ⟨_, rfl⟩
            replace H : (if x10_3.size + (strOfNums y682).size ≤ 9223372036854775807 then (vigillaw03_digits.l3 k3 x5_2 (x10_3 ++ (strOfNums y682)) (wrap64 (x11_3 - 1))) else (none)) = some r := by first | (rw [hy682]; with_reducible exact H) | (have H2_ := (Option.bind_some _ _).symm.trans H; rw [hy682]; with_reducible exact H2_) | (have H2_ := (Option.bind_some _ _).symm.trans H; with_reducible exact H2_) | with_reducible exact H | (rw [hy682]; exact H) | exact H
            have Ny682 := Aside0.mk hy682
            clear hy682
            by_cases c22 : x10_3.size + (strOfNums y682).size ≤ 9223372036854775807
            ·
             rw [if_pos c22] at H
             have c22b0 := eq_true c22
             have c22b1 : decide (x10_3.size + (strOfNums y682).size ≤ 9223372036854775807) = true := decide_eq_true c22
             try have c22b2 : (9223372036854775807 < x10_3.size + (strOfNums y682).size) = False := eq_false (Nat.not_lt.2 c22)
             obtain ⟨y685, hy685⟩ : ∃ y_ : ByteArray, y_ = (x10_3 ++ (strOfNums y682)) := ⟨_, rfl⟩
             replace H : (vigillaw03_digits.l3 k3 x5_2 y685 (wrap64 (x11_3 - 1))) = some r := by first | (rw [hy685]; with_reducible exact H) | (have H2_ := (Option.bind_some _ _).symm.trans H; rw [hy685]; with_reducible exact H2_) | (have H2_ := (Option.bind_some _ _).symm.trans H; with_reducible exact H2_) | with_reducible exact H | (rw [hy685]; exact H) | exact H
             have Ny685 := Aside0.mk hy685
             clear hy685
             have H' := Aside0.mk H
             clear H
             have p681 : 0 ≤ (x11_3 : Int) := of_decide_eq_true (by first | (with_reducible assumption) | assumption)
             have q681 : x11_3 < (x5_2.length : Int) := of_decide_eq_true (by first | (with_reducible assumption) | assumption)
             obtain ⟨ad681, e681, hx681_0⟩ := Kd.at_int (Kd.R_reads' HO_5.out).2.2 x11_3 p681 q681
             cases e681
             replace p681 := eq_true p681
             replace q681 := eq_true q681
             go_wp2_with (first | ((with_reducible refine gate_dst (N := 67) rfl ?_); refine Kd.R_lit (Kd.int .u8) _ 5 ?hg (N := 67) ?hd (xs := ([(wrap64 (48 + (rd x5_2 x11_3))) % 256] : List Int)) (inner := [.int .u8 ((wrap64 (48 + (rd x5_2 x11_3))) % 256)]) (ok := fun _ => True) (okp := fun _ => True) ?hr ?hp (fun _ hk => hk) trivial (Below.refl _ _) (Nat.le_refl _) (by simp) ?_; (case hd => rfl); (case hg => rfl); (case hr => first | (go_simp; done) | (go_simp; rfl)); (case hp => exact (Reps.one (show Kd.M (Kd.int .u8) _ _ _ ((wrap64 (48 + (rd x5_2 x11_3))) % 256) [.int .u8 ((wrap64 (48 + (rd x5_2 x11_3))) % 256)] from rfl) (Reps.none _ _))); intro v683 w23 ho24 hb hg_ hnew_; clear hg_ hnew_; (first | rw [← Ny682.out] at ho24 | (simp only [Int.reduceToNat] at ho24; rw [← Ny682.out] at ho24)); replace HO_5 := Aside0.mk (Kd.R_below (rk HO_5) hb); have HO684 := Aside0.mk (Kd.R_lower ho24 (below_size (lk HB))); replace HB := lb HB hb; clear hb ho24; have hcv25 := own_string (P := Tryd.prog) Tryd.underlying43 Tryd.underlying5 Tryd.underlying9 (Kd.own_of_R HO684.out); have hcs26 := Hd.str_cat (P := Tryd.prog) (s := x10_3) (t := (strOfNums y682)) (y := y685) (by first | (with_reducible assumption) | assumption | exact of_eq_true (by assumption) | omega) Ny685.out; have hcs26' := Hd.str_cat' (P := Tryd.prog) (s := x10_3) (t := (strOfNums y682)) (y := y685) (by first | (with_reducible assumption) | assumption | exact of_eq_true (by assumption) | omega) Ny685.out))
             go_roundg k3
             case measure => have := HK1.out; have := HK2.out; have := HK3.out; omega
             case rel => exact ⟨(y685), (wrap64 (x11_3 - 1)), (by first | rfl | (simp; done) | (simp [*]; done)), (by first | rfl | (simp; done) | (simp [*]; done)), H', ⟨by have := HK1.out; have := HK2.out; have := HK3.out; omega⟩, ⟨by (with_reducible repeat (first | apply Kd.R_alloc | apply Kd.R_drewN | apply Kd.R_drew)); exact HO_5.out⟩, ⟨lk HB⟩⟩
            ·
             rw [if_neg c22] at H
             exact absurd H (by simp)
           ·
            rw [if_neg c21] at H
            exact absurd H (by simp)
          ·
           rw [if_neg c20] at H
           exact absurd H (by simp)
         ·
          rw [if_neg c19] at H
          have c19b0 : decide (0 ≤ x11_3) = false := decide_eq_false c19
          clear c19
          obtain rfl := Option.some.inj H
          go_wp2
          go_ret
          exact ex (lk HB)

end Go.Proofs.YtjlnfnfdibfniaaDoor.F

/- vigillaw03.scaled (function 23): a number doubled and doubled, as floats. -/
namespace Go.Proofs.YtjlnfnfdibfniaaDoor.Hd
open Go.RowKit Go.Proofs.YtjlnfnfdibfniaaDoorW.PrintWords Go.Proofs.YtjlnfnfdibfniaaDoorW.PrintLast

/-- v doubled n times, as floats' bits. -/
def doubled : Nat → Nat → Option Nat
  | 0, v => some v
  | n + 1, v => (FloatKind.f64.format.mul v 4611686018427387904).bind (doubled n)
def vigillaw03_scaled.f (a0 : Int) (a1 : Int) : Option Nat := if a1 ≤ 1000000 ∧ -1000000 ≤ a1 then doubled (a1 + 1).toNat (floatOfInt .f64 a0) else none

set_option maxHeartbeats 2000000 in
set_option maxRecDepth 100000 in
theorem vigillaw03_scaled.calls (a0 : Int) (a1 : Int) (r : Nat) (w : World) (h : vigillaw03_scaled.f a0 a1 = some r) :
    Calls Tryd.prog 23 #[.int .u64 a0, .int .i64 a1] w fun e w' => e = .returned (.float .f64 r) ∧ Drawn0 w w' := by
  unfold vigillaw03_scaled.f at h
  split at h
  case isFalse => cases h
  rename_i hb
  obtain ⟨hb1, hb2⟩ := hb
  have H := Aside0.mk h
  clear h
  go_enter Tryd.func23, Tryd.ntmps23
  go_wp2
  go_outline
  go_loopg [5, 6] ((a1 + 1).toNat + 1) (fun kq v5 v6 wr => ∃ (v i : Nat), v5 = .float .f64 v ∧ v6 = .int .i64 (i : Int) ∧ Aside0 (doubled ((a1 + 1).toNat - i) v = some r) ∧ Aside0 (i ≤ (a1 + 1).toNat) ∧ wr = w ∧ Aside0 ((a1 + 1).toNat - i < kq))
  case atStart => exact ⟨_, 0, rfl, rfl, H, ⟨Nat.zero_le _⟩, rfl, ⟨by omega⟩⟩
  case round =>
    obtain ⟨v, i, rfl, rfl, HD, HI, rfl, HK⟩ := hrel
    by_cases hlt : (i : Int) ≤ a1
    · obtain ⟨m, hm⟩ : ∃ m, (a1 + 1).toNat - i = m + 1 := ⟨(a1 + 1).toNat - i - 1, by omega⟩
      have hd := HD.out
      rw [hm, doubled] at hd
      obtain ⟨v2, hv2, hd2⟩ := Option.bind_eq_some_iff.mp hd
      have hmul := fun (w : World) => run_float_arith (P := Tryd.prog) w .mul 23 .f64 v 4611686018427387904 v2 hv2
      have HD2 := Aside0.mk hd2
      have HM := Aside0.mk hm
      have ht : decide ((i : Int) ≤ a1) = true := decide_eq_true hlt
      clear hd hd2 hv2 hm HD
      go_wp2
      go_roundg (gk - 1)
      case measure => have := HK.out; have := HM.out; omega
      case rel => exact ⟨v2, i + 1, rfl, by go_num, ⟨by rw [show (a1 + 1).toNat - (i + 1) = m from by have := HM.out; omega]; exact HD2.out⟩, ⟨by have := HM.out; omega⟩, rfl, ⟨by have := HK.out; have := HM.out; omega⟩⟩
    · have ht : decide ((i : Int) ≤ a1) = false := decide_eq_false hlt
      have he : Aside0 (v = r) := ⟨by have hd := HD.out; rw [show (a1 + 1).toNat - i = 0 from by omega, doubled] at hd; exact Option.some.inj hd⟩
      clear HD
      go_wp2
      go_ret
      exact ⟨by rw [← he.out]; rfl, Drawn0.refl _⟩
end Go.Proofs.YtjlnfnfdibfniaaDoor.Hd

-- Written by a program of this session (wip/vprint.py): Lean checks it.
namespace Go.Proofs.YtjlnfnfdibfniaaDoor.F
open Go.RowKit Go.Proofs.YtjlnfnfdibfniaaDoorW.PrintWords Go.Proofs.YtjlnfnfdibfniaaDoorW.PrintLast Go.Proofs.YtjlnfnfdibfniaaDoorW.PrintMore
attribute [local go_sem] max2_int min2_int max_two min_two max_three min_three max_four min_four   -- for this text's walks alone
set_option linter.unusedVariables false
set_option linter.unusedSimpArgs false

/-! ### vigillaw03_NumNearest: function 6 -/
def vigillaw03_NumNearest.j0 : Nat → ByteArray → Nat → Nat → Nat → Option (Bool)
 | 0, _, _, _, _ => none
 | k + 1, x5, x6, x7, x8 => (num_Parse.f k x5).bind fun bt690 => (if x5.size + 2 ≤ 9223372036854775807 then ((num_Parse.f k (x5 ++ (⟨#[46, 49]⟩ : ByteArray))).bind fun bt693 => ((Hd.vigillaw03_less.f x5).bind fun t695 => (if t695.size + 2 ≤ 9223372036854775807 then ((num_Parse.f k (t695 ++ (⟨#[46, 57]⟩ : ByteArray))).bind fun bt697 => (if bt690.2 = 0 then (if bt693.2 = 0 then (if bt697.2 = 0 then ((vigilkeep_Bits.f bt690.1 x8).bind fun t699 => (if t699 = true then ((vigilkeep_Bits.f bt693.1 x7).bind fun t700 => (if t700 = true then ((vigilkeep_Bits.f bt697.1 x6).bind fun t701 => (if t701 = true then ((vigillaw03_wakes.f k).bind fun t702 => (some t702)) else (some false))) else (some false))) else (some false))) else (some false)) else (some false)) else (some false))) else (none)))) else (none))
def vigillaw03_NumNearest.f (k : Nat) (a0 : Int) (a1 : Int) : Option (Bool) := (vigilkeep_Within.f a1 40).bind fun t686 => ((vigillaw03_digits.f k (IntKind.u64.wrap ((IntKind.u64.wrap (2 * (IntKind.u64.wrap ((Int.tmod a0 4503599627370496) + 4503599627370496)))) + 1)) t686).bind fun t687 => ((Hd.vigillaw03_scaled.f (IntKind.u64.wrap ((Int.tmod a0 4503599627370496) + 4503599627370496)) t686).bind fun t688 => ((Hd.vigillaw03_scaled.f (IntKind.u64.wrap ((IntKind.u64.wrap ((Int.tmod a0 4503599627370496) + 4503599627370496)) + 1)) t686).bind fun t689 => (if (Int.tmod (IntKind.u64.wrap ((Int.tmod a0 4503599627370496) + 4503599627370496)) 2) = 1 then (vigillaw03_NumNearest.j0 k t687 t688 t689 t689) else (vigillaw03_NumNearest.j0 k t687 t688 t689 t688)))))
theorem vigillaw03_NumNearest.mono_l : ∀ k, (∀ y0 y1 y2 y3, LeO (vigillaw03_NumNearest.j0 k y0 y1 y2 y3) (vigillaw03_NumNearest.j0 (k + 1) y0 y1 y2 y3))
 | 0 => fun _ _ _ _ r h => by simp [vigillaw03_NumNearest.j0] at h
 | k + 1 => by
  have ih0 := vigillaw03_NumNearest.mono_l k
  ·
   intro y0 y1 y2 y3
   unfold vigillaw03_NumNearest.j0
   repeat' first | (with_reducible exact ih0 _ _ _ _) | (with_reducible exact num_Parse.mono _ _) | (with_reducible exact vigillaw03_digits.mono _ _ _) | (with_reducible exact vigillaw03_wakes.mono _) | (with_reducible exact LeO.refl _) | (with_reducible exact LeO.none _) | (with_reducible refine LeO.ite ?_ ?_) | (with_reducible refine LeO.bind ?_ (fun _ => ?_))
theorem vigillaw03_NumNearest.mono : ∀ a0 a1 k, LeO (vigillaw03_NumNearest.f k a0 a1) (vigillaw03_NumNearest.f (k + 1) a0 a1) := by
 intro a0 a1 k
 have ih0 := vigillaw03_NumNearest.mono_l k
 unfold vigillaw03_NumNearest.f
 repeat' first | (with_reducible exact ih0 _ _ _ _) | (with_reducible exact num_Parse.mono _ _) | (with_reducible exact vigillaw03_digits.mono _ _ _) | (with_reducible exact vigillaw03_wakes.mono _) | (with_reducible exact LeO.refl _) | (with_reducible exact LeO.none _) | (with_reducible refine LeO.ite ?_ ?_) | (with_reducible refine LeO.bind ?_ (fun _ => ?_))
set_option maxHeartbeats 8000000 in
set_option maxRecDepth 100000 in
theorem vigillaw03_NumNearest.calls (k : Nat) (a0 : Int) (a1 : Int) (r : Bool) (w : World) (h : vigillaw03_NumNearest.f k a0 a1 = some r) :
  Calls Tryd.prog 6 #[.int .u64 a0, .int .i64 a1] w fun e w' => e = .returned (.bool r) ∧ Below w.heap.size w w' := by
 have HB := Aside0.mk (Below.refl w.heap.size w)
 have H : ((vigilkeep_Within.f a1 40).bind fun t686 => ((vigillaw03_digits.f k (IntKind.u64.wrap ((IntKind.u64.wrap (2 * (IntKind.u64.wrap ((Int.tmod a0 4503599627370496) + 4503599627370496)))) + 1)) t686).bind fun t687 => ((Hd.vigillaw03_scaled.f (IntKind.u64.wrap ((Int.tmod a0 4503599627370496) + 4503599627370496)) t686).bind fun t688 => ((Hd.vigillaw03_scaled.f (IntKind.u64.wrap ((IntKind.u64.wrap ((Int.tmod a0 4503599627370496) + 4503599627370496)) + 1)) t686).bind fun t689 => (if (Int.tmod (IntKind.u64.wrap ((Int.tmod a0 4503599627370496) + 4503599627370496)) 2) = 1 then (vigillaw03_NumNearest.j0 k t687 t688 t689 t689) else (vigillaw03_NumNearest.j0 k t687 t688 t689 t688)))))) = some r := h
 clear h
 replace H := Option.bind_eq_some_iff.mp H
 obtain ⟨t686, A30, H⟩ := H
 replace H : ((vigillaw03_digits.f k (IntKind.u64.wrap ((IntKind.u64.wrap (2 * (IntKind.u64.wrap ((Int.tmod a0 4503599627370496) + 4503599627370496)))) + 1)) t686).bind fun t687 => ((Hd.vigillaw03_scaled.f (IntKind.u64.wrap ((Int.tmod a0 4503599627370496) + 4503599627370496)) t686).bind fun t688 => ((Hd.vigillaw03_scaled.f (IntKind.u64.wrap ((IntKind.u64.wrap ((Int.tmod a0 4503599627370496) + 4503599627370496)) + 1)) t686).bind fun t689 => (if (Int.tmod (IntKind.u64.wrap ((Int.tmod a0 4503599627370496) + 4503599627370496)) 2) = 1 then (vigillaw03_NumNearest.j0 k t687 t688 t689 t689) else (vigillaw03_NumNearest.j0 k t687 t688 t689 t688))))) = some r := H
 have A3 := Aside0.mk A30
 clear A30
 replace H := Option.bind_eq_some_iff.mp H
 obtain ⟨t687, A40, H⟩ := H
 replace H : ((Hd.vigillaw03_scaled.f (IntKind.u64.wrap ((Int.tmod a0 4503599627370496) + 4503599627370496)) t686).bind fun t688 => ((Hd.vigillaw03_scaled.f (IntKind.u64.wrap ((IntKind.u64.wrap ((Int.tmod a0 4503599627370496) + 4503599627370496)) + 1)) t686).bind fun t689 => (if (Int.tmod (IntKind.u64.wrap ((Int.tmod a0 4503599627370496) + 4503599627370496)) 2) = 1 then (vigillaw03_NumNearest.j0 k t687 t688 t689 t689) else (vigillaw03_NumNearest.j0 k t687 t688 t689 t688)))) = some r := H
 have A4 := Aside0.mk A40
 clear A40
 replace H := Option.bind_eq_some_iff.mp H
 obtain ⟨t688, A50, H⟩ := H
 replace H : ((Hd.vigillaw03_scaled.f (IntKind.u64.wrap ((IntKind.u64.wrap ((Int.tmod a0 4503599627370496) + 4503599627370496)) + 1)) t686).bind fun t689 => (if (Int.tmod (IntKind.u64.wrap ((Int.tmod a0 4503599627370496) + 4503599627370496)) 2) = 1 then (vigillaw03_NumNearest.j0 k t687 t688 t689 t689) else (vigillaw03_NumNearest.j0 k t687 t688 t689 t688))) = some r := H
 have A5 := Aside0.mk A50
 clear A50
 replace H := Option.bind_eq_some_iff.mp H
 obtain ⟨t689, A60, H⟩ := H
 replace H : (if (Int.tmod (IntKind.u64.wrap ((Int.tmod a0 4503599627370496) + 4503599627370496)) 2) = 1 then (vigillaw03_NumNearest.j0 k t687 t688 t689 t689) else (vigillaw03_NumNearest.j0 k t687 t688 t689 t688)) = some r := H
 have A6 := Aside0.mk A60
 clear A60
 have HC7 := Aside0.mk H
 clear H
 go_enter Tryd.func6, Tryd.ntmps6
 go_upto_if 35 with (first | ((with_reducible refine gate_callee (f := 21) rfl ?_); refine gL (some 19) Tryd.func21 #[.int .i64 a1, .int .i64 40] ?_; (with_reducible refine (vigilkeep_Within.calls a1 40 t686 _ A3.out).mono ?_); rintro e w' ⟨rfl, ⟨nd, rfl⟩⟩; refine ⟨_, rfl, ?_⟩) | ((with_reducible refine gate_callee (f := 22) rfl ?_); refine gL (some 24) Tryd.func22 #[.int .u64 (IntKind.u64.wrap ((IntKind.u64.wrap (2 * (IntKind.u64.wrap ((Int.tmod a0 4503599627370496) + 4503599627370496)))) + 1)), .int .i64 t686] ?_; (with_reducible refine (vigillaw03_digits.calls k (IntKind.u64.wrap ((IntKind.u64.wrap (2 * (IntKind.u64.wrap ((Int.tmod a0 4503599627370496) + 4503599627370496)))) + 1)) t686 t687 _ A4.out).mono ?_); rintro e w8 ⟨rfl, hb⟩; refine ⟨_, rfl, ?_⟩; replace HB := lb HB hb; (try clear hb); (try clear hb2); (try clear hk); (try clear hi)) | ((with_reducible refine gate_callee (f := 23) rfl ?_); refine gL (some 27) Tryd.func23 #[.int .u64 (IntKind.u64.wrap ((Int.tmod a0 4503599627370496) + 4503599627370496)), .int .i64 t686] ?_; (with_reducible refine (Hd.vigillaw03_scaled.calls (IntKind.u64.wrap ((Int.tmod a0 4503599627370496) + 4503599627370496)) t686 t688 _ A5.out).mono ?_); rintro e w' ⟨rfl, ⟨nd, rfl⟩⟩; refine ⟨_, rfl, ?_⟩) | ((with_reducible refine gate_callee (f := 23) rfl ?_); refine gL (some 31) Tryd.func23 #[.int .u64 (IntKind.u64.wrap ((IntKind.u64.wrap ((Int.tmod a0 4503599627370496) + 4503599627370496)) + 1)), .int .i64 t686] ?_; (with_reducible refine (Hd.vigillaw03_scaled.calls (IntKind.u64.wrap ((IntKind.u64.wrap ((Int.tmod a0 4503599627370496) + 4503599627370496)) + 1)) t686 t689 _ A6.out).mono ?_); rintro e w' ⟨rfl, ⟨nd, rfl⟩⟩; refine ⟨_, rfl, ?_⟩))
 (try simp only [Act.put, List.setIfInBounds_toArray, List.set_cons_zero, List.set_cons_succ])
 go_cut [8] (fun v8 wc => ∃ (kq : Nat) (x8_6 : Nat), v8 = .float .f64 x8_6 ∧ Aside0 (vigillaw03_NumNearest.j0 kq t687 t688 t689 x8_6 = some r) ∧ Aside0 (kq ≤ k) ∧ Aside0 (Below w.heap.size w wc))
 case first =>
  have H := HC7.out
  clear HC7
  by_cases c9 : (Int.tmod (IntKind.u64.wrap ((Int.tmod a0 4503599627370496) + 4503599627370496)) 2) = 1
  ·
   rw [if_pos c9] at H
   have c9b0 : ((Int.tmod (IntKind.u64.wrap ((Int.tmod a0 4503599627370496) + 4503599627370496)) 2) == 1) = true := beq_iff_eq.mpr c9
   have c9b1 : ((Int.tmod (IntKind.u64.wrap ((Int.tmod a0 4503599627370496) + 4503599627370496)) 2) != 1) = false := bne_eq_false_iff_eq.mpr c9
   clear c9
   (first | rw [c9b0] | (simp only [i64_w, i32_w]; rw [c9b0]) | skip)
   have H' := Aside0.mk H
   clear H
   go_wp2
   go_meet
   case rel => exact ⟨_, (t689), (by first | rfl | (simp; done) | (simp [*]; done)), H', ⟨by first | omega | exact Nat.le_refl _⟩, ⟨lk HB⟩⟩
  ·
   rw [if_neg c9] at H
   have c9b0 : ((Int.tmod (IntKind.u64.wrap ((Int.tmod a0 4503599627370496) + 4503599627370496)) 2) == 1) = false := beq_eq_false_iff_ne.mpr c9
   have c9b1 : ((Int.tmod (IntKind.u64.wrap ((Int.tmod a0 4503599627370496) + 4503599627370496)) 2) != 1) = true := bne_iff_ne.mpr c9
   (first | rw [c9b0] | (simp only [i64_w, i32_w]; rw [c9b0]) | skip)
   have H' := Aside0.mk H
   clear H
   go_wp2
   go_meet
   case rel => exact ⟨_, (t688), (by first | rfl | (simp; done) | (simp [*]; done)), H', ⟨by first | omega | exact Nat.le_refl _⟩, ⟨lk HB⟩⟩
 case rest =>
  clear HC7
  try clear c2
  try clear p2
  try clear c6
  try clear c9
  try clear c9b0
  try clear c9b1
  obtain ⟨kq, x8_6, rfl, HA, HJ6, HB⟩ := hcut
  cases kq with
  | zero => exact absurd HA.out (by simp [vigillaw03_NumNearest.j0])
  | succ kj6 =>
   have H := HA.out
   clear HA
   simp only [vigillaw03_NumNearest.j0] at H
   replace H := Option.bind_eq_some_iff.mp H
   obtain ⟨⟨t690, t691⟩, A100, H⟩ := H
   replace H : (if t687.size + 2 ≤ 9223372036854775807 then ((num_Parse.f kj6 (t687 ++ (⟨#[46, 49]⟩ : ByteArray))).bind fun bt693 => ((Hd.vigillaw03_less.f t687).bind fun t695 => (if t695.size + 2 ≤ 9223372036854775807 then ((num_Parse.f kj6 (t695 ++ (⟨#[46, 57]⟩ : ByteArray))).bind fun bt697 => (if t691 = 0 then (if bt693.2 = 0 then (if bt697.2 = 0 then ((vigilkeep_Bits.f t690 x8_6).bind fun t699 => (if t699 = true then ((vigilkeep_Bits.f bt693.1 t689).bind fun t700 => (if t700 = true then ((vigilkeep_Bits.f bt697.1 t688).bind fun t701 => (if t701 = true then ((vigillaw03_wakes.f kj6).bind fun t702 => (some t702)) else (some false))) else (some false))) else (some false))) else (some false)) else (some false)) else (some false))) else (none)))) else (none)) = some r := H
   have A10 := Aside0.mk A100
   clear A100
   by_cases c11 : t687.size + 2 ≤ 9223372036854775807
   ·
    rw [if_pos c11] at H
    have c11b0 := eq_true c11
    have c11b1 : decide (t687.size + 2 ≤ 9223372036854775807) = true := decide_eq_true c11
    try have c11b2 : (9223372036854775807 < t687.size + 2) = False := eq_false (Nat.not_lt.2 c11)
    obtain ⟨y692, hy692⟩ : ∃ y_ : ByteArray, y_ = (t687 ++ (⟨#[46, 49]⟩ : ByteArray)) := ⟨_, rfl⟩
    replace H : ((num_Parse.f kj6 y692).bind fun bt693 => ((Hd.vigillaw03_less.f t687).bind fun t695 => (if t695.size + 2 ≤ 9223372036854775807 then ((num_Parse.f kj6 (t695 ++ (⟨#[46, 57]⟩ : ByteArray))).bind fun bt697 => (if t691 = 0 then (if bt693.2 = 0 then (if bt697.2 = 0 then ((vigilkeep_Bits.f t690 x8_6).bind fun t699 => (if t699 = true then ((vigilkeep_Bits.f bt693.1 t689).bind fun t700 => (if t700 = true then ((vigilkeep_Bits.f bt697.1 t688).bind fun t701 => (if t701 = true then ((vigillaw03_wakes.f kj6).bind fun t702 => (some t702)) else (some false))) else (some false))) else (some false))) else (some false)) else (some false)) else (some false))) else (none)))) = some r := by first | (rw [hy692]; with_reducible exact H) | (have H2_ := (Option.bind_some _ _).symm.trans H; rw [hy692]; with_reducible exact H2_) | (have H2_ := (Option.bind_some _ _).symm.trans H; with_reducible exact H2_) | with_reducible exact H | (rw [hy692]; exact H) | exact H
    have Ny692 := Aside0.mk hy692
    clear hy692
    replace H := Option.bind_eq_some_iff.mp H
    obtain ⟨⟨t693, t694⟩, A120, H⟩ := H
    replace H : ((Hd.vigillaw03_less.f t687).bind fun t695 => (if t695.size + 2 ≤ 9223372036854775807 then ((num_Parse.f kj6 (t695 ++ (⟨#[46, 57]⟩ : ByteArray))).bind fun bt697 => (if t691 = 0 then (if t694 = 0 then (if bt697.2 = 0 then ((vigilkeep_Bits.f t690 x8_6).bind fun t699 => (if t699 = true then ((vigilkeep_Bits.f t693 t689).bind fun t700 => (if t700 = true then ((vigilkeep_Bits.f bt697.1 t688).bind fun t701 => (if t701 = true then ((vigillaw03_wakes.f kj6).bind fun t702 => (some t702)) else (some false))) else (some false))) else (some false))) else (some false)) else (some false)) else (some false))) else (none))) = some r := H
    have A12 := Aside0.mk A120
    clear A120
    replace H := Option.bind_eq_some_iff.mp H
    obtain ⟨t695, A130, H⟩ := H
    replace H : (if t695.size + 2 ≤ 9223372036854775807 then ((num_Parse.f kj6 (t695 ++ (⟨#[46, 57]⟩ : ByteArray))).bind fun bt697 => (if t691 = 0 then (if t694 = 0 then (if bt697.2 = 0 then ((vigilkeep_Bits.f t690 x8_6).bind fun t699 => (if t699 = true then ((vigilkeep_Bits.f t693 t689).bind fun t700 => (if t700 = true then ((vigilkeep_Bits.f bt697.1 t688).bind fun t701 => (if t701 = true then ((vigillaw03_wakes.f kj6).bind fun t702 => (some t702)) else (some false))) else (some false))) else (some false))) else (some false)) else (some false)) else (some false))) else (none)) = some r := H
    have A13 := Aside0.mk A130
    clear A130
    by_cases c14 : t695.size + 2 ≤ 9223372036854775807
    ·
     rw [if_pos c14] at H
     have c14b0 := eq_true c14
     have c14b1 : decide (t695.size + 2 ≤ 9223372036854775807) = true := decide_eq_true c14
     try have c14b2 : (9223372036854775807 < t695.size + 2) = False := eq_false (Nat.not_lt.2 c14)
     obtain ⟨y696, hy696⟩ : ∃ y_ : ByteArray, y_ = (t695 ++ (⟨#[46, 57]⟩ : ByteArray)) := ⟨_, rfl⟩
     replace H : ((num_Parse.f kj6 y696).bind fun bt697 => (if t691 = 0 then (if t694 = 0 then (if bt697.2 = 0 then ((vigilkeep_Bits.f t690 x8_6).bind fun t699 => (if t699 = true then ((vigilkeep_Bits.f t693 t689).bind fun t700 => (if t700 = true then ((vigilkeep_Bits.f bt697.1 t688).bind fun t701 => (if t701 = true then ((vigillaw03_wakes.f kj6).bind fun t702 => (some t702)) else (some false))) else (some false))) else (some false))) else (some false)) else (some false)) else (some false))) = some r := by first | (rw [hy696]; with_reducible exact H) | (have H2_ := (Option.bind_some _ _).symm.trans H; rw [hy696]; with_reducible exact H2_) | (have H2_ := (Option.bind_some _ _).symm.trans H; with_reducible exact H2_) | with_reducible exact H | (rw [hy696]; exact H) | exact H
     have Ny696 := Aside0.mk hy696
     clear hy696
     replace H := Option.bind_eq_some_iff.mp H
     obtain ⟨⟨t697, t698⟩, A150, H⟩ := H
     replace H : (if t691 = 0 then (if t694 = 0 then (if t698 = 0 then ((vigilkeep_Bits.f t690 x8_6).bind fun t699 => (if t699 = true then ((vigilkeep_Bits.f t693 t689).bind fun t700 => (if t700 = true then ((vigilkeep_Bits.f t697 t688).bind fun t701 => (if t701 = true then ((vigillaw03_wakes.f kj6).bind fun t702 => (some t702)) else (some false))) else (some false))) else (some false))) else (some false)) else (some false)) else (some false)) = some r := H
     have A15 := Aside0.mk A150
     clear A150
     by_cases c16 : t691 = 0
     ·
      rw [if_pos c16] at H
      have c16b0 : (t691 == 0) = true := beq_iff_eq.mpr c16
      have c16b1 : (t691 != 0) = false := bne_eq_false_iff_eq.mpr c16
      clear c16
      by_cases c17 : t694 = 0
      ·
       rw [if_pos c17] at H
       have c17b0 : (t694 == 0) = true := beq_iff_eq.mpr c17
       have c17b1 : (t694 != 0) = false := bne_eq_false_iff_eq.mpr c17
       clear c17
       by_cases c18 : t698 = 0
       ·
        rw [if_pos c18] at H
        have c18b0 : (t698 == 0) = true := beq_iff_eq.mpr c18
        have c18b1 : (t698 != 0) = false := bne_eq_false_iff_eq.mpr c18
        clear c18
        replace H := Option.bind_eq_some_iff.mp H
        obtain ⟨t699, A190, H⟩ := H
        replace H : (if t699 = true then ((vigilkeep_Bits.f t693 t689).bind fun t700 => (if t700 = true then ((vigilkeep_Bits.f t697 t688).bind fun t701 => (if t701 = true then ((vigillaw03_wakes.f kj6).bind fun t702 => (some t702)) else (some false))) else (some false))) else (some false)) = some r := H
        have A19 := Aside0.mk A190
        clear A190
        by_cases c20 : t699 = true
        ·
         subst c20
         have H1 : ((vigilkeep_Bits.f t693 t689).bind fun t700 => (if t700 = true then ((vigilkeep_Bits.f t697 t688).bind fun t701 => (if t701 = true then ((vigillaw03_wakes.f kj6).bind fun t702 => (some t702)) else (some false))) else (some false))) = some r := by rw [if_pos rfl] at H; exact H
         clear H
         have H := H1
         clear H1
         replace H := Option.bind_eq_some_iff.mp H
         obtain ⟨t700, A210, H⟩ := H
         replace H : (if t700 = true then ((vigilkeep_Bits.f t697 t688).bind fun t701 => (if t701 = true then ((vigillaw03_wakes.f kj6).bind fun t702 => (some t702)) else (some false))) else (some false)) = some r := H
         have A21 := Aside0.mk A210
         clear A210
         by_cases c22 : t700 = true
         ·
          subst c22
          have H1 : ((vigilkeep_Bits.f t697 t688).bind fun t701 => (if t701 = true then ((vigillaw03_wakes.f kj6).bind fun t702 => (some t702)) else (some false))) = some r := by rw [if_pos rfl] at H; exact H
          clear H
          have H := H1
          clear H1
          replace H := Option.bind_eq_some_iff.mp H
          obtain ⟨t701, A230, H⟩ := H
          replace H : (if t701 = true then ((vigillaw03_wakes.f kj6).bind fun t702 => (some t702)) else (some false)) = some r := H
          have A23 := Aside0.mk A230
          clear A230
          by_cases c24 : t701 = true
          ·
           subst c24
           have H1 : ((vigillaw03_wakes.f kj6).bind fun t702 => (some t702)) = some r := by rw [if_pos rfl] at H; exact H
           clear H
           have H := H1
           clear H1
           replace H := Option.bind_eq_some_iff.mp H
           obtain ⟨t702, A250, H⟩ := H
           replace H : (some t702) = some r := H
           have A25 := Aside0.mk A250
           clear A250
           obtain rfl := Option.some.inj H
           go_wp2_with (first | ((with_reducible refine gate_callee (f := 18) rfl ?_); refine gL (some 39) Tryd.func18 #[.string t687] ?_; (with_reducible refine (num_Parse.calls kj6 t687 t690 t691 _ A10.out).mono ?_); rintro e w26 ⟨rfl, hb⟩; refine ⟨_, rfl, ?_⟩; replace HB := lb HB hb; (try clear hb); (try clear hb2); (try clear hk); (try clear hi); have hcs27 := Hd.str_cat (P := Tryd.prog) (s := t687) (t := (⟨#[46, 49]⟩ : ByteArray)) (y := y692) (by first | (with_reducible assumption) | assumption | exact of_eq_true (by assumption) | omega) Ny692.out; have hcs27' := Hd.str_cat' (P := Tryd.prog) (s := t687) (t := (⟨#[46, 49]⟩ : ByteArray)) (y := y692) (by first | (with_reducible assumption) | assumption | exact of_eq_true (by assumption) | omega) Ny692.out) | ((with_reducible refine gate_callee (f := 18) rfl ?_); refine gL (some 45) Tryd.func18 #[.string y692] ?_; (with_reducible refine (num_Parse.calls kj6 y692 t693 t694 _ A12.out).mono ?_); rintro e w28 ⟨rfl, hb⟩; refine ⟨_, rfl, ?_⟩; replace HB := lb HB hb; (try clear hb); (try clear hb2); (try clear hk); (try clear hi)) | ((with_reducible refine gate_callee (f := 24) rfl ?_); refine gL (some 50) Tryd.func24 #[.string t687] ?_; (with_reducible refine (Hd.vigillaw03_less.calls t687 t695 _ A13.out).mono ?_); rintro e w29 ⟨rfl, hb⟩; refine ⟨_, rfl, ?_⟩; replace HB := lb HB hb; (try clear hb); (try clear hb2); (try clear hk); (try clear hi); have hcs30 := Hd.str_cat (P := Tryd.prog) (s := t695) (t := (⟨#[46, 57]⟩ : ByteArray)) (y := y696) (by first | (with_reducible assumption) | assumption | exact of_eq_true (by assumption) | omega) Ny696.out; have hcs30' := Hd.str_cat' (P := Tryd.prog) (s := t695) (t := (⟨#[46, 57]⟩ : ByteArray)) (y := y696) (by first | (with_reducible assumption) | assumption | exact of_eq_true (by assumption) | omega) Ny696.out) | ((with_reducible refine gate_callee (f := 18) rfl ?_); refine gL (some 52) Tryd.func18 #[.string y696] ?_; (with_reducible refine (num_Parse.calls kj6 y696 t697 t698 _ A15.out).mono ?_); rintro e w31 ⟨rfl, hb⟩; refine ⟨_, rfl, ?_⟩; replace HB := lb HB hb; (try clear hb); (try clear hb2); (try clear hk); (try clear hi)) | (go_at_call 20; (with_reducible refine (vigilkeep_Bits.calls t690 x8_6 true _ A19.out).mono ?_); rintro e w' ⟨rfl, ⟨nd, rfl⟩⟩) | (go_at_call 20; (with_reducible refine (vigilkeep_Bits.calls t693 t689 true _ A21.out).mono ?_); rintro e w' ⟨rfl, ⟨nd, rfl⟩⟩) | (go_at_call 20; (with_reducible refine (vigilkeep_Bits.calls t697 t688 true _ A23.out).mono ?_); rintro e w' ⟨rfl, ⟨nd, rfl⟩⟩) | (go_at_call 17; (with_reducible refine (vigillaw03_wakes.calls kj6  t702 _ A25.out).mono ?_); rintro e w32 ⟨rfl, hb⟩; replace HB := lb HB hb; (try clear hb); (try clear hb2); (try clear hk); (try clear hi)))
           go_ret
           exact ex (lk HB)
          ·
           replace c24 := Bool.eq_false_iff.mpr c24
           subst c24
           have H1 : (some false) = some r := by rw [if_neg (show ¬ (false = true) by decide)] at H; exact H
           clear H
           have H := H1
           clear H1
           obtain rfl := Option.some.inj H
           go_wp2_with (first | ((with_reducible refine gate_callee (f := 18) rfl ?_); refine gL (some 39) Tryd.func18 #[.string t687] ?_; (with_reducible refine (num_Parse.calls kj6 t687 t690 t691 _ A10.out).mono ?_); rintro e w33 ⟨rfl, hb⟩; refine ⟨_, rfl, ?_⟩; replace HB := lb HB hb; (try clear hb); (try clear hb2); (try clear hk); (try clear hi); have hcs34 := Hd.str_cat (P := Tryd.prog) (s := t687) (t := (⟨#[46, 49]⟩ : ByteArray)) (y := y692) (by first | (with_reducible assumption) | assumption | exact of_eq_true (by assumption) | omega) Ny692.out; have hcs34' := Hd.str_cat' (P := Tryd.prog) (s := t687) (t := (⟨#[46, 49]⟩ : ByteArray)) (y := y692) (by first | (with_reducible assumption) | assumption | exact of_eq_true (by assumption) | omega) Ny692.out) | ((with_reducible refine gate_callee (f := 18) rfl ?_); refine gL (some 45) Tryd.func18 #[.string y692] ?_; (with_reducible refine (num_Parse.calls kj6 y692 t693 t694 _ A12.out).mono ?_); rintro e w35 ⟨rfl, hb⟩; refine ⟨_, rfl, ?_⟩; replace HB := lb HB hb; (try clear hb); (try clear hb2); (try clear hk); (try clear hi)) | ((with_reducible refine gate_callee (f := 24) rfl ?_); refine gL (some 50) Tryd.func24 #[.string t687] ?_; (with_reducible refine (Hd.vigillaw03_less.calls t687 t695 _ A13.out).mono ?_); rintro e w36 ⟨rfl, hb⟩; refine ⟨_, rfl, ?_⟩; replace HB := lb HB hb; (try clear hb); (try clear hb2); (try clear hk); (try clear hi); have hcs37 := Hd.str_cat (P := Tryd.prog) (s := t695) (t := (⟨#[46, 57]⟩ : ByteArray)) (y := y696) (by first | (with_reducible assumption) | assumption | exact of_eq_true (by assumption) | omega) Ny696.out; have hcs37' := Hd.str_cat' (P := Tryd.prog) (s := t695) (t := (⟨#[46, 57]⟩ : ByteArray)) (y := y696) (by first | (with_reducible assumption) | assumption | exact of_eq_true (by assumption) | omega) Ny696.out) | ((with_reducible refine gate_callee (f := 18) rfl ?_); refine gL (some 52) Tryd.func18 #[.string y696] ?_; (with_reducible refine (num_Parse.calls kj6 y696 t697 t698 _ A15.out).mono ?_); rintro e w38 ⟨rfl, hb⟩; refine ⟨_, rfl, ?_⟩; replace HB := lb HB hb; (try clear hb); (try clear hb2); (try clear hk); (try clear hi)) | (go_at_call 20; (with_reducible refine (vigilkeep_Bits.calls t690 x8_6 true _ A19.out).mono ?_); rintro e w' ⟨rfl, ⟨nd, rfl⟩⟩) | (go_at_call 20; (with_reducible refine (vigilkeep_Bits.calls t693 t689 true _ A21.out).mono ?_); rintro e w' ⟨rfl, ⟨nd, rfl⟩⟩) | (go_at_call 20; (with_reducible refine (vigilkeep_Bits.calls t697 t688 false _ A23.out).mono ?_); rintro e w' ⟨rfl, ⟨nd, rfl⟩⟩))
           go_ret
           exact ex (lk HB)
         ·
          replace c22 := Bool.eq_false_iff.mpr c22
          subst c22
          have H1 : (some false) = some r := by rw [if_neg (show ¬ (false = true) by decide)] at H; exact H
          clear H
          have H := H1
          clear H1
          obtain rfl := Option.some.inj H
          go_wp2_with (first | ((with_reducible refine gate_callee (f := 18) rfl ?_); refine gL (some 39) Tryd.func18 #[.string t687] ?_; (with_reducible refine (num_Parse.calls kj6 t687 t690 t691 _ A10.out).mono ?_); rintro e w39 ⟨rfl, hb⟩; refine ⟨_, rfl, ?_⟩; replace HB := lb HB hb; (try clear hb); (try clear hb2); (try clear hk); (try clear hi); have hcs40 := Hd.str_cat (P := Tryd.prog) (s := t687) (t := (⟨#[46, 49]⟩ : ByteArray)) (y := y692) (by first | (with_reducible assumption) | assumption | exact of_eq_true (by assumption) | omega) Ny692.out; have hcs40' := Hd.str_cat' (P := Tryd.prog) (s := t687) (t := (⟨#[46, 49]⟩ : ByteArray)) (y := y692) (by first | (with_reducible assumption) | assumption | exact of_eq_true (by assumption) | omega) Ny692.out) | ((with_reducible refine gate_callee (f := 18) rfl ?_); refine gL (some 45) Tryd.func18 #[.string y692] ?_; (with_reducible refine (num_Parse.calls kj6 y692 t693 t694 _ A12.out).mono ?_); rintro e w41 ⟨rfl, hb⟩; refine ⟨_, rfl, ?_⟩; replace HB := lb HB hb; (try clear hb); (try clear hb2); (try clear hk); (try clear hi)) | ((with_reducible refine gate_callee (f := 24) rfl ?_); refine gL (some 50) Tryd.func24 #[.string t687] ?_; (with_reducible refine (Hd.vigillaw03_less.calls t687 t695 _ A13.out).mono ?_); rintro e w42 ⟨rfl, hb⟩; refine ⟨_, rfl, ?_⟩; replace HB := lb HB hb; (try clear hb); (try clear hb2); (try clear hk); (try clear hi); have hcs43 := Hd.str_cat (P := Tryd.prog) (s := t695) (t := (⟨#[46, 57]⟩ : ByteArray)) (y := y696) (by first | (with_reducible assumption) | assumption | exact of_eq_true (by assumption) | omega) Ny696.out; have hcs43' := Hd.str_cat' (P := Tryd.prog) (s := t695) (t := (⟨#[46, 57]⟩ : ByteArray)) (y := y696) (by first | (with_reducible assumption) | assumption | exact of_eq_true (by assumption) | omega) Ny696.out) | ((with_reducible refine gate_callee (f := 18) rfl ?_); refine gL (some 52) Tryd.func18 #[.string y696] ?_; (with_reducible refine (num_Parse.calls kj6 y696 t697 t698 _ A15.out).mono ?_); rintro e w44 ⟨rfl, hb⟩; refine ⟨_, rfl, ?_⟩; replace HB := lb HB hb; (try clear hb); (try clear hb2); (try clear hk); (try clear hi)) | (go_at_call 20; (with_reducible refine (vigilkeep_Bits.calls t690 x8_6 true _ A19.out).mono ?_); rintro e w' ⟨rfl, ⟨nd, rfl⟩⟩) | (go_at_call 20; (with_reducible refine (vigilkeep_Bits.calls t693 t689 false _ A21.out).mono ?_); rintro e w' ⟨rfl, ⟨nd, rfl⟩⟩))
          go_ret
          exact ex (lk HB)
        ·
         replace c20 := Bool.eq_false_iff.mpr c20
         subst c20
         have H1 : (some false) = some r := by rw [if_neg (show ¬ (false = true) by decide)] at H; exact H
         clear H
         have H := H1
         clear H1
         obtain rfl := Option.some.inj H
         go_wp2_with (first | ((with_reducible refine gate_callee (f := 18) rfl ?_); refine gL (some 39) Tryd.func18 #[.string t687] ?_; (with_reducible refine (num_Parse.calls kj6 t687 t690 t691 _ A10.out).mono ?_); rintro e w45 ⟨rfl, hb⟩; refine ⟨_, rfl, ?_⟩; replace HB := lb HB hb; (try clear hb); (try clear hb2); (try clear hk); (try clear hi); have hcs46 := Hd.str_cat (P := Tryd.prog) (s := t687) (t := (⟨#[46, 49]⟩ : ByteArray)) (y := y692) (by first | (with_reducible assumption) | assumption | exact of_eq_true (by assumption) | omega) Ny692.out; have hcs46' := Hd.str_cat' (P := Tryd.prog) (s := t687) (t := (⟨#[46, 49]⟩ : ByteArray)) (y := y692) (by first | (with_reducible assumption) | assumption | exact of_eq_true (by assumption) | omega) Ny692.out) | ((with_reducible refine gate_callee (f := 18) rfl ?_); refine gL (some 45) Tryd.func18 #[.string y692] ?_; (with_reducible refine (num_Parse.calls kj6 y692 t693 t694 _ A12.out).mono ?_); rintro e w47 ⟨rfl, hb⟩; refine ⟨_, rfl, ?_⟩; replace HB := lb HB hb; (try clear hb); (try clear hb2); (try clear hk); (try clear hi)) | ((with_reducible refine gate_callee (f := 24) rfl ?_); refine gL (some 50) Tryd.func24 #[.string t687] ?_; (with_reducible refine (Hd.vigillaw03_less.calls t687 t695 _ A13.out).mono ?_); rintro e w48 ⟨rfl, hb⟩; refine ⟨_, rfl, ?_⟩; replace HB := lb HB hb; (try clear hb); (try clear hb2); (try clear hk); (try clear hi); have hcs49 := Hd.str_cat (P := Tryd.prog) (s := t695) (t := (⟨#[46, 57]⟩ : ByteArray)) (y := y696) (by first | (with_reducible assumption) | assumption | exact of_eq_true (by assumption) | omega) Ny696.out; have hcs49' := Hd.str_cat' (P := Tryd.prog) (s := t695) (t := (⟨#[46, 57]⟩ : ByteArray)) (y := y696) (by first | (with_reducible assumption) | assumption | exact of_eq_true (by assumption) | omega) Ny696.out) | ((with_reducible refine gate_callee (f := 18) rfl ?_); refine gL (some 52) Tryd.func18 #[.string y696] ?_; (with_reducible refine (num_Parse.calls kj6 y696 t697 t698 _ A15.out).mono ?_); rintro e w50 ⟨rfl, hb⟩; refine ⟨_, rfl, ?_⟩; replace HB := lb HB hb; (try clear hb); (try clear hb2); (try clear hk); (try clear hi)) | (go_at_call 20; (with_reducible refine (vigilkeep_Bits.calls t690 x8_6 false _ A19.out).mono ?_); rintro e w' ⟨rfl, ⟨nd, rfl⟩⟩))
         go_ret
         exact ex (lk HB)
       ·
        rw [if_neg c18] at H
        have c18b0 : (t698 == 0) = false := beq_eq_false_iff_ne.mpr c18
        have c18b1 : (t698 != 0) = true := bne_iff_ne.mpr c18
        obtain rfl := Option.some.inj H
        go_wp2_with (first | ((with_reducible refine gate_callee (f := 18) rfl ?_); refine gL (some 39) Tryd.func18 #[.string t687] ?_; (with_reducible refine (num_Parse.calls kj6 t687 t690 t691 _ A10.out).mono ?_); rintro e w51 ⟨rfl, hb⟩; refine ⟨_, rfl, ?_⟩; replace HB := lb HB hb; (try clear hb); (try clear hb2); (try clear hk); (try clear hi); have hcs52 := Hd.str_cat (P := Tryd.prog) (s := t687) (t := (⟨#[46, 49]⟩ : ByteArray)) (y := y692) (by first | (with_reducible assumption) | assumption | exact of_eq_true (by assumption) | omega) Ny692.out; have hcs52' := Hd.str_cat' (P := Tryd.prog) (s := t687) (t := (⟨#[46, 49]⟩ : ByteArray)) (y := y692) (by first | (with_reducible assumption) | assumption | exact of_eq_true (by assumption) | omega) Ny692.out) | ((with_reducible refine gate_callee (f := 18) rfl ?_); refine gL (some 45) Tryd.func18 #[.string y692] ?_; (with_reducible refine (num_Parse.calls kj6 y692 t693 t694 _ A12.out).mono ?_); rintro e w53 ⟨rfl, hb⟩; refine ⟨_, rfl, ?_⟩; replace HB := lb HB hb; (try clear hb); (try clear hb2); (try clear hk); (try clear hi)) | ((with_reducible refine gate_callee (f := 24) rfl ?_); refine gL (some 50) Tryd.func24 #[.string t687] ?_; (with_reducible refine (Hd.vigillaw03_less.calls t687 t695 _ A13.out).mono ?_); rintro e w54 ⟨rfl, hb⟩; refine ⟨_, rfl, ?_⟩; replace HB := lb HB hb; (try clear hb); (try clear hb2); (try clear hk); (try clear hi); have hcs55 := Hd.str_cat (P := Tryd.prog) (s := t695) (t := (⟨#[46, 57]⟩ : ByteArray)) (y := y696) (by first | (with_reducible assumption) | assumption | exact of_eq_true (by assumption) | omega) Ny696.out; have hcs55' := Hd.str_cat' (P := Tryd.prog) (s := t695) (t := (⟨#[46, 57]⟩ : ByteArray)) (y := y696) (by first | (with_reducible assumption) | assumption | exact of_eq_true (by assumption) | omega) Ny696.out) | ((with_reducible refine gate_callee (f := 18) rfl ?_); refine gL (some 52) Tryd.func18 #[.string y696] ?_; (with_reducible refine (num_Parse.calls kj6 y696 t697 t698 _ A15.out).mono ?_); rintro e w56 ⟨rfl, hb⟩; refine ⟨_, rfl, ?_⟩; replace HB := lb HB hb; (try clear hb); (try clear hb2); (try clear hk); (try clear hi)))
        go_ret
        exact ex (lk HB)
      ·
       rw [if_neg c17] at H
       have c17b0 : (t694 == 0) = false := beq_eq_false_iff_ne.mpr c17
       have c17b1 : (t694 != 0) = true := bne_iff_ne.mpr c17
       obtain rfl := Option.some.inj H
       go_wp2_with (first | ((with_reducible refine gate_callee (f := 18) rfl ?_); refine gL (some 39) Tryd.func18 #[.string t687] ?_; (with_reducible refine (num_Parse.calls kj6 t687 t690 t691 _ A10.out).mono ?_); rintro e w57 ⟨rfl, hb⟩; refine ⟨_, rfl, ?_⟩; replace HB := lb HB hb; (try clear hb); (try clear hb2); (try clear hk); (try clear hi); have hcs58 := Hd.str_cat (P := Tryd.prog) (s := t687) (t := (⟨#[46, 49]⟩ : ByteArray)) (y := y692) (by first | (with_reducible assumption) | assumption | exact of_eq_true (by assumption) | omega) Ny692.out; have hcs58' := Hd.str_cat' (P := Tryd.prog) (s := t687) (t := (⟨#[46, 49]⟩ : ByteArray)) (y := y692) (by first | (with_reducible assumption) | assumption | exact of_eq_true (by assumption) | omega) Ny692.out) | ((with_reducible refine gate_callee (f := 18) rfl ?_); refine gL (some 45) Tryd.func18 #[.string y692] ?_; (with_reducible refine (num_Parse.calls kj6 y692 t693 t694 _ A12.out).mono ?_); rintro e w59 ⟨rfl, hb⟩; refine ⟨_, rfl, ?_⟩; replace HB := lb HB hb; (try clear hb); (try clear hb2); (try clear hk); (try clear hi)) | ((with_reducible refine gate_callee (f := 24) rfl ?_); refine gL (some 50) Tryd.func24 #[.string t687] ?_; (with_reducible refine (Hd.vigillaw03_less.calls t687 t695 _ A13.out).mono ?_); rintro e w60 ⟨rfl, hb⟩; refine ⟨_, rfl, ?_⟩; replace HB := lb HB hb; (try clear hb); (try clear hb2); (try clear hk); (try clear hi); have hcs61 := Hd.str_cat (P := Tryd.prog) (s := t695) (t := (⟨#[46, 57]⟩ : ByteArray)) (y := y696) (by first | (with_reducible assumption) | assumption | exact of_eq_true (by assumption) | omega) Ny696.out; have hcs61' := Hd.str_cat' (P := Tryd.prog) (s := t695) (t := (⟨#[46, 57]⟩ : ByteArray)) (y := y696) (by first | (with_reducible assumption) | assumption | exact of_eq_true (by assumption) | omega) Ny696.out) | ((with_reducible refine gate_callee (f := 18) rfl ?_); refine gL (some 52) Tryd.func18 #[.string y696] ?_; (with_reducible refine (num_Parse.calls kj6 y696 t697 t698 _ A15.out).mono ?_); rintro e w62 ⟨rfl, hb⟩; refine ⟨_, rfl, ?_⟩; replace HB := lb HB hb; (try clear hb); (try clear hb2); (try clear hk); (try clear hi)))
       go_ret
       exact ex (lk HB)
     ·
      rw [if_neg c16] at H
      have c16b0 : (t691 == 0) = false := beq_eq_false_iff_ne.mpr c16
      have c16b1 : (t691 != 0) = true := bne_iff_ne.mpr c16
      obtain rfl := Option.some.inj H
      go_wp2_with (first | ((with_reducible refine gate_callee (f := 18) rfl ?_); refine gL (some 39) Tryd.func18 #[.string t687] ?_; (with_reducible refine (num_Parse.calls kj6 t687 t690 t691 _ A10.out).mono ?_); rintro e w63 ⟨rfl, hb⟩; refine ⟨_, rfl, ?_⟩; replace HB := lb HB hb; (try clear hb); (try clear hb2); (try clear hk); (try clear hi); have hcs64 := Hd.str_cat (P := Tryd.prog) (s := t687) (t := (⟨#[46, 49]⟩ : ByteArray)) (y := y692) (by first | (with_reducible assumption) | assumption | exact of_eq_true (by assumption) | omega) Ny692.out; have hcs64' := Hd.str_cat' (P := Tryd.prog) (s := t687) (t := (⟨#[46, 49]⟩ : ByteArray)) (y := y692) (by first | (with_reducible assumption) | assumption | exact of_eq_true (by assumption) | omega) Ny692.out) | ((with_reducible refine gate_callee (f := 18) rfl ?_); refine gL (some 45) Tryd.func18 #[.string y692] ?_; (with_reducible refine (num_Parse.calls kj6 y692 t693 t694 _ A12.out).mono ?_); rintro e w65 ⟨rfl, hb⟩; refine ⟨_, rfl, ?_⟩; replace HB := lb HB hb; (try clear hb); (try clear hb2); (try clear hk); (try clear hi)) | ((with_reducible refine gate_callee (f := 24) rfl ?_); refine gL (some 50) Tryd.func24 #[.string t687] ?_; (with_reducible refine (Hd.vigillaw03_less.calls t687 t695 _ A13.out).mono ?_); rintro e w66 ⟨rfl, hb⟩; refine ⟨_, rfl, ?_⟩; replace HB := lb HB hb; (try clear hb); (try clear hb2); (try clear hk); (try clear hi); have hcs67 := Hd.str_cat (P := Tryd.prog) (s := t695) (t := (⟨#[46, 57]⟩ : ByteArray)) (y := y696) (by first | (with_reducible assumption) | assumption | exact of_eq_true (by assumption) | omega) Ny696.out; have hcs67' := Hd.str_cat' (P := Tryd.prog) (s := t695) (t := (⟨#[46, 57]⟩ : ByteArray)) (y := y696) (by first | (with_reducible assumption) | assumption | exact of_eq_true (by assumption) | omega) Ny696.out) | ((with_reducible refine gate_callee (f := 18) rfl ?_); refine gL (some 52) Tryd.func18 #[.string y696] ?_; (with_reducible refine (num_Parse.calls kj6 y696 t697 t698 _ A15.out).mono ?_); rintro e w68 ⟨rfl, hb⟩; refine ⟨_, rfl, ?_⟩; replace HB := lb HB hb; (try clear hb); (try clear hb2); (try clear hk); (try clear hi)))
      go_ret
      exact ex (lk HB)
    ·
     rw [if_neg c14] at H
     exact absurd H (by simp)
   ·
    rw [if_neg c11] at H
    exact absurd H (by simp)

/-- THE ONE PURE STATEMENT of vigillaw03_NumNearest: yours. -/
def vigillaw03_NumNearest.Pure : Prop := ∀ (a0 : Int) (a1 : Int), (Lit.int .u64 a0).wf = true → (Lit.int .i64 a1).wf = true → ∃ k, vigillaw03_NumNearest.f k a0 a1 = some true
theorem vigillaw03_NumNearest.walk (P : vigillaw03_NumNearest.Pure) (a0 : Int) (a1 : Int) (w : World) (w0 : (Lit.int .u64 a0).wf = true) (w1 : (Lit.int .i64 a1).wf = true) :
  Calls Tryd.prog 6 #[.int .u64 a0, .int .i64 a1] w fun e w' => e = .returned (.bool true) ∧ Below w.heap.size w w' := by
 obtain ⟨k, h⟩ := P a0 a1 w0 w1
 refine (vigillaw03_NumNearest.calls k a0 a1 true w h).mono ?_
 rintro e w' ⟨rfl, hd⟩
 exact ⟨rfl, hd⟩

end Go.Proofs.YtjlnfnfdibfniaaDoor.F

/- The plain law of NumNearest: the middle between two floats is read as the even one, more as the greater, less as the lesser. -/
namespace Go.Proofs.YtjlnfnfdibfniaaDoor.Pl
open F Hd Go.RowKit Go.Proofs.YtjlnfnfdibfniaaDoorW.PrintWords Go.Proofs.YtjlnfnfdibfniaaDoorW.PrintMore
theorem wakes_runs : Runs (fun k => F.vigillaw03_wakes.f k) true := by
  refine ⟨400, fun k hk => ?_⟩
  obtain ⟨d, rfl⟩ : ∃ d, k = 400 + d := ⟨k - 400, by omega⟩
  induction d with
  | zero => exact wakes
  | succ d ih => exact F.vigillaw03_wakes.mono _ _ (ih (by omega))
theorem digs_all (l r : List UInt8) (hd : ∀ c ∈ l, isDig c = true) (hr : ∀ c s, r = c :: s → isDig c = false) : digs (l ++ r) = (l, r) := by
  have : (l ++ r).takeWhile isDig = l := by
    induction l with
    | nil =>
      cases r with
      | nil => rfl
      | cons c s => rw [List.nil_append, List.takeWhile_cons, hr c s rfl]; rfl
    | cons a l ih =>
      rw [List.cons_append, List.takeWhile_cons, hd a (List.mem_cons_self ..), if_pos rfl, ih (fun c hc => hd c (List.mem_cons_of_mem _ hc))]
  unfold digs
  rw [this, List.take_left', List.drop_left']
  · rfl
  · rfl
theorem dspec_int (l : List UInt8) (hd : ∀ c ∈ l, isDig c = true) (hne : l ≠ []) : dspec l = some (l, 0) := by
  have := digs_all l [] hd (fun c s h => by cases h)
  rw [List.append_nil] at this
  unfold dspec
  rw [this]
  simp only
  unfold tailOf
  rw [if_neg hne]
theorem dspec_point (l r : List UInt8) (hd : ∀ c ∈ l, isDig c = true) (hr : ∀ c ∈ r, isDig c = true) (hne : l ≠ []) : dspec (l ++ 46 :: r) = some (l ++ r, -(r.length : Int)) := by
  have h1 := digs_all l (46 :: r) hd (fun c s h => by injection h with h _; rw [← h]; rfl)
  have h2 := digs_all r [] hr (fun c s h => by cases h)
  rw [List.append_nil] at h2
  unfold dspec
  rw [h1]
  simp only
  rw [if_pos (by rfl), h2]
  simp only
  unfold tailOf
  rw [if_neg (fun h => hne (List.append_eq_nil_iff.1 h).1)]
/-- A text that begins with a digit is read as the float nearest to what it says. -/
theorem parse_dec (l : List UInt8) (hl : l.length ≤ 400) (c : UInt8) (r : List UInt8) (hc : l = c :: r) (hd : isDig c = true) (ds : List UInt8) (x : Int) (hs : dspec l = some (ds, x)) (K : Nat) (hK : DecNear (val ds) x K) :
    Runs (fun k => num_Parse.f k (mk l)) (K, 0) := by
  obtain ⟨b, e, hp, hrun⟩ := parse_f l (by omega)
  have hdc : 48 ≤ c.toNat ∧ c.toNat ≤ 57 := by simpa [isDig] using hd
  have h1 : sgn l = (false, l) := by
    rw [hc]; unfold sgn; simp only
    rw [if_neg (by omega), if_neg (by omega)]
  have h2 : lowc c = c := by unfold lowc; rw [if_neg (by omega)]
  have h3 : ∀ a s, l.map lowc = a :: s → a.toNat ≤ 57 := by
    intro a s h
    rw [hc, List.map_cons, h2] at h
    injection h with h _
    rw [← h]; exact hdc.2
  have hpt : ParseTo l K 0 := by
    unfold ParseTo
    rw [if_neg (by omega), h1]
    rw [if_neg (fun h => by have := h3 _ _ h; exact absurd this (by decide)), if_neg (fun h => by rcases h with h | h <;> exact absurd (h3 _ _ h) (by decide))]
    simp only
    rw [hs]
    exact ⟨trivial, K, hK, rfl⟩
  obtain ⟨rfl, rfl⟩ := hp.unique hpt
  exact hrun
/-- The digits of a list to the base 10, written. -/
def tx (l : List Int) : List UInt8 := l.reverse.map (fun d => UInt8.ofNat (48 + d.toNat))
theorem tx_snoc (l : List Int) (d : Int) : tx (l ++ [d]) = UInt8.ofNat (48 + d.toNat) :: tx l := by unfold tx; rw [List.reverse_append]; rfl
theorem tx_spec (l : List Int) (h : Wf 10 l) : val (tx l) = nv 10 l ∧ (∀ c ∈ tx l, isDig c = true) ∧ (tx l).length = l.length := by
  refine ⟨?_, ?_, by unfold tx; simp⟩
  · induction l using snoc_ind with
    | h0 => rfl
    | h1 l d ih =>
      have hd := h d (by simp)
      rw [tx_snoc, nv_append, nv_one]
      have e := val_append [UInt8.ofNat (48 + d.toNat)] (tx l)
      rw [List.singleton_append] at e
      have e2 : val [UInt8.ofNat (48 + d.toNat)] = d.toNat := by
        have := dig_of d.toNat (by omega)
        unfold val
        simp only [List.foldl_cons, List.foldl_nil]
        omega
      have e3 : (tx l).length = l.length := by unfold tx; simp
      rw [e, e2, e3, ih h.left, Nat.mul_comm]; omega
  · intro c hc
    unfold tx at hc
    rw [List.mem_map] at hc
    obtain ⟨d, hd, rfl⟩ := hc
    have hd := h d (List.mem_reverse.1 hd)
    have := dig_of d.toNat (by omega)
    simp only [isDig, Bool.and_eq_true, decide_eq_true_eq]
    omega
theorem str_one (n : Nat) : strOfNums [(n : Int)] = mk [UInt8.ofNat n] := by
  refine bytes_ext ?_
  rw [mk_data]
  simp [strOfNums]
theorem dig_l3 (l : List Int) (hw : Wf 10 l) (hl : l.length ≤ 1000) : ∀ (j : Nat) (acc : List UInt8), j ≤ l.length → acc.length + j ≤ 1000 → Runs (fun k => vigillaw03_digits.l3 k l (mk acc) ((j : Int) - 1)) (mk (acc ++ tx (l.take j))) := by
  intro j
  induction j with
  | zero =>
    intro acc _ _
    refine Runs.suc ?_
    simp only [vigillaw03_digits.l3]
    exact Runs.no (by omega) ((Runs.pure _).of (by simp [tx]))
  | succ j ih =>
    intro acc hj ha
    have hjl : j < l.length := by omega
    have hx := hw.get hjl
    refine Runs.suc ?_
    simp only [vigillaw03_digits.l3]
    rw [show ((j + 1 : Nat) : Int) - 1 = (j : Int) by omega, rd_get l j hjl, w64 (n := 48 + l[j]) (by omega) (by omega), w64 (n := (j : Int) - 1) (by omega) (by omega)]
    refine Runs.yes (by omega) (Runs.yes (by omega) (Runs.yes (by omega) (Runs.bind (Runs.pure _) ?_)))
    have e : ([(48 + l[j]) % 256] : List Int) = [((48 + l[j].toNat : Nat) : Int)] := by congr 1; omega
    show Runs (fun k => if (mk acc).size + (strOfNums [(48 + l[j]) % 256]).size ≤ 9223372036854775807 then vigillaw03_digits.l3 k l (mk acc ++ strOfNums [(48 + l[j]) % 256]) ((j : Int) - 1) else none) _
    rw [e, str_one, mk_append, mk_size, mk_size]
    refine Runs.yes (by simp; omega) ?_
    refine (ih (acc ++ [UInt8.ofNat (48 + l[j].toNat)]) (by omega) (by simp; omega)).of ?_
    rw [List.take_succ_eq_append_getElem hjl, tx_snoc]
    simp
/-- What the list of digits is written as. -/
def DigOut (v n : Nat) (g : Nat → Option ByteArray) : Prop := ∃ l : List UInt8, Runs g (mk l) ∧ (∀ c ∈ l, isDig c = true) ∧ val l = v ∧ l.length ≤ n ∧ l ≠ []
theorem DigOut.suc {v n : Nat} {g : Nat → Option ByteArray} (h : DigOut v n (fun k => g (k + 1))) : DigOut v n g := by
  obtain ⟨l, h, r⟩ := h; exact ⟨l, h.suc, r⟩
theorem DigOut.yes {v n : Nat} {c : Prop} [Decidable c] {A B : Nat → Option ByteArray} (hc : c) (h : DigOut v n A) : DigOut v n (fun k => if c then A k else B k) := by
  obtain ⟨l, h, r⟩ := h; exact ⟨l, Runs.yes hc h, r⟩
theorem DigOut.no {v n : Nat} {c : Prop} [Decidable c] {A B : Nat → Option ByteArray} (hc : ¬ c) (h : DigOut v n B) : DigOut v n (fun k => if c then A k else B k) := by
  obtain ⟨l, h, r⟩ := h; exact ⟨l, Runs.no hc h, r⟩
theorem dig_l12 (e : Nat) (he : e ≤ 100) : ∀ (d x6 : Nat), x6 + d = e → ∀ (l : List Int), Wf 10 l → l ≠ [] → l.length + d ≤ 900 →
    DigOut (nv 10 l * 2 ^ d) (l.length + d) (fun k => vigillaw03_digits.l1 k (e : Int) l (x6 : Int)) := by
  intro d
  induction d with
  | zero =>
    intro x6 hx l hw hne hl
    have hpos : 0 < l.length := List.length_pos_iff.2 hne
    refine DigOut.suc ?_
    simp only [vigillaw03_digits.l1]
    refine DigOut.no (by omega) ?_
    rw [w64 (by omega) (by omega)]
    obtain ⟨h1, h2, h3⟩ := tx_spec l hw
    have := dig_l3 l hw (by omega) l.length [] (Nat.le_refl _) (by simp; omega)
    rw [List.take_length, List.nil_append] at this
    refine ⟨tx l, ?_, h2, by rw [h1]; simp, by omega, fun h => ?_⟩
    · exact this
    · rw [h] at h3; simp at h3; omega
  | succ d ih =>
    intro x6 hx l hw hne hl
    refine DigOut.suc ?_
    simp only [vigillaw03_digits.l1]
    refine DigOut.yes (by omega) ?_
    have inner : ∀ (g i : Nat), i + g = l.length → ∀ (cur : List Int) (c : Nat), cur.length = l.length → Wf 10 cur → c < 2 → nv 10 (cur.take i) + 10 ^ i * (c + 2 * nv 10 (cur.drop i)) = 2 * nv 10 l →
        DigOut (nv 10 l * 2 ^ (d + 1)) (l.length + (d + 1)) (fun k => vigillaw03_digits.l2 k (e : Int) cur (x6 : Int) (c : Int) (i : Int)) := by
      intro g
      induction g with
      | zero =>
        intro i hi cur c hcl hwc hc hv
        refine DigOut.suc ?_
        simp only [vigillaw03_digits.l2]
        rw [List.take_of_length_le (by omega), List.drop_of_length_le (by omega), nv, show i = cur.length by omega] at hv
        have ew : wrap64 ((x6 : Int) + 1) = ((x6 + 1 : Nat) : Int) := by rw [w64 (by omega) (by omega)]; omega
        rw [ew]
        refine DigOut.no (by omega) ?_
        have hne2 : cur ≠ [] := by
          intro h; rw [h] at hcl
          exact hne (List.length_eq_zero_iff.1 hcl.symm)
        by_cases h0 : c = 0
        · refine DigOut.no (by omega) ?_
          have := ih (x6 + 1) (by omega) cur hwc hne2 (by omega)
          obtain ⟨s, h1, h2, h3, h4, h5⟩ := this
          refine ⟨s, h1, h2, ?_, by omega, h5⟩
          rw [h3, Nat.pow_succ]
          rw [h0] at hv
          have : nv 10 cur = 2 * nv 10 l := by simpa using hv
          rw [this]; grind
        · refine DigOut.yes (by omega) (DigOut.yes (by omega) ?_)
          have := ih (x6 + 1) (by omega) (cur ++ [(c : Int)]) (hwc.append (Wf.one (by omega) (by omega))) (by simp) (by simp; omega)
          obtain ⟨s, h1, h2, h3, h4, h5⟩ := this
          refine ⟨s, h1, h2, ?_, by simp at h4; omega, h5⟩
          rw [h3, nv_append, nv_one, Int.toNat_natCast, Nat.pow_succ]
          have : nv 10 cur + 10 ^ cur.length * c = 2 * nv 10 l := by simpa using hv
          rw [this]; grind
      | succ g ih2 =>
        intro i hi cur c hcl hwc hc hv
        have hil : i < cur.length := by omega
        obtain ⟨y, hy⟩ := Int.eq_ofNat_of_zero_le (hwc.get hil).1
        have hy1 : y < 10 := by have := (hwc.get hil).2; omega
        refine DigOut.suc ?_
        simp only [vigillaw03_digits.l2]
        rw [rd_get cur i hil, hy, w64 (n := 2 * (y : Int)) (by omega) (by omega), w64 (n := 2 * (y : Int) + (c : Int)) (by omega) (by omega), w64 (n := (i : Int) + 1) (by omega) (by omega)]
        have e1 : Int.tmod (2 * (y : Int) + (c : Int)) 10 = (((2 * y + c) % 10 : Nat) : Int) := by rw [Int.tmod_eq_emod_of_nonneg (by omega)]; omega
        have e2 : Int.tdiv (2 * (y : Int) + (c : Int)) 10 = (((2 * y + c) / 10 : Nat) : Int) := by rw [Int.tdiv_eq_ediv_of_nonneg (by omega)]; omega
        rw [e1, e2, w64 (by omega) (by omega), Int.toNat_natCast]
        refine DigOut.yes (by omega) (DigOut.yes (by omega) ?_)
        have hq : (2 * y + c) % 10 + 10 * ((2 * y + c) / 10) = 2 * y + c := Nat.mod_add_div ..
        have hr : (2 * y + c) % 10 < 10 := Nat.mod_lt _ (by decide)
        have hq2 : (2 * y + c) / 10 < 2 := by omega
        generalize (2 * y + c) % 10 = r at *
        generalize (2 * y + c) / 10 = q at *
        have ht := take_set_succ cur i (r : Int) hil
        have hdr : (cur.set i (r : Int)).drop (i + 1) = cur.drop (i + 1) := by rw [List.drop_set_of_lt (by omega)]
        refine ih2 (i + 1) (by omega) (cur.set i (r : Int)) q (by rw [List.length_set]; exact hcl) ?_ hq2 ?_
        · intro z hz
          rcases List.mem_or_eq_of_mem_set hz with h | h
          · exact hwc z h
          · rw [h]; omega
        · rw [ht, hdr, nv_append, nv_one, List.length_take, Nat.min_eq_left (by omega), Int.toNat_natCast, ← hv, nv_drop _ cur i hil, hy, Int.toNat_natCast, Nat.pow_succ]
          generalize nv 10 (cur.take i) = N
          generalize nv 10 (cur.drop (i + 1)) = D
          generalize 10 ^ i = p
          grind
    exact inner l.length 0 (by omega) l 0 rfl hw (by omega) (by rw [List.take_zero, List.drop_zero, nv]; simp)
theorem dig_l0 (e : Nat) (v0 : Nat) (n0 : Nat) : ∀ (f x : Nat), x < 10 ^ f → f ≤ 20 → ∀ acc : List Int, acc.length + f ≤ 50 → DigOut v0 n0 (fun k => vigillaw03_digits.l1 k (e : Int) (acc ++ lim 10 x) 0) → DigOut v0 n0 (fun k => vigillaw03_digits.l0 k (x : Int) (e : Int) acc) := by
  intro f
  induction f with
  | zero =>
    intro x hx hf acc ha h
    have : x = 0 := by simpa using hx
    subst this
    rw [lim_zero, List.append_nil] at h
    refine DigOut.suc ?_
    simp only [vigillaw03_digits.l0]
    exact DigOut.no (by omega) h
  | succ f ih =>
    intro x hx hf acc ha h
    refine DigOut.suc ?_
    simp only [vigillaw03_digits.l0]
    have hx20 : x < 10 ^ 20 := Nat.lt_of_lt_of_le hx (Nat.pow_le_pow_right (by decide) hf)
    rcases Nat.eq_zero_or_pos x with h0 | h0
    · subst h0
      rw [lim_zero, List.append_nil] at h
      exact DigOut.no (by omega) h
    · refine DigOut.yes (by omega) (DigOut.yes (by omega) ?_)
      rw [lim_pos (by decide) h0] at h
      have e1 : wrap64 (Int.tmod (x : Int) 10) = ((x % 10 : Nat) : Int) := by
        rw [Int.tmod_eq_emod_of_nonneg (by omega), w64 (by omega) (by omega)]; omega
      have e2 : IntKind.u64.wrap (Int.tdiv (x : Int) 10) = ((x / 10 : Nat) : Int) := by
        rw [Int.tdiv_eq_ediv_of_nonneg (by omega), u64w (by omega) (by omega)]; omega
      rw [e1, e2]
      refine ih (x / 10) (by rw [Nat.pow_succ] at hx; omega) (by omega) _ (by simp; omega) ?_
      rw [List.append_assoc]; exact h
theorem digits_f (x e : Nat) (h0 : 0 < x) (hx : x < 10 ^ 19) (he : e ≤ 100) : DigOut (x * 2 ^ e) 200 (fun k => vigillaw03_digits.f k (x : Int) (e : Int)) := by
  simp only [vigillaw03_digits.f]
  refine dig_l0 e _ _ 19 x hx (by omega) [] (by simp) ?_
  rw [List.nil_append]
  have hne : lim 10 x ≠ [] := by rw [lim_pos (by decide) h0]; simp
  have hl := lim_len (B := 10) (by decide) 19 x hx
  obtain ⟨s, h1, h2, h3, h4, h5⟩ := dig_l12 e he e 0 (by omega) (lim 10 x) (wf_lim (by decide) x) hne (by omega)
  rw [nv_lim (by decide)] at h3
  exact ⟨s, h1, h2, h3, by omega, h5⟩
theorem less_spec : ∀ l : List UInt8, (∀ c ∈ l, isDig c = true) → 0 < val l.reverse → val (lessR l).reverse = val l.reverse - 1 ∧ (∀ c ∈ lessR l, isDig c = true) ∧ (lessR l).length = l.length := by
  intro l
  induction l with
  | nil => intro _ h; exact absurd h (by decide)
  | cons c r ih =>
    intro hd h0
    have hc := hd c (List.mem_cons_self ..)
    simp only [isDig, Bool.and_eq_true, decide_eq_true_eq] at hc
    rw [List.reverse_cons, val_snoc] at h0
    rw [lessR]
    split
    · rename_i h
      have e : (UInt8.ofNat (c.toNat - 1)).toNat = c.toNat - 1 := by rw [UInt8.toNat_ofNat']; omega
      refine ⟨?_, ?_, rfl⟩
      · rw [List.reverse_cons, List.reverse_cons, val_snoc, val_snoc, e]; omega
      · intro x hx
        rcases List.mem_cons.1 hx with rfl | hx
        · simp only [isDig, Bool.and_eq_true, decide_eq_true_eq]; omega
        · exact hd x (List.mem_cons_of_mem _ hx)
    · obtain ⟨g1, g2, g3⟩ := ih (fun x hx => hd x (List.mem_cons_of_mem _ hx)) (by omega)
      refine ⟨?_, ?_, by rw [List.length_cons, List.length_cons, g3]⟩
      · rw [List.reverse_cons, List.reverse_cons, val_snoc, val_snoc, g1]
        have : (57 : UInt8).toNat = 57 := rfl
        omega
      · intro x hx
        rcases List.mem_cons.1 hx with rfl | hx
        · rfl
        · exact g2 x hx
theorem less_mk (l : List UInt8) (hl : l.length ≤ 1000) : vigillaw03_less.f (mk l) = some (mk (lessR l.reverse).reverse) := by
  unfold vigillaw03_less.f
  rw [mk_size, if_pos (by omega)]
  show some (lessF (mk l)) = _
  unfold lessF
  rw [mk_data]; rfl
open Ieee in
theorem log2_of (m k : Nat) (h0 : 4503599627370496 ≤ m) (h1 : m < 9007199254740992) : (m * 2 ^ k).log2 = 52 + k := by
  have hp : 0 < 2 ^ k := Nat.two_pow_pos k
  have hne : m * 2 ^ k ≠ 0 := Nat.ne_of_gt (Nat.mul_pos (by omega) hp)
  refine Nat.le_antisymm ?_ ?_
  · have : (m * 2 ^ k).log2 < 53 + k := by
      rw [Nat.log2_lt hne, Nat.pow_add]
      exact Nat.mul_lt_mul_of_pos_right (by omega) hp
    omega
  · refine (Nat.le_log2 hne).2 ?_
    rw [Nat.pow_add]
    exact Nat.mul_le_mul_right _ (by omega)
/-- A number that a float stands for is written as that float. -/
theorem nearest_exact (m k : Nat) (p : Int) (E : Nat) (h0 : 4503599627370496 ≤ m) (h1 : m < 9007199254740992) (hE : (E : Int) = p + k + 1074) : Ieee.double.nearest false (m * 2 ^ k) p = min (E * 4503599627370496 + m) INF := by
  have hp : 0 < 2 ^ k := Nat.two_pow_pos k
  have hne : m * 2 ^ k ≠ 0 := Nat.ne_of_gt (Nat.mul_pos (by omega) hp)
  unfold Ieee.Format.nearest
  rw [if_neg hne, log2_of m k h0 h1]
  have hfb : Ieee.double.fractionBits = 52 := rfl
  have hlp : Ieee.double.leastPlace = -1074 := rfl
  have hb : Ieee.double.binade = 4503599627370496 := rfl
  have hinf : Ieee.double.infRung = INF := rfl
  rw [hfb, hlp, hb, hinf]
  have e1 : max (p + ((52 + k : Nat) : Int) - ((52 : Nat) : Int)) (-1074) = p + k := by omega
  simp only [e1]
  have e2 : (p - (p + (k : Int))).toNat = 0 := by omega
  have e3 : (p + (k : Int) - p).toNat = k := by omega
  have e4 : (p + (k : Int) - -1074).toNat = E := by omega
  rw [e2, e3, e4, Nat.shiftLeft_zero]
  have ec : Ieee.Toward.even.cut false (m * 2 ^ k) k = m := by
    unfold Ieee.Toward.cut
    rw [log2_of m k h0 h1, Nat.min_eq_left (by omega), Nat.one_shiftLeft]
    simp only
    rw [Nat.mul_div_cancel _ hp, Nat.mul_mod_left]
    have a1 : decide (2 ^ k < 2 * 0) = false := by simp
    have a2 : ((2 ^ k : Nat) == 2 * 0) = false := by rw [beq_eq_false_iff_ne]; omega
    rw [a1, a2]
    simp
  rw [ec]
  unfold Ieee.Format.word
  rw [if_neg Bool.false_ne_true]
theorem nearest_exact' (m k : Nat) (p : Int) (E : Nat) (h0 : 4503599627370496 ≤ m) (h1 : m ≤ 9007199254740992) (hE : (E : Int) = p + k + 1074) : Ieee.double.nearest false (m * 2 ^ k) p = min (E * 4503599627370496 + m) INF := by
  by_cases h : m < 9007199254740992
  · exact nearest_exact m k p E h0 h hE
  · have hm : m = 9007199254740992 := by omega
    have := nearest_exact 4503599627370496 (k + 1) p (E + 1) (by omega) (by omega) (by omega)
    rw [hm, show 9007199254740992 * 2 ^ k = 4503599627370496 * 2 ^ (k + 1) by rw [Nat.pow_succ]; omega, this]
    rw [show (E + 1) * 4503599627370496 + 4503599627370496 = E * 4503599627370496 + 9007199254740992 by omega]
/-- A float doubled. -/
theorem mul_two (K : Nat) (h0 : 4503599627370496 ≤ K) (h1 : K + 4503599627370496 ≤ INF) : FloatKind.f64.format.mul K 4611686018427387904 = some (K + 4503599627370496) := by
  show Ieee.double.mul K 4611686018427387904 = _
  have hI : INF = 9218868437227405312 := rfl
  have hr : Ieee.double.read K = .number false (4503599627370496 + K % 4503599627370496) (-1074 + ((K / 4503599627370496 - 1 : Nat) : Int)) := by
    have e1 : K % Ieee.double.signWeight = K := by rw [weight]; omega
    have e2 : (K / Ieee.double.signWeight % 2 == 1) = false := by rw [weight, beq_eq_false_iff_ne]; omega
    have h1 : ¬ K < Ieee.double.binade := by rw [bin]; omega
    have h2 : K < Ieee.double.infRung := by rw [infR]; omega
    unfold Ieee.Format.read
    simp only [e1, e2]
    rw [if_neg h1, if_pos h2]
    rfl
  have h2 : Ieee.double.read 4611686018427387904 = .number false 4503599627370496 (-51) := by
    unfold Ieee.Format.read
    rfl
  unfold Ieee.Format.mul
  rw [hr, h2]
  simp only [Ieee.Datum.product, Option.map_some, Ieee.Format.write]
  congr 1
  have := nearest_exact (4503599627370496 + K % 4503599627370496) 52 (-1074 + ((K / 4503599627370496 - 1 : Nat) : Int) + -51) (K / 4503599627370496) (by omega) (by omega) (by omega)
  rw [show (2 : Nat) ^ 52 = 4503599627370496 by decide] at this
  show Ieee.double.nearest (false ^^ false) _ _ = _
  rw [show (false ^^ false) = false from rfl, this]
  omega
theorem doubled_f (n : Nat) : ∀ K, 4503599627370496 ≤ K → K + n * 4503599627370496 ≤ INF → doubled n K = some (K + n * 4503599627370496) := by
  induction n with
  | zero => intro K _ _; rw [doubled]; simp
  | succ n ih =>
    intro K h0 h1
    rw [doubled, mul_two K h0 (by omega), Option.bind_some, ih _ (by omega) (by omega)]
    exact congrArg some (by omega)
theorem scaled_f (M e K : Nat) (h0 : 4503599627370496 ≤ M) (h1 : M ≤ 9007199254740992) (he : e ≤ 100) (hK : K = (e + 1075) * 4503599627370496 + M) : vigillaw03_scaled.f (M : Int) (e : Int) = some K := by
  unfold vigillaw03_scaled.f
  have hI : INF = 9218868437227405312 := rfl
  rw [if_pos (by omega)]
  obtain ⟨J, hJ⟩ : ∃ J, J = 1074 * 4503599627370496 + M := ⟨_, rfl⟩
  have e1 : floatOfInt .f64 (M : Int) = J := by
    show Ieee.double.nearest (decide ((M : Int) < 0)) (M : Int).natAbs 0 = _
    have := nearest_exact' M 0 0 1074 h0 h1 (by omega)
    rw [Nat.pow_zero, Nat.mul_one, ← hJ] at this
    rw [decide_eq_false (by omega), Int.natAbs_natCast, this]
    omega
  rw [e1, show ((e : Int) + 1).toNat = e + 1 by omega, doubled_f _ _ (by omega) (by omega)]
  exact congrArg some (by omega)
theorem pow_split (e q : Nat) : 2 ^ (e + (q + 1)) = 2 ^ e * 2 ^ q * 2 := by rw [← Nat.add_assoc, Nat.pow_succ, Nat.pow_add]
/-- The middle, a little more, a little less. -/
theorem near_three (m e K : Nat) (h0 : 4503599627370496 ≤ m) (h1 : m < 9007199254740992) (he : e ≤ 100) (hK : K = (e + 1075) * 4503599627370496 + m) :
    DecNear ((2 * m + 1) * 2 ^ e) 0 (K + m % 2) ∧ DecNear (10 * ((2 * m + 1) * 2 ^ e) + 1) (-1) (K + 1) ∧ DecNear (10 * ((2 * m + 1) * 2 ^ e - 1) + 9) (-1) K := by
  have hI : INF = 9218868437227405312 := rfl
  have r0 : rungVal K = m * 2 ^ (e + 1075) := by rw [hK]; exact rung_of (.inr h0) h1
  have r1 : rungVal (K + 1) = (m + 1) * 2 ^ (e + 1075) := by rw [hK]; exact rung_next (.inr h0) h1
  have hpar : K % 2 = m % 2 := by omega
  have hKI : K + 1 ≤ INF := by omega
  clear hK
  have hsp : 2 ^ (e + 1075) = 2 ^ e * 2 ^ 1074 * 2 := pow_split e 1074
  rw [hsp] at r0 r1
  clear hsp
  have hp : 0 < 2 ^ e := Nat.two_pow_pos e
  have hq : 0 < 2 ^ 1074 := Nat.two_pow_pos 1074
  have t0 : (0 : Int).toNat = 0 := rfl
  have t1 : (-(0 : Int)).toNat = 0 := rfl
  have t2 : (-1 : Int).toNat = 0 := rfl
  have t3 : (-(-1 : Int)).toNat = 1 := rfl
  unfold DecNear
  rw [t0, t1, t2, t3, Nat.pow_zero, Nat.pow_one]
  generalize 2 ^ e = p at *
  generalize 2 ^ 1074 = q at *
  have emid : mid K = 2 * ((2 * m + 1) * p * q) := by
    unfold mid
    rw [r0, r1]
    grind
  have elow : rungVal K = 2 * m * p * q := by
    rw [r0]
    grind
  have ehigh : rungVal (K + 1) = (2 * m + 2) * p * q := by
    rw [r1]
    grind
  clear r0 r1
  obtain ⟨X, hX⟩ : ∃ X, X = 2 * m * p * q := ⟨_, rfl⟩
  obtain ⟨Y, hY⟩ : ∃ Y, Y = p * q := ⟨_, rfl⟩
  have b1 : mid K = 2 * (X + Y) := by rw [emid, hX, hY]; grind
  have b2 : rungVal K = X := by rw [elow, hX]
  have b3 : rungVal (K + 1) = X + 2 * Y := by rw [ehigh, hX, hY]; grind
  have b4 : (2 * m + 1) * p * 1 * q = X + Y := by rw [hX, hY]; grind
  have b5 : (10 * ((2 * m + 1) * p) + 1) * 1 * q = 10 * X + 10 * Y + q := by rw [hX, hY]; grind
  have g1 : q ≤ Y := by rw [hY]; exact Nat.le_mul_of_pos_left _ hp
  have g2 : 1 ≤ (2 * m + 1) * p := Nat.mul_pos (by omega) hp
  have b6 : (10 * ((2 * m + 1) * p - 1) + 9) * 1 * q = 10 * X + 10 * Y - q := by
    obtain ⟨s, hs⟩ : ∃ s, (2 * m + 1) * p = s + 1 := ⟨(2 * m + 1) * p - 1, by omega⟩
    rw [hs] at b4 ⊢
    rw [Nat.add_sub_cancel]
    have h1 : s * q + q = X + Y := by rw [← b4]; grind
    have h2 : (10 * s + 9) * 1 * q = 10 * (s * q) + 9 * q := by grind
    omega
  rw [b4, b5, b6]
  clear b4 b5 b6 hX hY emid elow ehigh
  refine ⟨?_, ?_, ?_⟩
  · have hr : m % 2 = 0 ∧ (2 * (X + Y) < mid K * 1 ∨ 2 * (X + Y) = mid K * 1 ∧ K % 2 = 0) ∨ m % 2 = 1 ∧ (mid K * 1 < 2 * (X + Y) ∨ mid K * 1 = 2 * (X + Y) ∧ K % 2 = 1) := by
      rw [b1, hpar]
      omega
    have := near_of (r := m % 2) (N := X + Y) (D := 1) (K := K) (by omega) (by omega) hr
    rwa [Nat.min_eq_left (by omega)] at this
  · have := near_of (r := 1) (N := 10 * X + 10 * Y + q) (D := 10) (K := K) (by omega) (by omega) (.inr ⟨rfl, .inl (by omega)⟩)
    rwa [Nat.min_eq_left (by omega)] at this
  · have := near_of (r := 0) (N := 10 * X + 10 * Y - q) (D := 10) (K := K) (by omega) (by omega) (.inl ⟨rfl, .inl (by omega)⟩)
    rwa [Nat.min_eq_left (by omega)] at this
theorem bits_eq (a : Nat) : vigilkeep_Bits.f a a = some true := by unfold vigilkeep_Bits.f; simp
theorem law_nearest : vigillaw03_NumNearest.Pure := by
  intro a0 a1 w0 w1
  have hwf0 : 0 ≤ a0 ∧ a0 ≤ 18446744073709551615 := by
    simp [Lit.wf, IntKind.min, IntKind.max, IntKind.signed, IntKind.bits] at w0; omega
  have hwf1 : -9223372036854775808 ≤ a1 ∧ a1 ≤ 9223372036854775807 := by
    simp [Lit.wf, IntKind.min, IntKind.max, IntKind.signed, IntKind.bits] at w1; omega
  obtain ⟨e, hee, he⟩ : ∃ e : Nat, vigilkeep_Within.f a1 40 = some (e : Int) ∧ e ≤ 40 := by
    unfold vigilkeep_Within.f
    rw [if_neg (by decide)]
    have hm : Int.tmod a1 40 < 40 ∧ -40 < Int.tmod a1 40 := by
      have := Int.tmod_lt_of_pos a1 (show (0 : Int) < 40 by decide)
      have h2 := Int.tmod_lt_of_pos (-a1) (show (0 : Int) < 40 by decide)
      rw [Int.neg_tmod] at h2
      omega
    split
    · exact ⟨(Int.tmod a1 40 + 40).toNat, by rw [w64 (by omega) (by omega)]; congr 1; omega, by omega⟩
    · exact ⟨(Int.tmod a1 40).toNat, by congr 1; omega, by omega⟩
  have hmm : Int.tmod a0 4503599627370496 = a0 % 4503599627370496 := Int.tmod_eq_emod_of_nonneg hwf0.1
  obtain ⟨m, hm⟩ : ∃ m : Nat, (m : Int) = a0 % 4503599627370496 + 4503599627370496 := ⟨(a0 % 4503599627370496 + 4503599627370496).toNat, by omega⟩
  have hm0 : 4503599627370496 ≤ m := by omega
  have hm1 : m < 9007199254740992 := by omega
  obtain ⟨K, hK⟩ : ∃ K, K = (e + 1075) * 4503599627370496 + m := ⟨_, rfl⟩
  have hK1 : K + 1 = (e + 1075) * 4503599627370496 + (m + 1) := by omega
  obtain ⟨n1, n2, n3⟩ := near_three m e K hm0 hm1 (by omega) hK
  obtain ⟨l, hrun, hd, hv, hlen, hne⟩ := digits_f (2 * m + 1) e (by omega) (by omega) (by omega)
  obtain ⟨g1, g2, g3⟩ := less_spec l.reverse (fun c hc => hd c (List.mem_reverse.1 hc)) (by rw [List.reverse_reverse, hv]; exact Nat.mul_pos (by omega) (Nat.two_pow_pos e))
  rw [List.reverse_reverse, hv] at g1
  rw [List.length_reverse] at g3
  have hd' : ∀ c ∈ (lessR l.reverse).reverse, isDig c = true := fun c hc => g2 c (List.mem_reverse.1 hc)
  have hl' : (lessR l.reverse).reverse.length = l.length := by rw [List.length_reverse, g3]
  have hne' : (lessR l.reverse).reverse ≠ [] := by
    intro h; rw [h] at hl'; exact hne (List.length_eq_zero_iff.1 hl'.symm)
  obtain ⟨c, r, hcr⟩ : ∃ c r, l = c :: r := by
    cases l with
    | nil => exact absurd rfl hne
    | cons c r => exact ⟨c, r, rfl⟩
  obtain ⟨c', r', hcr'⟩ : ∃ c r, (lessR l.reverse).reverse = c :: r := by
    cases h : (lessR l.reverse).reverse with
    | nil => exact absurd h hne'
    | cons c r => exact ⟨c, r, rfl⟩
  have p1 := parse_dec l (by omega) c r hcr (hd c (by rw [hcr]; simp)) l 0 (dspec_int l hd hne) _ (by rw [hv]; exact n1)
  have p2 := parse_dec (l ++ [46, 49]) (by simp; omega) c (r ++ [46, 49]) (by rw [hcr]; rfl) (hd c (by rw [hcr]; simp)) (l ++ [49]) (-1) (dspec_point l [49] hd (fun x hx => by rw [List.mem_singleton.1 hx]; rfl) hne) _ (by
    rw [val_snoc, hv]; exact n2)
  have p3 := parse_dec ((lessR l.reverse).reverse ++ [46, 57]) (by simp only [List.length_append, hl', List.length_cons, List.length_nil]; omega) c' (r' ++ [46, 57]) (by rw [hcr']; rfl) (hd' c' (by rw [hcr']; simp)) ((lessR l.reverse).reverse ++ [57]) (-1) (dspec_point _ [57] hd' (fun x hx => by rw [List.mem_singleton.1 hx]; rfl) hne') _ (by
    rw [val_snoc, g1]; exact n3)
  have j0 : ∀ ev : Nat, ev = K + m % 2 → Runs (fun k => vigillaw03_NumNearest.j0 k (mk l) K (K + 1) ev) true := by
    intro ev hev
    refine Runs.suc ?_
    simp only [vigillaw03_NumNearest.j0]
    have q1 : mk l ++ (⟨#[46, 49]⟩ : ByteArray) = mk (l ++ [46, 49]) := mk_append l [46, 49]
    have q2 : mk (lessR l.reverse).reverse ++ (⟨#[46, 57]⟩ : ByteArray) = mk ((lessR l.reverse).reverse ++ [46, 57]) := mk_append _ [46, 57]
    rw [q1, less_mk l (by omega), mk_size]
    refine Runs.bind p1 (Runs.yes (by omega) (Runs.bind p2 (Runs.bind (Runs.pure _) ?_)))
    show Runs (fun k => if (mk (lessR l.reverse).reverse).size + 2 ≤ 9223372036854775807 then (num_Parse.f k (mk (lessR l.reverse).reverse ++ (⟨#[46, 57]⟩ : ByteArray))).bind _ else none) true
    rw [q2, mk_size, hl']
    refine Runs.yes (by omega) (Runs.bind p3 (Runs.yes rfl (Runs.yes rfl (Runs.yes rfl ?_))))
    show Runs (fun k => (vigilkeep_Bits.f (K + m % 2) ev).bind _) true
    rw [hev, bits_eq]
    refine Runs.bind (Runs.pure _) (Runs.yes rfl ?_)
    show Runs (fun k => (vigilkeep_Bits.f (K + 1) (K + 1)).bind _) true
    rw [bits_eq]
    refine Runs.bind (Runs.pure _) (Runs.yes rfl ?_)
    show Runs (fun k => (vigilkeep_Bits.f K K).bind _) true
    rw [bits_eq]
    exact Runs.bind (Runs.pure _) (Runs.yes rfl (Runs.bind wakes_runs (Runs.pure _)))
  have main : Runs (fun k => vigillaw03_NumNearest.f k a0 a1) true := by
    simp only [vigillaw03_NumNearest.f]
    rw [hmm, ← hm, u64w (n := (m : Int)) (by omega) (by omega), u64w (n := 2 * (m : Int)) (by omega) (by omega), u64w (n := 2 * (m : Int) + 1) (by omega) (by omega), u64w (n := (m : Int) + 1) (by omega) (by omega), hee]
    refine Runs.bind (Runs.pure _) (Runs.bind hrun ?_)
    rw [scaled_f m e K hm0 (by omega) (by omega) hK, show (m : Int) + 1 = ((m + 1 : Nat) : Int) by omega, scaled_f (m + 1) e (K + 1) (by omega) (by omega) (by omega) hK1]
    refine Runs.bind (Runs.pure _) (Runs.bind (Runs.pure _) ?_)
    have hodd : Int.tmod (m : Int) 2 = ((m % 2 : Nat) : Int) := by rw [Int.tmod_eq_emod_of_nonneg (by omega)]; omega
    rw [hodd]
    by_cases h : m % 2 = 1
    · exact Runs.yes (by omega) (j0 _ (by rw [h]))
    · refine Runs.no (by omega) (j0 _ ?_)
      rw [show m % 2 = 0 by omega]; rfl
  obtain ⟨K, hK⟩ := main
  exact ⟨K, hK K (Nat.le_refl _)⟩
end Go.Proofs.YtjlnfnfdibfniaaDoor.Pl

namespace Go.Proofs.YtjlnfnfdibfniaaDoor.numNearest
open Go.ChangeShapes Go.WideShapes Go.ChangeAt Go.RowKit
open Go.ChangeMaps (open_string shut_string)
set_option linter.unusedVariables false
theorem own : ownKnob Tryd.prog.godebug = none := by kernel_rfl
set_option maxRecDepth 100000 in
theorem lifted (os : Os) (started : os.Started) (H : Type) (enc : TypeId × Value → H) :
    ReturnsInHanded {} Tryd.checked os 6 .any (fun w args => (Rows.numNearestSpec.pre enc Tryd.prog Tryd.f6 [] false w args ∧ laidMetH Tryd.prog Rows.numNearestRow.laid w) ∧ sizedMet enc Tryd.prog Tryd.f6 (OpenSpec.ofChange Rows.numNearestSpec) false w args)
      (Rows.numNearestSpec.post enc Tryd.prog Tryd.f6 false true false false) := by
  refine returnsInHanded_of_change_and (C := Tryd.checked) (X := fun w _ => laidMetH Tryd.prog Rows.numNearestRow.laid w) (fun _ _ _ hh h => h.of_heap hh) own started (by kernel_rfl) Tryd.func6
    (ChangeSpec.witness_shaped (enc := enc) (C := Tryd.checked) (os := os) (X := fun w _ => laidMetH Tryd.prog Rows.numNearestRow.laid w) false (World.laidAll Tryd.prog os Rows.numNearestRow.laid) #[.int .u64 0, .int .i64 0] 8 (World.laidAll_os _ _ _)
      (World.shaped_of_ZipB (by kernel_rfl) (by kernel_rfl)) (by kernel_rfl) (by kernel_rfl) (by kernel_rfl)
      (by rw [MakeChecks.laidMetH_plain _ _ _ (by kernel_rfl)]; exact laidMet_laidAll _ (by kernel_rfl) (by kernel_rfl))) ?_
  intro W base args ds gs before hval0 hW _ hsz0 _ _
  have hsz : (DataW.weightsEach Tryd.prog (Tryd.f6.params.toList ++ Rows.numNearestSpec.plain.varTypes Tryd.prog) (ds ++ gs)).all (· ≤ reachBytes) = true := hsz0
  have hval : ∀ (j : Nat) t v, Tryd.f6.params[j]? = some t → args[j]? = some v → Value.okWide Tryd.prog W .any base t v := hval0
  have hW' := hW
  obtain ⟨p, q, hA0, hV, rfl, _, _⟩ := hW
  have hA : DataW.TrodAll enc Tryd.prog W 0 (fun _ => true) true Tryd.f6.params.toList args.toList ds p := hA0
  rw [Tryd.params6] at hA hval hsz
  obtain ⟨v0, vs0, d0, ds0, p0, q0, hargs, rfl, rfl, h0, r0⟩ := trodAll_cons hA
  obtain ⟨v1, vs1, d1, ds1, p1, q1, rfl, rfl, rfl, h1, r1⟩ := trodAll_cons r0
  obtain ⟨rfl, rfl, rfl⟩ := trodAll_nil r1
  obtain rfl : args = #[v0, v1] := by cases args; simp_all
  obtain ⟨rfl, rfl⟩ := trodVars_none hV
  obtain ⟨a0, rfl, rfl, rfl, w0⟩ := open_int Tryd.underlying25 (hval 0 25 v0 rfl rfl) h0
  obtain ⟨a1, rfl, rfl, rfl, w1⟩ := open_int Tryd.underlying3 (hval 1 3 v1 rfl rfl) h1
  clear hA0 hval0 hsz0 hsz
  refine (F.vigillaw03_NumNearest.walk Pl.law_nearest a0 a1 W w0 w1).mono fun e W' ⟨he, bel⟩ => ?_
  subst he
  exact ⟨_, rfl, _, _, _, [], _, [], hW', trodAll_mk1 (shut_bool Tryd.underlying4 _), (trodAll_cons_mk (shut_int Tryd.underlying25 w0) (trodAll_cons_mk (shut_int Tryd.underlying3 w1) trodAll_mk0)), rfl, bel.frame _, fun h => by cases h⟩
theorem over : Rows.numNearestRow.holds Tryd.pinned (OpenSpec.ofChange Rows.numNearestSpec) :=
  OpenClaim.holds_of_wide 6 Tryd.f6 rfl rfl rfl rfl rfl rfl rfl ⟨rfl, rfl, rfl, rfl, rfl⟩ rfl rfl rfl rfl rfl (by kernel_rfl) Tryd.func6 (by kernel_rfl)
    (of_decide_eq_true (by kernel_rfl)) (by unfold Func.isWrapper; first | (rw [if_pos (by decide +kernel)]; kernel_rfl) | (rw [if_neg (by decide +kernel)]; exact ⟨rfl, rfl⟩))
    (fun os started H enc _ => lifted os started H enc)
theorem card_holds : Rows.NumNearestCardSaid :=
  Claim7.holds_tied_plain_at .later [] [.data, .pinned] true (true, "a90acdf829413157ef6e6e8aea78a484b42a66cc9924c82fc4fb50f94bff3414") false over (fun _ h => by cases h) (by kernel_rfl) (fun _ h => by cases h) numNearest_row_tie rfl ⟨rfl, rfl⟩ (by kernel_rfl) rfl
    (fun f fn hf hfn => by
      obtain rfl : f = 6 := Option.some.inj ((show Tryd.prog.funcNamed "vigil/vigillaw03.NumNearest" = some 6 by kernel_rfl).symm.trans hf) |>.symm
      obtain rfl : fn = Tryd.f6 := (Option.some.inj (Tryd.func6.symm.trans hfn)).symm
      exact ⟨by kernel_rfl, fun j t ht => by
        rw [Tryd.params6] at ht
        have hm : t ∈ [25, 3] := by have h_ := Array.mem_of_getElem? ht; simp at h_ ⊢; omega
        have hall : ([25, 3].all fun u => !Tryd.prog.wantsStandIn u) = true := by kernel_rfl
        exact (show Tryd.prog.wantsStandIn t = false by simpa using List.all_eq_true.1 hall t hm)⟩)
    (by kernel_rfl)
#print axioms card_holds
end Go.Proofs.YtjlnfnfdibfniaaDoor.numNearest
namespace Go.Proofs.YtjlnfnfdibfniaaDoor
/-- The card, under a short name, for the claim. -/
theorem numNearest_card : Rows.NumNearestCardSaid := numNearest.card_holds
end Go.Proofs.YtjlnfnfdibfniaaDoor

