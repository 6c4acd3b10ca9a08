/- Words and walked functions of the proof (part 4). -/
import Derived.Test.YtjlnfnfdibfniaaDoorCParse3
import Derived.Laws.IdiomStrings
import Derived.Outline
import Derived.Below
import Derived.Shelf.Small.Bits
import Derived.Shelf.Strconv.Itoa0
import Derived.Shelf.Strings.Repeat
import Derived.Test.YtjlnfnfdibfniaaDoorProg
namespace Go.Proofs.YtjlnfnfdibfniaaDoor.F
open Go.RowKit Go.Proofs.YtjlnfnfdibfniaaDoorW.PrintWords Go.Proofs.YtjlnfnfdibfniaaDoorW.PrintLast Go.Proofs.YtjlnfnfdibfniaaDoorW.PrintMore
attribute [local go_sem] max2_int min2_int max_two min_two max_three min_three max_four min_four
set_option linter.unusedVariables false
set_option linter.unusedSimpArgs false
mutual
def r_Parse.j0 : Nat → ByteArray → Bool → Bool → Option (Nat × Int)
 | 0, _, _, _ => none
 | k + 1, x0, x4, x28 => if x28 = true then (if 0 < (x0.size : Int) then (if 1 ≤ (x0.size : Int) then (r_Parse.j1 k (x0.extract 1 x0.size) ((bt x0 0) == 45)) else (none)) else (none)) else (r_Parse.j1 k x0 x4)
def r_Parse.j1 : Nat → ByteArray → Bool → Option (Nat × Int)
 | 0, _, _ => none
 | k + 1, x0, x4 => (Hd.r_lower.f x0).bind fun t642 => (if t642.toList = ([110, 97, 110] : List UInt8) then ((r_NaN.f).bind fun t643 => (some (t643, 0))) else (if t642.toList = ([105, 110, 102] : List UInt8) then (r_Parse.j2 k x0 x4 true) else (r_Parse.j2 k x0 x4 (t642.toList == ([105, 110, 102, 105, 110, 105, 116, 121] : List UInt8)))))
def r_Parse.j2 : Nat → ByteArray → Bool → Bool → Option (Nat × Int)
 | 0, _, _, _ => none
 | k + 1, x0, x4, x44 => if x44 = true then ((r_signed.f 9218868437227405312 x4).bind fun t644 => (some (t644, 0))) else (r_Parse.l0 k x0 x4 0 false 0 0 ([] : List Int) 0)
def r_Parse.j6 : Nat → ByteArray → Bool → Int → Bool → Int → List Int → Int → Option (Nat × Int)
 | 0, _, _, _, _, _, _, _ => none
 | k + 1, x0, x4, x6, x7, x9, x646000, x646001 => if x7 = true then (if x6 < (x0.size : Int) then (if 0 ≤ x6 then (if x6 ≤ (x0.size : Int) then ((r_exponent.f k (x0.extract (x6 : Int).toNat x0.size)).bind fun bt651 => (if bt651.2 = true then ((r_nearest.f k x646000 (wrap64 (x646001 + bt651.1)) x9).bind fun t653 => ((r_signed.f t653 x4).bind fun t654 => (some (t654, 0)))) else (some (0, 8)))) else (none)) else (none)) else ((r_nearest.f k x646000 x646001 x9).bind fun t655 => ((r_signed.f t655 x4).bind fun t656 => (some (t656, 0))))) else (some (0, 8))
def r_Parse.l0 : Nat → ByteArray → Bool → Int → Bool → Int → Int → List Int → Int → Option (Nat × Int)
 | 0, _, _, _, _, _, _, _, _ => none
 | k + 1, x0, x4, x6, x7, x9, x10, x646000, x646001 => if x10 < 2 then (r_Parse.l1 k x0 x4 x6 x7 x9 x10 x646000 x646001) else (r_Parse.j6 k x0 x4 x6 x7 x9 x646000 x646001)
def r_Parse.l1 : Nat → ByteArray → Bool → Int → Bool → Int → Int → List Int → Int → Option (Nat × Int)
 | 0, _, _, _, _, _, _, _, _ => none
 | k + 1, x0, x4, x6, x7, x9, x10, x646000, x646001 => if x6 < (x0.size : Int) then (if 0 ≤ x6 then ((r_digit.f (bt x0 x6)).bind fun t646 => (r_Parse.j5 k x0 x4 x6 x7 x9 x10 t646 x646000 x646001)) else (none)) else (r_Parse.j5 k x0 x4 x6 x7 x9 x10 false x646000 x646001)
def r_Parse.j5 : Nat → ByteArray → Bool → Int → Bool → Int → Int → Bool → List Int → Int → Option (Nat × Int)
 | 0, _, _, _, _, _, _, _, _, _ => none
 | k + 1, x0, x4, x6, x7, x9, x10, x60, x646000, x646001 => if x60 = true then (if 0 ≤ x6 then (if x6 < (x0.size : Int) then ((r_times.f k x646000 10 (((bt x0 x6) - 48) % 256)).bind fun t647 => (if (t647.length : Int) > 0 then (if x10 = 1 then (r_Parse.l1 k x0 x4 (wrap64 (x6 + 1)) true (wrap64 (x9 + 1)) x10 t647 (wrap64 (x646001 - 1))) else (r_Parse.l1 k x0 x4 (wrap64 (x6 + 1)) true (wrap64 (x9 + 1)) x10 t647 x646001)) else (if x10 = 1 then (r_Parse.l1 k x0 x4 (wrap64 (x6 + 1)) true x9 x10 t647 (wrap64 (x646001 - 1))) else (r_Parse.l1 k x0 x4 (wrap64 (x6 + 1)) true x9 x10 t647 x646001)))) else (none)) else (none)) else (if x10 = 0 then (if x6 < (x0.size : Int) then (if 0 ≤ x6 then (if (bt x0 x6) = 46 then (r_Parse.l0 k x0 x4 (wrap64 (x6 + 1)) x7 x9 (wrap64 (x10 + 1)) x646000 x646001) else (r_Parse.j6 k x0 x4 x6 x7 x9 x646000 x646001)) else (none)) else (r_Parse.j6 k x0 x4 x6 x7 x9 x646000 x646001)) else (r_Parse.l0 k x0 x4 x6 x7 x9 (wrap64 (x10 + 1)) x646000 x646001))
end
def r_Parse.f (k : Nat) (a0 : ByteArray) : Option (Nat × Int) := if (a0.size : Int) > 400 then (some (0, 8)) else (if (a0.size : Int) > 0 then (if 0 < (a0.size : Int) then (if (bt a0 0) = 43 then (r_Parse.j0 k a0 false true) else (r_Parse.j0 k a0 false ((bt a0 0) == 45))) else (none)) else (r_Parse.j0 k a0 false false))
theorem r_Parse.mono_l : ∀ k, (∀ y0 y1 y2, LeO (r_Parse.j0 k y0 y1 y2) (r_Parse.j0 (k + 1) y0 y1 y2)) ∧ (∀ y0 y1, LeO (r_Parse.j1 k y0 y1) (r_Parse.j1 (k + 1) y0 y1)) ∧ (∀ y0 y1 y2, LeO (r_Parse.j2 k y0 y1 y2) (r_Parse.j2 (k + 1) y0 y1 y2)) ∧ (∀ y0 y1 y2 y3 y4 y5 y6, LeO (r_Parse.j6 k y0 y1 y2 y3 y4 y5 y6) (r_Parse.j6 (k + 1) y0 y1 y2 y3 y4 y5 y6)) ∧ (∀ y0 y1 y2 y3 y4 y5 y6 y7, LeO (r_Parse.l0 k y0 y1 y2 y3 y4 y5 y6 y7) (r_Parse.l0 (k + 1) y0 y1 y2 y3 y4 y5 y6 y7)) ∧ (∀ y0 y1 y2 y3 y4 y5 y6 y7, LeO (r_Parse.l1 k y0 y1 y2 y3 y4 y5 y6 y7) (r_Parse.l1 (k + 1) y0 y1 y2 y3 y4 y5 y6 y7)) ∧ (∀ y0 y1 y2 y3 y4 y5 y6 y7 y8, LeO (r_Parse.j5 k y0 y1 y2 y3 y4 y5 y6 y7 y8) (r_Parse.j5 (k + 1) y0 y1 y2 y3 y4 y5 y6 y7 y8))
 | 0 => ⟨fun _ _ _ r h => by simp [r_Parse.j0] at h, fun _ _ r h => by simp [r_Parse.j1] at h, fun _ _ _ r h => by simp [r_Parse.j2] at h, fun _ _ _ _ _ _ _ r h => by simp [r_Parse.j6] at h, fun _ _ _ _ _ _ _ _ r h => by simp [r_Parse.l0] at h, fun _ _ _ _ _ _ _ _ r h => by simp [r_Parse.l1] at h, fun _ _ _ _ _ _ _ _ _ r h => by simp [r_Parse.j5] at h⟩
 | k + 1 => by
  obtain ⟨ih0, ih1, ih2, ih3, ih4, ih5, ih6⟩ := r_Parse.mono_l k
  refine ⟨?_, ?_, ?_, ?_, ?_, ?_, ?_⟩
  ·
   intro y0 y1 y2
   unfold r_Parse.j0
   repeat' (with_reducible first | exact ih0 _ _ _ | exact ih1 _ _ | exact ih2 _ _ _ | exact ih3 _ _ _ _ _ _ _ | exact ih4 _ _ _ _ _ _ _ _ | exact ih5 _ _ _ _ _ _ _ _ | exact ih6 _ _ _ _ _ _ _ _ _ | exact r_exponent.mono _ _ | exact r_nearest.mono _ _ _ _ | exact r_times.mono _ _ _ _ | exact LeO.refl _ | exact LeO.none _ | refine LeO.ite ?_ ?_ | refine LeO.bind ?_ (fun _ => ?_))
  ·
   intro y0 y1
   unfold r_Parse.j1
   repeat' (with_reducible first | exact ih0 _ _ _ | exact ih1 _ _ | exact ih2 _ _ _ | exact ih3 _ _ _ _ _ _ _ | exact ih4 _ _ _ _ _ _ _ _ | exact ih5 _ _ _ _ _ _ _ _ | exact ih6 _ _ _ _ _ _ _ _ _ | exact r_exponent.mono _ _ | exact r_nearest.mono _ _ _ _ | exact r_times.mono _ _ _ _ | exact LeO.refl _ | exact LeO.none _ | refine LeO.ite ?_ ?_ | refine LeO.bind ?_ (fun _ => ?_))
  ·
   intro y0 y1 y2
   unfold r_Parse.j2
   repeat' (with_reducible first | exact ih0 _ _ _ | exact ih1 _ _ | exact ih2 _ _ _ | exact ih3 _ _ _ _ _ _ _ | exact ih4 _ _ _ _ _ _ _ _ | exact ih5 _ _ _ _ _ _ _ _ | exact ih6 _ _ _ _ _ _ _ _ _ | exact r_exponent.mono _ _ | exact r_nearest.mono _ _ _ _ | exact r_times.mono _ _ _ _ | exact LeO.refl _ | exact LeO.none _ | refine LeO.ite ?_ ?_ | refine LeO.bind ?_ (fun _ => ?_))
  ·
   intro y0 y1 y2 y3 y4 y5 y6
   unfold r_Parse.j6
   repeat' (with_reducible first | exact ih0 _ _ _ | exact ih1 _ _ | exact ih2 _ _ _ | exact ih3 _ _ _ _ _ _ _ | exact ih4 _ _ _ _ _ _ _ _ | exact ih5 _ _ _ _ _ _ _ _ | exact ih6 _ _ _ _ _ _ _ _ _ | exact r_exponent.mono _ _ | exact r_nearest.mono _ _ _ _ | exact r_times.mono _ _ _ _ | exact LeO.refl _ | exact LeO.none _ | refine LeO.ite ?_ ?_ | refine LeO.bind ?_ (fun _ => ?_))
  ·
   intro y0 y1 y2 y3 y4 y5 y6 y7
   unfold r_Parse.l0
   repeat' (with_reducible first | exact ih0 _ _ _ | exact ih1 _ _ | exact ih2 _ _ _ | exact ih3 _ _ _ _ _ _ _ | exact ih4 _ _ _ _ _ _ _ _ | exact ih5 _ _ _ _ _ _ _ _ | exact ih6 _ _ _ _ _ _ _ _ _ | exact r_exponent.mono _ _ | exact r_nearest.mono _ _ _ _ | exact r_times.mono _ _ _ _ | exact LeO.refl _ | exact LeO.none _ | refine LeO.ite ?_ ?_ | refine LeO.bind ?_ (fun _ => ?_))
  ·
   intro y0 y1 y2 y3 y4 y5 y6 y7
   unfold r_Parse.l1
   repeat' (with_reducible first | exact ih0 _ _ _ | exact ih1 _ _ | exact ih2 _ _ _ | exact ih3 _ _ _ _ _ _ _ | exact ih4 _ _ _ _ _ _ _ _ | exact ih5 _ _ _ _ _ _ _ _ | exact ih6 _ _ _ _ _ _ _ _ _ | exact r_exponent.mono _ _ | exact r_nearest.mono _ _ _ _ | exact r_times.mono _ _ _ _ | exact LeO.refl _ | exact LeO.none _ | refine LeO.ite ?_ ?_ | refine LeO.bind ?_ (fun _ => ?_))
  intro y0 y1 y2 y3 y4 y5 y6 y7 y8
  unfold r_Parse.j5
  repeat' (with_reducible first | exact ih0 _ _ _ | exact ih1 _ _ | exact ih2 _ _ _ | exact ih3 _ _ _ _ _ _ _ | exact ih4 _ _ _ _ _ _ _ _ | exact ih5 _ _ _ _ _ _ _ _ | exact ih6 _ _ _ _ _ _ _ _ _ | exact r_exponent.mono _ _ | exact r_nearest.mono _ _ _ _ | exact r_times.mono _ _ _ _ | exact LeO.refl _ | exact LeO.none _ | refine LeO.ite ?_ ?_ | refine LeO.bind ?_ (fun _ => ?_))
theorem r_Parse.mono : ∀ a0 k, LeO (r_Parse.f k a0) (r_Parse.f (k + 1) a0) := by
 intro a0 k
 obtain ⟨ih0, ih1, ih2, ih3, ih4, ih5, ih6⟩ := r_Parse.mono_l k
 unfold r_Parse.f
 repeat' (with_reducible first | exact ih0 _ _ _ | exact ih1 _ _ | exact ih2 _ _ _ | exact ih3 _ _ _ _ _ _ _ | exact ih4 _ _ _ _ _ _ _ _ | exact ih5 _ _ _ _ _ _ _ _ | exact ih6 _ _ _ _ _ _ _ _ _ | exact r_exponent.mono _ _ | exact r_nearest.mono _ _ _ _ | exact r_times.mono _ _ _ _ | exact LeO.refl _ | exact LeO.none _ | refine LeO.ite ?_ ?_ | refine LeO.bind ?_ (fun _ => ?_))
def r_Parse.T20 : Bool × List (List Nat × List Nat) := (true, [([], []), ([0], [0]), ([], []), ([], []), ([2, 3], [2, 3]), ([4], [4]), ([5], [5]), ([1, 6], [1, 6]), ([0, 1, 2, 3, 4, 5, 6, 7], []), ([8, 7, 7, 0, 1, 2, 3, 4, 5, 6, 7], [7, 8])])
def r_Parse.B20 : List Nat := [0, 1, 0, 0, 12, 28, 60, 127, 255, 511]
theorem r_Parse.tab20 : rtab .any (opsOf Tryd.f19 20) = r_Parse.T20 := by kernel_rfl
theorem r_Parse.bits20 : waitsOk r_Parse.T20.2 r_Parse.B20 = true := by kernel_rfl
set_option maxHeartbeats 8000000 in
set_option maxRecDepth 100000 in
theorem r_Parse.calls (k : Nat) (a0 : ByteArray) (r1 : Nat) (r2 : Int) (w : World) (h : r_Parse.f k a0 = some (r1, r2)) :
  Calls Tryd.prog 19 #[.string a0] w fun e w' => e = .returned (.tuple #[.float .f64 r1, .int .i64 r2]) ∧ Below w.heap.size w w' := by
 have hu72 := Tryd.underlying72
 have HB := Aside0.mk (Below.refl w.heap.size w)
 have H : (if (a0.size : Int) > 400 then (some (0, 8)) else (if (a0.size : Int) > 0 then (if 0 < (a0.size : Int) then (if (bt a0 0) = 43 then (r_Parse.j0 k a0 false true) else (r_Parse.j0 k a0 false ((bt a0 0) == 45))) else (none)) else (r_Parse.j0 k a0 false false))) = some (r1, r2) := h
 clear h
 by_cases c2 : (a0.size : Int) > 400
 ·
  rw [if_pos c2] at H
  have c2b0 : decide (400 < (a0.size : Int)) = true := decide_eq_true c2
  have c2b1 : decide (400 < a0.size) = true := decide_eq_true (by omega)
  clear c2
  simp only [Option.some.injEq, Prod.mk.injEq] at H
  obtain ⟨rfl, rfl⟩ := H
  go_enter Tryd.func19, Tryd.ntmps19
  go_wp2
  go_ret2
  exact ex (lk HB)
 rw [if_neg c2] at H
 have c2b0 : decide (400 < (a0.size : Int)) = false := decide_eq_false c2
 have c2b1 : decide (400 < a0.size) = false := decide_eq_false (by omega)
 clear c2
 have HC3 := Aside0.mk H
 clear H
 go_enter Tryd.func19, Tryd.ntmps19
 go_upto_region 4 with (fail)
 go_cut [28] (fun v28 wc => ∃ (kq : Nat) (x28_2 : Bool), v28 = .bool x28_2 ∧ Aside0 (r_Parse.j0 kq a0 false x28_2 = some (r1, r2)) ∧ Aside0 (kq ≤ k) ∧ Aside0 (Below w.heap.size w wc))
 case first =>
  have H := HC3.out
  clear HC3
  by_cases c4 : (a0.size : Int) > 0
  ·
   rw [if_pos c4] at H
   have c4b0 : decide (0 < (a0.size : Int)) = true := decide_eq_true c4
   have c4b1 : decide (0 < a0.size) = true := decide_eq_true (by omega)
   clear c4
   (first | rw [c4b0] | (simp only [i64_w, i32_w]; rw [c4b0]) | skip)
   by_cases c5 : 0 < (a0.size : Int)
   ·
    rw [if_pos c5] at H
    have c5b0 : decide (0 < (a0.size : Int)) = true := decide_eq_true c5
    have c5b1 : decide (0 < a0.size) = true := decide_eq_true (by omega)
    clear c5
    by_cases c7 : (bt a0 0) = 43
    ·
     rw [if_pos c7] at H
     have c7b0 : ((bt a0 0) == 43) = true := beq_iff_eq.mpr c7
     have c7b1 : ((bt a0 0) != 43) = false := bne_eq_false_iff_eq.mpr c7
     clear c7
     have H' := Aside0.mk H
     clear H
     have p6 : 0 ≤ (0 : Int) := (by omega)
     have q6 : 0 < a0.size := (by have : (0 : Int) < (a0.size : Int) := of_decide_eq_true (by first | (with_reducible assumption) | assumption); omega)
     have hx6 : ∀ h : 0 < a0.size, ((a0[0]'h).toNat : Int) = bt a0 0 := bt_at a0 0
     clear p6
     have qi6 : (0 < (a0.size : Int)) = True := eq_true (of_decide_eq_true (by first | (with_reducible assumption) | assumption))
     replace q6 := eq_true q6
     go_wp2
     go_meet
     case rel => exact ⟨_, (true), (by first | rfl | (simp; done) | (simp [*]; done)), H', ⟨by first | omega | exact Nat.le_refl _⟩, ⟨lk HB⟩⟩
    rw [if_neg c7] at H
    have c7b0 : ((bt a0 0) == 43) = false := beq_eq_false_iff_ne.mpr c7
    have c7b1 : ((bt a0 0) != 43) = true := bne_iff_ne.mpr c7
    have H' := Aside0.mk H
    clear H
    have p6 : 0 ≤ (0 : Int) := (by omega)
    have q6 : 0 < a0.size := (by have : (0 : Int) < (a0.size : Int) := of_decide_eq_true (by first | (with_reducible assumption) | assumption); omega)
    have hx6 : ∀ h : 0 < a0.size, ((a0[0]'h).toNat : Int) = bt a0 0 := bt_at a0 0
    clear p6
    have qi6 : (0 < (a0.size : Int)) = True := eq_true (of_decide_eq_true (by first | (with_reducible assumption) | assumption))
    replace q6 := eq_true q6
    have p8 : 0 ≤ (0 : Int) := (by omega)
    have q8 : 0 < a0.size := (by have : (0 : Int) < (a0.size : Int) := of_decide_eq_true (by first | (with_reducible assumption) | assumption); omega)
    have hx8 : ∀ h : 0 < a0.size, ((a0[0]'h).toNat : Int) = bt a0 0 := bt_at a0 0
    clear p8
    have qi8 : (0 < (a0.size : Int)) = True := eq_true (of_decide_eq_true (by first | (with_reducible assumption) | assumption))
    replace q8 := eq_true q8
    go_wp2
    go_meet
    case rel => exact ⟨_, (((bt a0 0) == 45)), (by first | rfl | (simp; done) | (simp [*]; done)), H', ⟨by first | omega | exact Nat.le_refl _⟩, ⟨lk HB⟩⟩
   rw [if_neg c5] at H
   exact absurd H (by simp)
  rw [if_neg c4] at H
  have c4b0 : decide (0 < (a0.size : Int)) = false := decide_eq_false c4
  have c4b1 : decide (0 < a0.size) = false := decide_eq_false (by omega)
  clear c4
  (first | rw [c4b0] | (simp only [i64_w, i32_w]; rw [c4b0]) | skip)
  have H' := Aside0.mk H
  clear H
  go_wp2
  go_meet
  case rel => exact ⟨_, (false), (by first | rfl | (simp; done) | (simp [*]; done)), H', ⟨by first | omega | exact Nat.le_refl _⟩, ⟨lk HB⟩⟩
 case rest =>
  clear HC3
  try clear c1
  try clear c2
  try clear c2b0
  try clear c2b1
  try clear p2
  try clear c4
  try clear c4b0
  try clear c4b1
  try clear c5
  try clear c5b0
  try clear c5b1
  try clear p6
  try clear q6
  try clear hx6
  try clear qi6
  try clear c7
  try clear c7b0
  try clear c7b1
  try clear p8
  try clear q8
  try clear hx8
  try clear qi8
  try clear p6
  try clear p8
  try clear q6
  try clear q8
  obtain ⟨kq, x28_2, rfl, HA, HJ2, HB⟩ := hcut
  cases kq with
  | zero => exact absurd HA.out (by simp [r_Parse.j0])
  | succ kj2 =>
   have H := HA.out
   clear HA
   simp only [r_Parse.j0] at H
   have HC9 := Aside0.mk H
   clear H
   go_upto_if 28 with (fail)
   go_cut [0, 4] (fun v0 v4 wc => ∃ (kq : Nat) (x0_8 : ByteArray) (x4_8 : Bool), v0 = .string x0_8 ∧ v4 = .bool x4_8 ∧ Aside0 (r_Parse.j1 kq x0_8 x4_8 = some (r1, r2)) ∧ Aside0 (kq ≤ kj2) ∧ Aside0 (Below w.heap.size w wc))
   case first =>
    have H := HC9.out
    clear HC9
    by_cases c10 : x28_2 = true
    ·
     subst c10
     have H1 : (if 0 < (a0.size : Int) then (if 1 ≤ (a0.size : Int) then (r_Parse.j1 kj2 (a0.extract 1 a0.size) ((bt a0 0) == 45)) else (none)) else (none)) = some (r1, r2) := by rw [if_pos rfl] at H; exact H
     clear H
     have H := H1
     clear H1
     by_cases c11 : 0 < (a0.size : Int)
     ·
      rw [if_pos c11] at H
      have c11b0 : decide (0 < (a0.size : Int)) = true := decide_eq_true c11
      have c11b1 : decide (0 < a0.size) = true := decide_eq_true (by omega)
      clear c11
      (first | rw [c11b0] | (simp only [i64_w, i32_w]; rw [c11b0]) | skip)
      by_cases c13 : 1 ≤ (a0.size : Int)
      ·
       rw [if_pos c13] at H
       have c13b0 := eq_true c13
       have c13b1 : decide (1 ≤ (a0.size : Int)) = true := decide_eq_true c13
       clear c13
       obtain ⟨y641, hy641⟩ : ∃ y_ : ByteArray, y_ = (a0.extract 1 a0.size) := ⟨_, rfl⟩
       replace H : (r_Parse.j1 kj2 y641 ((bt a0 0) == 45)) = some (r1, r2) := by first | (rw [hy641]; with_reducible exact H) | (rw [hy641]; with_reducible exact (hs H :)) | with_reducible exact (hs H :) | with_reducible exact H | (rw [hy641]; exact H) | exact H
       have Ny641 := Aside0.mk hy641
       clear hy641
       have H' := Aside0.mk H
       clear H
       have p12 : 0 ≤ (0 : Int) := (by omega)
       have q12 : 0 < a0.size := (by have : (0 : Int) < (a0.size : Int) := of_decide_eq_true (by first | (with_reducible assumption) | assumption); omega)
       have hx12 : ∀ h : 0 < a0.size, ((a0[0]'h).toNat : Int) = bt a0 0 := bt_at a0 0
       clear p12
       have qi12 : (0 < (a0.size : Int)) = True := eq_true (of_decide_eq_true (by first | (with_reducible assumption) | assumption))
       replace q12 := eq_true q12
       have hcs14 := Hd.str_from (P := Tryd.prog) (k := .i64) Tryd.underlying9 (i := 1) (s := a0) (y := y641) (by first | (with_reducible assumption) | exact of_decide_eq_true (by first | (with_reducible assumption) | assumption) | omega) (by first | (with_reducible assumption) | exact of_decide_eq_true (by first | (with_reducible assumption) | assumption) | omega) Ny641.out
       go_wp2
       go_meet
       case rel => exact ⟨_, (y641), (((bt a0 0) == 45)), (by first | rfl | (simp; done) | (simp [*]; done)), (by first | rfl | (simp; done) | (simp [*]; done)), H', ⟨by have := HJ2.out; first | omega | exact Nat.le_refl _⟩, ⟨lk HB⟩⟩
      rw [if_neg c13] at H
      exact absurd H (by simp)
     rw [if_neg c11] at H
     exact absurd H (by simp)
    replace c10 := Bool.eq_false_iff.mpr c10
    subst c10
    have H1 : (r_Parse.j1 kj2 a0 false) = some (r1, r2) := by rw [if_neg (show ¬ (false = true) by decide)] at H; exact H
    clear H
    have H := H1
    clear H1
    have H' := Aside0.mk H
    clear H
    go_wp2
    go_meet
    case rel => exact ⟨_, (a0), (false), (by first | rfl | (simp; done) | (simp [*]; done)), (by first | rfl | (simp; done) | (simp [*]; done)), H', ⟨by have := HJ2.out; first | omega | exact Nat.le_refl _⟩, ⟨lk HB⟩⟩
   case rest =>
    clear HC9
    try clear c1
    try clear p1
    try clear q1
    try clear hx1
    try clear qi1
    try clear c2
    try clear c2b0
    try clear c2b1
    try clear p2
    try clear c4
    try clear c4b0
    try clear c4b1
    try clear c5
    try clear c5b0
    try clear c5b1
    try clear p6
    try clear q6
    try clear hx6
    try clear qi6
    try clear c7
    try clear c7b0
    try clear c7b1
    try clear p8
    try clear q8
    try clear hx8
    try clear qi8
    try clear c10
    try clear c11
    try clear c11b0
    try clear c11b1
    try clear p12
    try clear q12
    try clear hx12
    try clear qi12
    try clear c13
    try clear c13b0
    try clear c13b1
    try clear p12
    try clear p2
    try clear p6
    try clear p8
    try clear q12
    try clear q6
    try clear q8
    obtain ⟨kq, x0_8, x4_8, rfl, rfl, HA, HJ8, HB⟩ := hcut
    cases kq with
    | zero => exact absurd HA.out (by simp [r_Parse.j1])
    | succ kj8 =>
     have H := HA.out
     clear HA
     simp only [r_Parse.j1] at H
     replace H := Option.bind_eq_some_iff.mp H
     obtain ⟨t642, A150, H⟩ := H
     replace H : (if t642.toList = ([110, 97, 110] : List UInt8) then ((r_NaN.f).bind fun t643 => (some (t643, 0))) else (if t642.toList = ([105, 110, 102] : List UInt8) then (r_Parse.j2 kj8 x0_8 x4_8 true) else (r_Parse.j2 kj8 x0_8 x4_8 (t642.toList == ([105, 110, 102, 105, 110, 105, 116, 121] : List UInt8))))) = some (r1, r2) := H
     have A15 := Aside0.mk A150
     clear A150
     by_cases c16 : t642.toList = ([110, 97, 110] : List UInt8)
     ·
      rw [if_pos c16] at H
      have c16b0 : (t642.toList == ([110, 97, 110] : List UInt8)) = true := beq_iff_eq.mpr c16
      have c16b1 : (t642.toList != ([110, 97, 110] : List UInt8)) = false := bne_eq_false_iff_eq.mpr c16
      clear c16
      replace H := Option.bind_eq_some_iff.mp H
      obtain ⟨t643, A170, H⟩ := H
      replace H : (some (t643, 0)) = some (r1, r2) := H
      have A17 := Aside0.mk A170
      clear A170
      simp only [Option.some.injEq, Prod.mk.injEq] at H
      obtain ⟨rfl, rfl⟩ := H
      go_wp2_with (first | ((with_reducible refine gate_callee (f := 68) rfl ?_); refine gL (some 35) Tryd.func68 #[.string x0_8] ?_; (with_reducible refine (Hd.r_lower.calls x0_8 t642 _ A15.out).mono ?_); rintro e w18 ⟨rfl, hb⟩; refine ⟨_, rfl, ?_⟩; replace HB := lb HB hb; (try clear hb); (try clear hb2); (try clear hk); (try clear hi)) | ((with_reducible refine gate_callee (f := 69) rfl ?_); refine gL (some 38) Tryd.func69 #[] ?_; (with_reducible refine (r_NaN.calls  t643 _ A17.out).mono ?_); rintro e w' ⟨rfl, ⟨nd, rfl⟩⟩; refine ⟨_, rfl, ?_⟩))
      go_ret2
      exact ex (lk HB)
     rw [if_neg c16] at H
     have c16b0 : (t642.toList == ([110, 97, 110] : List UInt8)) = false := beq_eq_false_iff_ne.mpr c16
     have c16b1 : (t642.toList != ([110, 97, 110] : List UInt8)) = true := bne_iff_ne.mpr c16
     have HC19 := Aside0.mk H
     clear H
     go_upto_region 10 with (first | ((with_reducible refine gate_callee (f := 68) rfl ?_); refine gL (some 35) Tryd.func68 #[.string x0_8] ?_; (with_reducible refine (Hd.r_lower.calls x0_8 t642 _ A15.out).mono ?_); rintro e w20 ⟨rfl, hb⟩; refine ⟨_, rfl, ?_⟩; replace HB := lb HB hb; (try clear hb); (try clear hb2); (try clear hk); (try clear hi)))
     (try simp only [Act.put, List.setIfInBounds_toArray, List.set_cons_zero, List.set_cons_succ])
     go_cut [44] (fun v44 wc => ∃ (kq : Nat) (x44_18 : Bool), v44 = .bool x44_18 ∧ Aside0 (r_Parse.j2 kq x0_8 x4_8 x44_18 = some (r1, r2)) ∧ Aside0 (kq ≤ kj8) ∧ Aside0 (Below w.heap.size w wc))
     case first =>
      have H := HC19.out
      clear HC19
      by_cases c21 : t642.toList = ([105, 110, 102] : List UInt8)
      ·
       rw [if_pos c21] at H
       have c21b0 : (t642.toList == ([105, 110, 102] : List UInt8)) = true := beq_iff_eq.mpr c21
       have c21b1 : (t642.toList != ([105, 110, 102] : List UInt8)) = false := bne_eq_false_iff_eq.mpr c21
       clear c21
       (first | rw [c21b0] | (simp only [i64_w, i32_w]; rw [c21b0]) | skip)
       have H' := Aside0.mk H
       clear H
       go_wp2
       go_meet
       case rel => exact ⟨_, (true), (by first | rfl | (simp; done) | (simp [*]; done)), H', ⟨by have := HJ2.out; have := HJ8.out; first | omega | exact Nat.le_refl _⟩, ⟨lk HB⟩⟩
      rw [if_neg c21] at H
      have c21b0 : (t642.toList == ([105, 110, 102] : List UInt8)) = false := beq_eq_false_iff_ne.mpr c21
      have c21b1 : (t642.toList != ([105, 110, 102] : List UInt8)) = true := bne_iff_ne.mpr c21
      (first | rw [c21b0] | (simp only [i64_w, i32_w]; rw [c21b0]) | skip)
      have H' := Aside0.mk H
      clear H
      go_wp2
      go_meet
      case rel => exact ⟨_, ((t642.toList == ([105, 110, 102, 105, 110, 105, 116, 121] : List UInt8))), (by first | rfl | (simp; done) | (simp [*]; done)), H', ⟨by have := HJ2.out; have := HJ8.out; first | omega | exact Nat.le_refl _⟩, ⟨lk HB⟩⟩
     case rest =>
      clear HC19
      try clear c1
      try clear p1
      try clear q1
      try clear hx1
      try clear qi1
      try clear c2
      try clear c2b0
      try clear c2b1
      try clear p2
      try clear c4
      try clear c4b0
      try clear c4b1
      try clear c5
      try clear c5b0
      try clear c5b1
      try clear c6
      try clear p6
      try clear q6
      try clear hx6
      try clear qi6
      try clear c7
      try clear c7b0
      try clear c7b1
      try clear p8
      try clear q8
      try clear hx8
      try clear qi8
      try clear c10
      try clear c11
      try clear c11b0
      try clear c11b1
      try clear p12
      try clear q12
      try clear hx12
      try clear qi12
      try clear c13
      try clear c13b0
      try clear c13b1
      try clear c16
      try clear c16b0
      try clear c16b1
      try clear c19
      try clear c21
      try clear c21b0
      try clear c21b1
      try clear p1
      try clear p12
      try clear p2
      try clear p6
      try clear p8
      try clear q1
      try clear q12
      try clear q6
      try clear q8
      obtain ⟨kq, x44_18, rfl, HA, HJ18, HB⟩ := hcut
      cases kq with
      | zero => exact absurd HA.out (by simp [r_Parse.j2])
      | succ kj18 =>
       have H := HA.out
       clear HA
       simp only [r_Parse.j2] at H
       by_cases c22 : x44_18 = true
       ·
        subst c22
        have H1 : ((r_signed.f 9218868437227405312 x4_8).bind fun t644 => (some (t644, 0))) = some (r1, r2) := by rw [if_pos rfl] at H; exact H
        clear H
        have H := H1
        clear H1
        replace H := Option.bind_eq_some_iff.mp H
        obtain ⟨t644, A230, H⟩ := H
        replace H : (some (t644, 0)) = some (r1, r2) := H
        have A23 := Aside0.mk A230
        clear A230
        simp only [Option.some.injEq, Prod.mk.injEq] at H
        obtain ⟨rfl, rfl⟩ := H
        go_wp2_with (first | ((with_reducible refine gate_callee (f := 70) rfl ?_); refine gL (some 46) Tryd.func70 #[.int .u64 9218868437227405312, .bool x4_8] ?_; (with_reducible refine (r_signed.calls 9218868437227405312 x4_8 t644 _ A23.out).mono ?_); rintro e w' ⟨rfl, ⟨nd, rfl⟩⟩; refine ⟨_, rfl, ?_⟩))
        go_ret2
        exact ex (lk HB)
       replace c22 := Bool.eq_false_iff.mpr c22
       subst c22
       have H1 : (r_Parse.l0 kj18 x0_8 x4_8 0 false 0 0 ([] : List Int) 0) = some (r1, r2) := by rw [if_neg (show ¬ (false = true) by decide)] at H; exact H
       clear H
       have H := H1
       clear H1
       have HC24 := Aside0.mk H
       clear H
       go_upto_block 0 with (first | ((with_reducible refine gate_dst (N := 8) rfl ?_); refine box_event ?hg (N := 8) ?hd (cs := #[.slice none 0 0, .int .i64 0]) (t := 72) ?hr ?_; (case hd => rfl); (case hg => rfl); (case hr => first | (go_simp; done) | (go_simp; rfl)); intro gb645 hg w25 hbox hb; have BK645 := Aside0.mk (hbox); have GW645 := Aside0.mk ((by rw [hg]; exact (below_size (lk HB)) : w.heap.size ≤ gb645)); have GE645 := Aside0.mk ((by rw [hg]; exact (below_size (lk HB)) : w.heap.size ≤ gb645)); replace HB := lb HB hb; clear hb hbox hg))
       (try simp only [Act.put, List.setIfInBounds_toArray, List.set_cons_zero, List.set_cons_succ])
       go_cut [6, 7, 9] (fun v6 v7 v9 wc => ∃ (kq : Nat) (x6_23 : Int) (x7_23 : Bool) (x9_23 : Int) (x646000_23 : List Int) (x646001_23 : Int) (u646000 : Value), v6 = .int .i64 x6_23 ∧ v7 = .bool x7_23 ∧ v9 = .int .i64 x9_23 ∧ Aside0 (r_Parse.j6 kq x0_8 x4_8 x6_23 x7_23 x9_23 x646000_23 x646001_23 = some (r1, r2)) ∧ Aside0 (kq ≤ kj18) ∧ Aside0 (Kd.R (Kd.int .i64) 3 wc w.heap.size (fun _ => True) u646000 x646000_23) ∧ Aside0 (wc.heap[gb645]? = some (.cells #[u646000, .int .i64 x646001_23] 72 (0, 0))) ∧ Aside0 (Below w.heap.size w wc))
       case first =>
        have H := HC24.out
        clear HC24
        have H' := Aside0.mk H
        clear H
        go_wp2
        go_loopg [6, 7, 9, 10] kj18 (fun kq v6 v7 v9 v10 w' => ∃ (x6_4 : Int) (x7_4 : Bool) (x9_4 : Int) (x10_4 : Int) (x646000_4 : List Int) (x646001_4 : Int) (u646000 : Value), v6 = .int .i64 x6_4 ∧ v7 = .bool x7_4 ∧ v9 = .int .i64 x9_4 ∧ v10 = .int .i64 x10_4 ∧ Aside0 (r_Parse.l0 kq x0_8 x4_8 x6_4 x7_4 x9_4 x10_4 x646000_4 x646001_4 = some (r1, r2)) ∧ Aside0 (kq ≤ kj18) ∧ Aside0 (Kd.R (Kd.int .i64) 3 w' w.heap.size (fun _ => True) u646000 x646000_4) ∧ Aside0 (w'.heap[gb645]? = some (.cells #[u646000, .int .i64 x646001_4] 72 (0, 0))) ∧ Aside0 (Below w.heap.size w w'))
        case atStart => exact ⟨(0), (false), (0), (0), (([] : List Int)), (0), (.slice none 0 0), (by first | rfl | (simp; done) | (simp [*]; done)), (by first | rfl | (simp; done) | (simp [*]; done)), (by first | rfl | (simp; done) | (simp [*]; done)), (by first | rfl | (simp; done) | (simp [*]; done)), H', ⟨Nat.le_refl _⟩, ⟨by first | exact Kd.R_nil _ _ _ _ _ | exact Kd.N_nil _ _ _ _ _ | exact Kd.V_nil _ _ _ _ _ | exact Kd.Q_nil _ _ _ _ _ | exact Kd.S_nil _ _ _ _ _⟩, ⟨bk BK645⟩, ⟨lk HB⟩⟩
        case round =>
         clear H'
         try clear c1
         try clear p1
         try clear q1
         try clear hx1
         try clear qi1
         try clear c2
         try clear c2b0
         try clear c2b1
         try clear p2
         try clear c4
         try clear c4b0
         try clear c4b1
         try clear c5
         try clear c5b0
         try clear c5b1
         try clear c6
         try clear p6
         try clear q6
         try clear hx6
         try clear qi6
         try clear c7
         try clear c7b0
         try clear c7b1
         try clear p8
         try clear q8
         try clear hx8
         try clear qi8
         try clear c10
         try clear c11
         try clear c11b0
         try clear c11b1
         try clear p12
         try clear q12
         try clear hx12
         try clear qi12
         try clear c13
         try clear c13b0
         try clear c13b1
         try clear c16
         try clear c16b0
         try clear c16b1
         try clear c19
         try clear c21
         try clear c21b0
         try clear c21b1
         try clear c22
         try clear p1
         try clear p12
         try clear p2
         try clear p6
         try clear p8
         try clear q1
         try clear q12
         try clear q6
         try clear q8
         obtain ⟨x6_4, x7_4, x9_4, x10_4, x646000_4, x646001_4, u646000, rfl, rfl, rfl, rfl, HA, HK4, HO_646000, BK645, HB⟩ := hrel
         cases gk with
         | zero => exact absurd HA.out (by simp [r_Parse.l0])
         | succ k4 =>
          have H := HA.out
          clear HA
          simp only [r_Parse.l0] at H
          by_cases c26 : x10_4 < 2
          ·
           rw [if_pos c26] at H
           have c26b0 : decide (x10_4 < 2) = true := decide_eq_true c26
           clear c26
           (first | rw [c26b0] | (simp only [i64_w, i32_w]; rw [c26b0]) | skip)
           have H' := Aside0.mk H
           clear H
           go_wp2
           go_loopg [6, 7, 9] k4 (fun kq v6 v7 v9 w' => ∃ (x6_5 : Int) (x7_5 : Bool) (x9_5 : Int) (x646000_5 : List Int) (x646001_5 : Int) (u646000 : Value), v6 = .int .i64 x6_5 ∧ v7 = .bool x7_5 ∧ v9 = .int .i64 x9_5 ∧ Aside0 (r_Parse.l1 kq x0_8 x4_8 x6_5 x7_5 x9_5 x10_4 x646000_5 x646001_5 = some (r1, r2)) ∧ Aside0 (kq ≤ k4) ∧ Aside0 (Kd.R (Kd.int .i64) 3 w' w.heap.size (fun _ => True) u646000 x646000_5) ∧ Aside0 (w'.heap[gb645]? = some (.cells #[u646000, .int .i64 x646001_5] 72 (0, 0))) ∧ Aside0 (Below w.heap.size w w'))
           case atStart => exact ⟨(x6_4), (x7_4), (x9_4), (x646000_4), (x646001_4), (u646000), (by first | rfl | (simp; done) | (simp [*]; done)), (by first | rfl | (simp; done) | (simp [*]; done)), (by first | rfl | (simp; done) | (simp [*]; done)), H', ⟨Nat.le_refl _⟩, ⟨rk HO_646000⟩, ⟨bk BK645⟩, ⟨lk HB⟩⟩
           case round =>
            clear H'
            try clear c1
            try clear p1
            try clear q1
            try clear hx1
            try clear qi1
            try clear c2
            try clear c2b0
            try clear c2b1
            try clear p2
            try clear c4
            try clear c4b0
            try clear c4b1
            try clear c5
            try clear c5b0
            try clear c5b1
            try clear c6
            try clear p6
            try clear q6
            try clear hx6
            try clear qi6
            try clear c7
            try clear c7b0
            try clear c7b1
            try clear p8
            try clear q8
            try clear hx8
            try clear qi8
            try clear c10
            try clear c11
            try clear c11b0
            try clear c11b1
            try clear p12
            try clear q12
            try clear hx12
            try clear qi12
            try clear c13
            try clear c13b0
            try clear c13b1
            try clear c16
            try clear c16b0
            try clear c16b1
            try clear c19
            try clear c21
            try clear c21b0
            try clear c21b1
            try clear c22
            try clear c26
            try clear c26b0
            try clear p1
            try clear p12
            try clear p2
            try clear p6
            try clear p8
            try clear q1
            try clear q12
            try clear q6
            try clear q8
            obtain ⟨x6_5, x7_5, x9_5, x646000_5, x646001_5, u646000, rfl, rfl, rfl, HA, HK5, HO_646000, BK645, HB⟩ := hrel
            cases gk with
            | zero => exact absurd HA.out (by simp [r_Parse.l1])
            | succ k5 =>
             have H := HA.out
             clear HA
             simp only [r_Parse.l1] at H
             have HC27 := Aside0.mk H
             clear H
             go_upto_region 19 with (fail)
             go_cut [60] (fun v60 wc => ∃ (kq : Nat) (x60_26 : Bool), v60 = .bool x60_26 ∧ Aside0 (r_Parse.j5 kq x0_8 x4_8 x6_5 x7_5 x9_5 x10_4 x60_26 x646000_5 x646001_5 = some (r1, r2)) ∧ Aside0 (kq ≤ k5) ∧ Aside0 (Kd.R (Kd.int .i64) 3 wc w.heap.size (fun _ => True) u646000 x646000_5) ∧ Aside0 (wc.heap[gb645]? = some (.cells #[u646000, .int .i64 x646001_5] 72 (0, 0))) ∧ Aside0 (Below w.heap.size w wc))
             case first =>
              have H := HC27.out
              clear HC27
              by_cases c28 : x6_5 < (x0_8.size : Int)
              ·
               rw [if_pos c28] at H
               have c28b0 : decide (x6_5 < (x0_8.size : Int)) = true := decide_eq_true c28
               clear c28
               (first | rw [c28b0] | (simp only [i64_w, i32_w]; rw [c28b0]) | skip)
               by_cases c29 : 0 ≤ x6_5
               ·
                rw [if_pos c29] at H
                have c29b0 : decide (0 ≤ x6_5) = true := decide_eq_true c29
                clear c29
                replace H := Option.bind_eq_some_iff.mp H
                obtain ⟨t646, A310, H⟩ := H
                replace H : (r_Parse.j5 k5 x0_8 x4_8 x6_5 x7_5 x9_5 x10_4 t646 x646000_5 x646001_5) = some (r1, r2) := H
                have A31 := Aside0.mk A310
                clear A310
                have H' := Aside0.mk H
                clear H
                have p30 : 0 ≤ (x6_5 : Int) := of_decide_eq_true (by first | (with_reducible assumption) | assumption)
                have q30 : x6_5 < (x0_8.size : Int) := of_decide_eq_true (by first | (with_reducible assumption) | assumption)
                have hx30 := bt_at x0_8 x6_5
                replace p30 := eq_true p30
                replace q30 := eq_true q30
                go_wp2_with (first | (go_at_call 71; (with_reducible refine (r_digit.calls (bt x0_8 x6_5) t646 _ A31.out).mono ?_); rintro e w' ⟨rfl, ⟨nd, rfl⟩⟩))
                go_meet
                case rel => exact ⟨_, (t646), (by first | rfl | (simp; done) | (simp [*]; done)), H', ⟨by have := HJ2.out; have := HJ8.out; have := HJ18.out; have := HK4.out; have := HK5.out; first | omega | exact Nat.le_refl _⟩, ⟨rk HO_646000⟩, ⟨bk BK645⟩, ⟨lk HB⟩⟩
               rw [if_neg c29] at H
               exact absurd H (by simp)
              rw [if_neg c28] at H
              have c28b0 : decide (x6_5 < (x0_8.size : Int)) = false := decide_eq_false c28
              clear c28
              (first | rw [c28b0] | (simp only [i64_w, i32_w]; rw [c28b0]) | skip)
              have H' := Aside0.mk H
              clear H
              go_wp2
              go_meet
              case rel => exact ⟨_, (false), (by first | rfl | (simp; done) | (simp [*]; done)), H', ⟨by have := HJ2.out; have := HJ8.out; have := HJ18.out; have := HK4.out; have := HK5.out; first | omega | exact Nat.le_refl _⟩, ⟨rk HO_646000⟩, ⟨bk BK645⟩, ⟨lk HB⟩⟩
             case rest =>
              clear HC27
              try clear c1
              try clear p1
              try clear q1
              try clear hx1
              try clear qi1
              try clear c2
              try clear c2b0
              try clear c2b1
              try clear p2
              try clear p3
              try clear q3
              try clear hx3
              try clear c4
              try clear c4b0
              try clear c4b1
              try clear c5
              try clear c5b0
              try clear c5b1
              try clear c6
              try clear p6
              try clear q6
              try clear hx6
              try clear qi6
              try clear c7
              try clear c7b0
              try clear c7b1
              try clear p8
              try clear q8
              try clear hx8
              try clear qi8
              try clear c10
              try clear c11
              try clear c11b0
              try clear c11b1
              try clear p12
              try clear q12
              try clear hx12
              try clear qi12
              try clear c13
              try clear c13b0
              try clear c13b1
              try clear c16
              try clear c16b0
              try clear c16b1
              try clear c19
              try clear c21
              try clear c21b0
              try clear c21b1
              try clear c22
              try clear c26
              try clear c26b0
              try clear c28
              try clear c28b0
              try clear c29
              try clear c29b0
              try clear p30
              try clear q30
              try clear hx30
              try clear p1
              try clear p12
              try clear p2
              try clear p30
              try clear p6
              try clear p8
              try clear q1
              try clear q12
              try clear q30
              try clear q6
              try clear q8
              obtain ⟨kq, x60_26, rfl, HA, HJ26, HO_646000, BK645, HB⟩ := hcut
              cases kq with
              | zero => exact absurd HA.out (by simp [r_Parse.j5])
              | succ kj26 =>
               have H := HA.out
               clear HA
               simp only [r_Parse.j5] at H
               by_cases c32 : x60_26 = true
               ·
                subst c32
                have H1 : (if 0 ≤ x6_5 then (if x6_5 < (x0_8.size : Int) then ((r_times.f kj26 x646000_5 10 (((bt x0_8 x6_5) - 48) % 256)).bind fun t647 => (if (t647.length : Int) > 0 then (if x10_4 = 1 then (r_Parse.l1 kj26 x0_8 x4_8 (wrap64 (x6_5 + 1)) true (wrap64 (x9_5 + 1)) x10_4 t647 (wrap64 (x646001_5 - 1))) else (r_Parse.l1 kj26 x0_8 x4_8 (wrap64 (x6_5 + 1)) true (wrap64 (x9_5 + 1)) x10_4 t647 x646001_5)) else (if x10_4 = 1 then (r_Parse.l1 kj26 x0_8 x4_8 (wrap64 (x6_5 + 1)) true x9_5 x10_4 t647 (wrap64 (x646001_5 - 1))) else (r_Parse.l1 kj26 x0_8 x4_8 (wrap64 (x6_5 + 1)) true x9_5 x10_4 t647 x646001_5)))) else (none)) else (none)) = some (r1, r2) := by rw [if_pos rfl] at H; exact H
                clear H
                have H := H1
                clear H1
                by_cases c33 : 0 ≤ x6_5
                ·
                 rw [if_pos c33] at H
                 have c33b0 : decide (0 ≤ x6_5) = true := decide_eq_true c33
                 clear c33
                 by_cases c34 : x6_5 < (x0_8.size : Int)
                 ·
                  rw [if_pos c34] at H
                  have c34b0 : decide (x6_5 < (x0_8.size : Int)) = true := decide_eq_true c34
                  clear c34
                  replace H := Option.bind_eq_some_iff.mp H
                  obtain ⟨t647, A360, H⟩ := H
                  replace H : (if (t647.length : Int) > 0 then (if x10_4 = 1 then (r_Parse.l1 kj26 x0_8 x4_8 (wrap64 (x6_5 + 1)) true (wrap64 (x9_5 + 1)) x10_4 t647 (wrap64 (x646001_5 - 1))) else (r_Parse.l1 kj26 x0_8 x4_8 (wrap64 (x6_5 + 1)) true (wrap64 (x9_5 + 1)) x10_4 t647 x646001_5)) else (if x10_4 = 1 then (r_Parse.l1 kj26 x0_8 x4_8 (wrap64 (x6_5 + 1)) true x9_5 x10_4 t647 (wrap64 (x646001_5 - 1))) else (r_Parse.l1 kj26 x0_8 x4_8 (wrap64 (x6_5 + 1)) true x9_5 x10_4 t647 x646001_5))) = some (r1, r2) := H
                  have A36 := Aside0.mk A360
                  clear A360
                  by_cases c37 : (t647.length : Int) > 0
                  ·
                   rw [if_pos c37] at H
                   have c37b0 : decide (0 < (t647.length : Int)) = true := decide_eq_true c37
                   have c37b1 : decide (0 < t647.length) = true := decide_eq_true (by omega)
                   clear c37
                   by_cases c38 : x10_4 = 1
                   ·
                    rw [if_pos c38] at H
                    have c38b0 : (x10_4 == 1) = true := beq_iff_eq.mpr c38
                    have c38b1 : (x10_4 != 1) = false := bne_eq_false_iff_eq.mpr c38
                    clear c38
                    have H' := Aside0.mk H
                    clear H
                    try go_wp2
                    have n0_ := Aside0.mk (Kd.R_drew HO_646000.out)
                    have n1_ := Aside0.mk (blk_drew BK645.out)
                    have n2_ := Aside0.mk (below_drew1 HB.out)
                    clear HO_646000
                    clear BK645
                    clear HB
                    have HO_646000 := n0_
                    have BK645 := n1_
                    have HB := n2_
                    clear n0_ n1_ n2_
                    have p35 : 0 ≤ (x6_5 : Int) := of_decide_eq_true (by first | (with_reducible assumption) | assumption)
                    have q35 : x6_5 < (x0_8.size : Int) := of_decide_eq_true (by first | (with_reducible assumption) | assumption)
                    have hx35 := bt_at x0_8 x6_5
                    replace p35 := eq_true p35
                    replace q35 := eq_true q35
                    obtain ⟨Ao40, co40, eo40⟩ := Kd.R_slice HO_646000.out
                    (first | subst eo40 | (injection eo40 with f1_ f2_ f3_; have f4_ := f1_.symm; have f5_ := f3_.symm; clear f1_ f2_ f3_; subst f4_; subst f5_))
                    refine start_ (n := 10) (S := fun w' => w'.cell? ⟨gb645, 0, none⟩ = some (.slice Ao40 x646000_5.length co40) ∧ w'.cell? ⟨gb645, 1, none⟩ = some (.int .i64 x646001_5)) (ds := [9]) #[false, false, false, false, false, false, false, false, false, false] (by kernel_rfl) rfl rfl ⟨(blk_cell BK645.out 0).trans rfl, (blk_cell BK645.out 1).trans rfl⟩ (fun hHeld => ?_); refine with_tabW r_Parse.tab20 r_Parse.bits20 (fun HT_ HW_ => ?_)
                    generalize wc.drew = w39 at HO_646000 BK645 HB hHeld ⊢
                    refine pure_ (i := 0) (N := some 61) (v := ?_) (a' := ?_) #[true, false, false, false, false, false, false, false, false, false] rfl rfl (any_of HT_.out (by kernel_rfl)) (fun _ _ _ h => h) (Or.inl ⟨by rfl, ?_⟩) ?_ ?_
                    rotate_left
                    ·
                     intro w'
                     go_simp
                     with_reducible rfl
                    rotate_left
                    ·
                     simp only [Act.put, List.setIfInBounds_toArray, List.set_cons_zero, List.set_cons_succ, i64_w, i32_w]
                     rfl
                    refine pure_ (i := 2) (N := some 63) (v := ?_) (a' := ?_) #[true, false, true, false, false, false, false, false, false, false] rfl rfl (any_of HT_.out (by kernel_rfl)) (fun _ _ _ h => h) (Or.inl ⟨by rfl, ?_⟩) ?_ ?_
                    rotate_left
                    ·
                     intro w'
                     go_simp
                     with_reducible rfl
                    rotate_left
                    ·
                     simp only [Act.put, List.setIfInBounds_toArray, List.set_cons_zero, List.set_cons_succ, i64_w, i32_w]
                     rfl
                    refine pure_ (i := 3) (N := some 64) (v := ?_) (a' := ?_) #[true, false, true, true, false, false, false, false, false, false] rfl rfl (any_of HT_.out (by kernel_rfl)) (fun _ _ _ h => h) (Or.inl ⟨by rfl, ?_⟩) ?_ ?_
                    rotate_left
                    ·
                     intro w'
                     go_simp
                     with_reducible rfl
                    rotate_left
                    ·
                     simp only [Act.put, List.setIfInBounds_toArray, List.set_cons_zero, List.set_cons_succ, i64_w, i32_w]
                     rfl
                    refine take_ (i := 1) (N := some 62) (v := ?_) (a' := ?_) #[true, true, true, true, false, false, false, false, false, false] rfl rfl (take_ofW HT_.out HW_.out (by kernel_rfl)) (fun _ _ _ h => h) (Or.inl ⟨by rfl, ?_⟩) hHeld ?_ ?_
                    rotate_left
                    ·
                     rintro w' ⟨s0, s1⟩
                     go_simp
                     with_reducible rfl
                    rotate_left
                    ·
                     simp only [Act.put, List.setIfInBounds_toArray, List.set_cons_zero, List.set_cons_succ, i64_w, i32_w]
                     rfl
                    refine take_ (i := 4) (N := some 65) (v := ?_) (a' := ?_) #[true, true, true, true, true, false, false, false, false, false] rfl rfl (take_ofW HT_.out HW_.out (by kernel_rfl)) (fun _ _ _ h => h) (Or.inl ⟨by rfl, ?_⟩) hHeld ?_ ?_
                    rotate_left
                    ·
                     rintro w' ⟨s0, s1⟩
                     go_simp
                     with_reducible rfl
                    rotate_left
                    ·
                     simp only [Act.put, List.setIfInBounds_toArray, List.set_cons_zero, List.set_cons_succ, i64_w, i32_w]
                     rfl
                    refine pure_ (i := 5) (N := some 66) (v := ?_) (a' := ?_) #[true, true, true, true, true, true, false, false, false, false] rfl rfl (any_of HT_.out (by kernel_rfl)) (fun _ _ _ h => h) (Or.inl ⟨by rfl, ?_⟩) ?_ ?_
                    rotate_left
                    ·
                     intro w'
                     go_simp
                     with_reducible rfl
                    rotate_left
                    ·
                     simp only [Act.put, List.setIfInBounds_toArray, List.set_cons_zero, List.set_cons_succ, i64_w, i32_w]
                     rfl
                    refine pure_ (i := 6) (N := some 67) (v := ?_) (a' := ?_) #[true, true, true, true, true, true, true, false, false, false] rfl rfl (any_of HT_.out (by kernel_rfl)) (fun _ _ _ h => h) (Or.inl ⟨by rfl, ?_⟩) ?_ ?_
                    rotate_left
                    ·
                     intro w'
                     go_simp
                     with_reducible rfl
                    rotate_left
                    ·
                     simp only [Act.put, List.setIfInBounds_toArray, List.set_cons_zero, List.set_cons_succ, i64_w, i32_w]
                     rfl
                    refine one_ (i := 7) (N := some 68) #[true, true, true, true, true, true, true, true, false, false] rfl rfl (one_of HT_.out (by kernel_rfl)) (by decide) (fun K hK => ?_)
                    refine goes_ Tryd.func56 (by kernel_rfl) rfl #[.slice Ao40 x646000_5.length co40, .int .i64 10, .int .i64 (((bt x0_8 x6_5) - 48) % 256)] (by rfl) rfl rfl (by (try simp only [List.map_toArray, List.map_cons, List.map_nil]); first | done | rfl | (simp only [List.length_drop, List.length_take]; rfl) | (simp [Act.eval, Hd.wrap_u8]; done)) ?_
                    with_reducible refine (r_times.calls kj26 _ _ x646000_5 10 (((bt x0_8 x6_5) - 48) % 256) t647 _ ?side1 ?side2 A36.out).mono ?_
                    (case side1 => exact ck (Kd.R_reads' HO_646000.out).2.2)
                    (case side2 => exact (Kd.R_reads' HO_646000.out).2.1)
                    rintro e w41 ⟨v648, rfl, ho0, hb⟩
                    refine ⟨_, rfl, ?_⟩
                    have n0_ := Aside0.mk (Kd.R_elder' (rk HO_646000) (Kd.R_base ho0) hb)
                    have n1_ := Aside0.mk (Kd.R_lower (Kd.R_new' ho0 (Kd.R_lt (rk HO_646000))) (below_size (lk HB)))
                    have n2_ := bb BK645 hb
                    have n3_ := lb HB hb
                    clear HO_646000
                    clear BK645
                    clear HB
                    have HO_646000 := n0_
                    have HO649 := n1_
                    have BK645 := n2_
                    have HB := n3_
                    clear n0_ n1_ n2_ n3_
                    (try clear hb)
                    (try clear hb2)
                    (try clear hk)
                    (try clear hi)
                    (try clear ho0)
                    obtain ⟨Ao42, co42, eo42⟩ := Kd.R_slice HO649.out
                    (first | subst eo42 | (injection eo42 with f1_ f2_ f3_; have f4_ := f1_.symm; have f5_ := f3_.symm; clear f1_ f2_ f3_; subst f4_; subst f5_))
                    refine hK.out _ _ ⟨(blk_cell BK645.out 0).trans rfl, (blk_cell BK645.out 1).trans rfl⟩ (fun hHeld => ?_)
                    clear hK K
                    refine norm_ (a' := ?_) ?_ ?_
                    rotate_left
                    ·
                     show Act.put _ (some 68) _ = _
                     simp only [Act.put, List.setIfInBounds_toArray, List.set_cons_zero, List.set_cons_succ, i64_w, i32_w]
                     rfl
                    refine pure_ (i := 8) (N := some 69) (v := ?_) (a' := ?_) #[true, true, true, true, true, true, true, true, true, false] rfl rfl (any_of HT_.out (by kernel_rfl)) (fun _ _ _ h => h) (Or.inl ⟨by rfl, ?_⟩) ?_ ?_
                    rotate_left
                    ·
                     intro w'
                     go_simp
                     with_reducible rfl
                    rotate_left
                    ·
                     simp only [Act.put, List.setIfInBounds_toArray, List.set_cons_zero, List.set_cons_succ, i64_w, i32_w]
                     rfl
                    refine last_ (i := 9) (N := none) #[true, true, true, true, true, true, true, true, true, true] rfl rfl (one_of HT_.out (by kernel_rfl)) (by decide) (fun K hK => ?_)
                    have hs43 : w41.cell? ⟨gb645, 0, none⟩ = some (.slice Ao40 x646000_5.length co40) := (blk_cell BK645.out 0).trans rfl
                    have hfs43 := blk_frozen BK645.out 0
                    refine skip_ (w1 := ?_) (by rfl) rfl ?_ ?_
                    rotate_left
                    ·
                     go_simp
                     rfl
                    refine hK.out _ _ ?_
                    clear hK K
                    refine done_ (done_of HT_.out (by kernel_rfl)) ?_
                    have hcz44_0 : w41.cell? ⟨gb645, 0, none⟩ = some (.slice Ao40 x646000_5.length co40) := (blk_cell BK645.out 0).trans rfl
                    have hcz44_1 : w41.cell? ⟨gb645, 1, none⟩ = some (.int .i64 x646001_5) := (blk_cell BK645.out 1).trans rfl
                    have hfz44_0 := blk_frozen BK645.out 0
                    have hfz44_1 := blk_frozen BK645.out 1
                    try go_wp2
                    go_roundg kj26
                    case measure => have := HJ2.out; have := HJ8.out; have := HJ18.out; have := HK4.out; have := HK5.out; have := HJ26.out; omega
                    case rel => exact ⟨(wrap64 (x6_5 + 1)), (true), (wrap64 (x9_5 + 1)), (t647), (wrap64 (x646001_5 - 1)), (.slice Ao42 t647.length co42), (by first | rfl | (simp; done) | (simp [*]; done)), (by first | rfl | (simp; done) | (simp [*]; done)), (by first | rfl | (simp; done) | (simp [*]; done)), H', ⟨by have := HJ2.out; have := HJ8.out; have := HJ18.out; have := HK4.out; have := HK5.out; have := HJ26.out; omega⟩, ⟨by (with_reducible repeat (first | apply Kd.R_alloc | apply Kd.R_drewN | apply Kd.R_drew)); exact Kd.R_mono (Kd.R_far (p := ⟨gb645, 1, none⟩) (Kd.R_far (p := ⟨gb645, 0, none⟩) (Kd.R_types HO649.out BK645.out (by decide)) (fun _ hk => hk.2) (.slice Ao42 t647.length co42)) (fun _ hk => hk.2) (.int .i64 (wrap64 (x646001_5 - 1)))) (fun _ hk => trivial)⟩, ⟨by (with_reducible repeat (first | refine blk_drewN ?_ _ | refine blk_drew ?_ | refine blk_alloc ?_ _)); refine blk_put (cs := #[.slice Ao42 t647.length co42, .int .i64 x646001_5]) ?_ 1 _ rfl; (with_reducible repeat (first | refine blk_drewN ?_ _ | refine blk_drew ?_ | refine blk_alloc ?_ _)); refine blk_put (cs := #[.slice Ao40 x646000_5.length co40, .int .i64 x646001_5]) ?_ 0 _ rfl; (with_reducible repeat (first | refine blk_drewN ?_ _ | refine blk_drew ?_ | refine blk_alloc ?_ _)); exact BK645.out⟩, ⟨lk HB⟩⟩
                   rw [if_neg c38] at H
                   have c38b0 : (x10_4 == 1) = false := beq_eq_false_iff_ne.mpr c38
                   have c38b1 : (x10_4 != 1) = true := bne_iff_ne.mpr c38
                   have H' := Aside0.mk H
                   clear H
                   try go_wp2
                   have n0_ := Aside0.mk (Kd.R_drew HO_646000.out)
                   have n1_ := Aside0.mk (blk_drew BK645.out)
                   have n2_ := Aside0.mk (below_drew1 HB.out)
                   clear HO_646000
                   clear BK645
                   clear HB
                   have HO_646000 := n0_
                   have BK645 := n1_
                   have HB := n2_
                   clear n0_ n1_ n2_
                   have p35 : 0 ≤ (x6_5 : Int) := of_decide_eq_true (by first | (with_reducible assumption) | assumption)
                   have q35 : x6_5 < (x0_8.size : Int) := of_decide_eq_true (by first | (with_reducible assumption) | assumption)
                   have hx35 := bt_at x0_8 x6_5
                   replace p35 := eq_true p35
                   replace q35 := eq_true q35
                   obtain ⟨Ao46, co46, eo46⟩ := Kd.R_slice HO_646000.out
                   (first | subst eo46 | (injection eo46 with f1_ f2_ f3_; have f4_ := f1_.symm; have f5_ := f3_.symm; clear f1_ f2_ f3_; subst f4_; subst f5_))
                   refine start_ (n := 10) (S := fun w' => w'.cell? ⟨gb645, 0, none⟩ = some (.slice Ao46 x646000_5.length co46) ∧ w'.cell? ⟨gb645, 1, none⟩ = some (.int .i64 x646001_5)) (ds := [9]) #[false, false, false, false, false, false, false, false, false, false] (by kernel_rfl) rfl rfl ⟨(blk_cell BK645.out 0).trans rfl, (blk_cell BK645.out 1).trans rfl⟩ (fun hHeld => ?_); refine with_tabW r_Parse.tab20 r_Parse.bits20 (fun HT_ HW_ => ?_)
                   generalize wc.drew = w45 at HO_646000 BK645 HB hHeld ⊢
                   refine pure_ (i := 0) (N := some 61) (v := ?_) (a' := ?_) #[true, false, false, false, false, false, false, false, false, false] rfl rfl (any_of HT_.out (by kernel_rfl)) (fun _ _ _ h => h) (Or.inl ⟨by rfl, ?_⟩) ?_ ?_
                   rotate_left
                   ·
                    intro w'
                    go_simp
                    with_reducible rfl
                   rotate_left
                   ·
                    simp only [Act.put, List.setIfInBounds_toArray, List.set_cons_zero, List.set_cons_succ, i64_w, i32_w]
                    rfl
                   refine pure_ (i := 2) (N := some 63) (v := ?_) (a' := ?_) #[true, false, true, false, false, false, false, false, false, false] rfl rfl (any_of HT_.out (by kernel_rfl)) (fun _ _ _ h => h) (Or.inl ⟨by rfl, ?_⟩) ?_ ?_
                   rotate_left
                   ·
                    intro w'
                    go_simp
                    with_reducible rfl
                   rotate_left
                   ·
                    simp only [Act.put, List.setIfInBounds_toArray, List.set_cons_zero, List.set_cons_succ, i64_w, i32_w]
                    rfl
                   refine pure_ (i := 3) (N := some 64) (v := ?_) (a' := ?_) #[true, false, true, true, false, false, false, false, false, false] rfl rfl (any_of HT_.out (by kernel_rfl)) (fun _ _ _ h => h) (Or.inl ⟨by rfl, ?_⟩) ?_ ?_
                   rotate_left
                   ·
                    intro w'
                    go_simp
                    with_reducible rfl
                   rotate_left
                   ·
                    simp only [Act.put, List.setIfInBounds_toArray, List.set_cons_zero, List.set_cons_succ, i64_w, i32_w]
                    rfl
                   refine take_ (i := 1) (N := some 62) (v := ?_) (a' := ?_) #[true, true, true, true, false, false, false, false, false, false] rfl rfl (take_ofW HT_.out HW_.out (by kernel_rfl)) (fun _ _ _ h => h) (Or.inl ⟨by rfl, ?_⟩) hHeld ?_ ?_
                   rotate_left
                   ·
                    rintro w' ⟨s0, s1⟩
                    go_simp
                    with_reducible rfl
                   rotate_left
                   ·
                    simp only [Act.put, List.setIfInBounds_toArray, List.set_cons_zero, List.set_cons_succ, i64_w, i32_w]
                    rfl
                   refine take_ (i := 4) (N := some 65) (v := ?_) (a' := ?_) #[true, true, true, true, true, false, false, false, false, false] rfl rfl (take_ofW HT_.out HW_.out (by kernel_rfl)) (fun _ _ _ h => h) (Or.inl ⟨by rfl, ?_⟩) hHeld ?_ ?_
                   rotate_left
                   ·
                    rintro w' ⟨s0, s1⟩
                    go_simp
                    with_reducible rfl
                   rotate_left
                   ·
                    simp only [Act.put, List.setIfInBounds_toArray, List.set_cons_zero, List.set_cons_succ, i64_w, i32_w]
                    rfl
                   refine pure_ (i := 5) (N := some 66) (v := ?_) (a' := ?_) #[true, true, true, true, true, true, false, false, false, false] rfl rfl (any_of HT_.out (by kernel_rfl)) (fun _ _ _ h => h) (Or.inl ⟨by rfl, ?_⟩) ?_ ?_
                   rotate_left
                   ·
                    intro w'
                    go_simp
                    with_reducible rfl
                   rotate_left
                   ·
                    simp only [Act.put, List.setIfInBounds_toArray, List.set_cons_zero, List.set_cons_succ, i64_w, i32_w]
                    rfl
                   refine pure_ (i := 6) (N := some 67) (v := ?_) (a' := ?_) #[true, true, true, true, true, true, true, false, false, false] rfl rfl (any_of HT_.out (by kernel_rfl)) (fun _ _ _ h => h) (Or.inl ⟨by rfl, ?_⟩) ?_ ?_
                   rotate_left
                   ·
                    intro w'
                    go_simp
                    with_reducible rfl
                   rotate_left
                   ·
                    simp only [Act.put, List.setIfInBounds_toArray, List.set_cons_zero, List.set_cons_succ, i64_w, i32_w]
                    rfl
                   refine one_ (i := 7) (N := some 68) #[true, true, true, true, true, true, true, true, false, false] rfl rfl (one_of HT_.out (by kernel_rfl)) (by decide) (fun K hK => ?_)
                   refine goes_ Tryd.func56 (by kernel_rfl) rfl #[.slice Ao46 x646000_5.length co46, .int .i64 10, .int .i64 (((bt x0_8 x6_5) - 48) % 256)] (by rfl) rfl rfl (by (try simp only [List.map_toArray, List.map_cons, List.map_nil]); first | done | rfl | (simp only [List.length_drop, List.length_take]; rfl) | (simp [Act.eval, Hd.wrap_u8]; done)) ?_
                   with_reducible refine (r_times.calls kj26 _ _ x646000_5 10 (((bt x0_8 x6_5) - 48) % 256) t647 _ ?side1 ?side2 A36.out).mono ?_
                   (case side1 => exact ck (Kd.R_reads' HO_646000.out).2.2)
                   (case side2 => exact (Kd.R_reads' HO_646000.out).2.1)
                   rintro e w47 ⟨v648, rfl, ho0, hb⟩
                   refine ⟨_, rfl, ?_⟩
                   have n0_ := Aside0.mk (Kd.R_elder' (rk HO_646000) (Kd.R_base ho0) hb)
                   have n1_ := Aside0.mk (Kd.R_lower (Kd.R_new' ho0 (Kd.R_lt (rk HO_646000))) (below_size (lk HB)))
                   have n2_ := bb BK645 hb
                   have n3_ := lb HB hb
                   clear HO_646000
                   clear BK645
                   clear HB
                   have HO_646000 := n0_
                   have HO649 := n1_
                   have BK645 := n2_
                   have HB := n3_
                   clear n0_ n1_ n2_ n3_
                   (try clear hb)
                   (try clear hb2)
                   (try clear hk)
                   (try clear hi)
                   (try clear ho0)
                   obtain ⟨Ao48, co48, eo48⟩ := Kd.R_slice HO649.out
                   (first | subst eo48 | (injection eo48 with f1_ f2_ f3_; have f4_ := f1_.symm; have f5_ := f3_.symm; clear f1_ f2_ f3_; subst f4_; subst f5_))
                   refine hK.out _ _ ⟨(blk_cell BK645.out 0).trans rfl, (blk_cell BK645.out 1).trans rfl⟩ (fun hHeld => ?_)
                   clear hK K
                   refine norm_ (a' := ?_) ?_ ?_
                   rotate_left
                   ·
                    show Act.put _ (some 68) _ = _
                    simp only [Act.put, List.setIfInBounds_toArray, List.set_cons_zero, List.set_cons_succ, i64_w, i32_w]
                    rfl
                   refine pure_ (i := 8) (N := some 69) (v := ?_) (a' := ?_) #[true, true, true, true, true, true, true, true, true, false] rfl rfl (any_of HT_.out (by kernel_rfl)) (fun _ _ _ h => h) (Or.inl ⟨by rfl, ?_⟩) ?_ ?_
                   rotate_left
                   ·
                    intro w'
                    go_simp
                    with_reducible rfl
                   rotate_left
                   ·
                    simp only [Act.put, List.setIfInBounds_toArray, List.set_cons_zero, List.set_cons_succ, i64_w, i32_w]
                    rfl
                   refine last_ (i := 9) (N := none) #[true, true, true, true, true, true, true, true, true, true] rfl rfl (one_of HT_.out (by kernel_rfl)) (by decide) (fun K hK => ?_)
                   have hs49 : w47.cell? ⟨gb645, 0, none⟩ = some (.slice Ao46 x646000_5.length co46) := (blk_cell BK645.out 0).trans rfl
                   have hfs49 := blk_frozen BK645.out 0
                   refine skip_ (w1 := ?_) (by rfl) rfl ?_ ?_
                   rotate_left
                   ·
                    go_simp
                    rfl
                   refine hK.out _ _ ?_
                   clear hK K
                   refine done_ (done_of HT_.out (by kernel_rfl)) ?_
                   have hcz50_0 : w47.cell? ⟨gb645, 0, none⟩ = some (.slice Ao46 x646000_5.length co46) := (blk_cell BK645.out 0).trans rfl
                   have hcz50_1 : w47.cell? ⟨gb645, 1, none⟩ = some (.int .i64 x646001_5) := (blk_cell BK645.out 1).trans rfl
                   have hfz50_0 := blk_frozen BK645.out 0
                   have hfz50_1 := blk_frozen BK645.out 1
                   try go_wp2
                   go_roundg kj26
                   case measure => have := HJ2.out; have := HJ8.out; have := HJ18.out; have := HK4.out; have := HK5.out; have := HJ26.out; omega
                   case rel => exact ⟨(wrap64 (x6_5 + 1)), (true), (wrap64 (x9_5 + 1)), (t647), (x646001_5), (.slice Ao48 t647.length co48), (by first | rfl | (simp; done) | (simp [*]; done)), (by first | rfl | (simp; done) | (simp [*]; done)), (by first | rfl | (simp; done) | (simp [*]; done)), H', ⟨by have := HJ2.out; have := HJ8.out; have := HJ18.out; have := HK4.out; have := HK5.out; have := HJ26.out; omega⟩, ⟨by (with_reducible repeat (first | apply Kd.R_alloc | apply Kd.R_drewN | apply Kd.R_drew)); exact Kd.R_mono (Kd.R_far (p := ⟨gb645, 0, none⟩) (Kd.R_types HO649.out BK645.out (by decide)) (fun _ hk => hk.2) (.slice Ao48 t647.length co48)) (fun _ hk => trivial)⟩, ⟨by (with_reducible repeat (first | refine blk_drewN ?_ _ | refine blk_drew ?_ | refine blk_alloc ?_ _)); refine blk_put (cs := #[.slice Ao46 x646000_5.length co46, .int .i64 x646001_5]) ?_ 0 _ rfl; (with_reducible repeat (first | refine blk_drewN ?_ _ | refine blk_drew ?_ | refine blk_alloc ?_ _)); exact BK645.out⟩, ⟨lk HB⟩⟩
                  rw [if_neg c37] at H
                  have c37b0 : decide (0 < (t647.length : Int)) = false := decide_eq_false c37
                  have c37b1 : decide (0 < t647.length) = false := decide_eq_false (by omega)
                  clear c37
                  by_cases c51 : x10_4 = 1
                  ·
                   rw [if_pos c51] at H
                   have c51b0 : (x10_4 == 1) = true := beq_iff_eq.mpr c51
                   have c51b1 : (x10_4 != 1) = false := bne_eq_false_iff_eq.mpr c51
                   clear c51
                   have H' := Aside0.mk H
                   clear H
                   try go_wp2
                   have n0_ := Aside0.mk (Kd.R_drew HO_646000.out)
                   have n1_ := Aside0.mk (blk_drew BK645.out)
                   have n2_ := Aside0.mk (below_drew1 HB.out)
                   clear HO_646000
                   clear BK645
                   clear HB
                   have HO_646000 := n0_
                   have BK645 := n1_
                   have HB := n2_
                   clear n0_ n1_ n2_
                   have p35 : 0 ≤ (x6_5 : Int) := of_decide_eq_true (by first | (with_reducible assumption) | assumption)
                   have q35 : x6_5 < (x0_8.size : Int) := of_decide_eq_true (by first | (with_reducible assumption) | assumption)
                   have hx35 := bt_at x0_8 x6_5
                   replace p35 := eq_true p35
                   replace q35 := eq_true q35
                   obtain ⟨Ao53, co53, eo53⟩ := Kd.R_slice HO_646000.out
                   (first | subst eo53 | (injection eo53 with f1_ f2_ f3_; have f4_ := f1_.symm; have f5_ := f3_.symm; clear f1_ f2_ f3_; subst f4_; subst f5_))
                   refine start_ (n := 10) (S := fun w' => w'.cell? ⟨gb645, 0, none⟩ = some (.slice Ao53 x646000_5.length co53) ∧ w'.cell? ⟨gb645, 1, none⟩ = some (.int .i64 x646001_5)) (ds := [9]) #[false, false, false, false, false, false, false, false, false, false] (by kernel_rfl) rfl rfl ⟨(blk_cell BK645.out 0).trans rfl, (blk_cell BK645.out 1).trans rfl⟩ (fun hHeld => ?_); refine with_tabW r_Parse.tab20 r_Parse.bits20 (fun HT_ HW_ => ?_)
                   generalize wc.drew = w52 at HO_646000 BK645 HB hHeld ⊢
                   refine pure_ (i := 0) (N := some 61) (v := ?_) (a' := ?_) #[true, false, false, false, false, false, false, false, false, false] rfl rfl (any_of HT_.out (by kernel_rfl)) (fun _ _ _ h => h) (Or.inl ⟨by rfl, ?_⟩) ?_ ?_
                   rotate_left
                   ·
                    intro w'
                    go_simp
                    with_reducible rfl
                   rotate_left
                   ·
                    simp only [Act.put, List.setIfInBounds_toArray, List.set_cons_zero, List.set_cons_succ, i64_w, i32_w]
                    rfl
                   refine pure_ (i := 2) (N := some 63) (v := ?_) (a' := ?_) #[true, false, true, false, false, false, false, false, false, false] rfl rfl (any_of HT_.out (by kernel_rfl)) (fun _ _ _ h => h) (Or.inl ⟨by rfl, ?_⟩) ?_ ?_
                   rotate_left
                   ·
                    intro w'
                    go_simp
                    with_reducible rfl
                   rotate_left
                   ·
                    simp only [Act.put, List.setIfInBounds_toArray, List.set_cons_zero, List.set_cons_succ, i64_w, i32_w]
                    rfl
                   refine pure_ (i := 3) (N := some 64) (v := ?_) (a' := ?_) #[true, false, true, true, false, false, false, false, false, false] rfl rfl (any_of HT_.out (by kernel_rfl)) (fun _ _ _ h => h) (Or.inl ⟨by rfl, ?_⟩) ?_ ?_
                   rotate_left
                   ·
                    intro w'
                    go_simp
                    with_reducible rfl
                   rotate_left
                   ·
                    simp only [Act.put, List.setIfInBounds_toArray, List.set_cons_zero, List.set_cons_succ, i64_w, i32_w]
                    rfl
                   refine take_ (i := 1) (N := some 62) (v := ?_) (a' := ?_) #[true, true, true, true, false, false, false, false, false, false] rfl rfl (take_ofW HT_.out HW_.out (by kernel_rfl)) (fun _ _ _ h => h) (Or.inl ⟨by rfl, ?_⟩) hHeld ?_ ?_
                   rotate_left
                   ·
                    rintro w' ⟨s0, s1⟩
                    go_simp
                    with_reducible rfl
                   rotate_left
                   ·
                    simp only [Act.put, List.setIfInBounds_toArray, List.set_cons_zero, List.set_cons_succ, i64_w, i32_w]
                    rfl
                   refine take_ (i := 4) (N := some 65) (v := ?_) (a' := ?_) #[true, true, true, true, true, false, false, false, false, false] rfl rfl (take_ofW HT_.out HW_.out (by kernel_rfl)) (fun _ _ _ h => h) (Or.inl ⟨by rfl, ?_⟩) hHeld ?_ ?_
                   rotate_left
                   ·
                    rintro w' ⟨s0, s1⟩
                    go_simp
                    with_reducible rfl
                   rotate_left
                   ·
                    simp only [Act.put, List.setIfInBounds_toArray, List.set_cons_zero, List.set_cons_succ, i64_w, i32_w]
                    rfl
                   refine pure_ (i := 5) (N := some 66) (v := ?_) (a' := ?_) #[true, true, true, true, true, true, false, false, false, false] rfl rfl (any_of HT_.out (by kernel_rfl)) (fun _ _ _ h => h) (Or.inl ⟨by rfl, ?_⟩) ?_ ?_
                   rotate_left
                   ·
                    intro w'
                    go_simp
                    with_reducible rfl
                   rotate_left
                   ·
                    simp only [Act.put, List.setIfInBounds_toArray, List.set_cons_zero, List.set_cons_succ, i64_w, i32_w]
                    rfl
                   refine pure_ (i := 6) (N := some 67) (v := ?_) (a' := ?_) #[true, true, true, true, true, true, true, false, false, false] rfl rfl (any_of HT_.out (by kernel_rfl)) (fun _ _ _ h => h) (Or.inl ⟨by rfl, ?_⟩) ?_ ?_
                   rotate_left
                   ·
                    intro w'
                    go_simp
                    with_reducible rfl
                   rotate_left
                   ·
                    simp only [Act.put, List.setIfInBounds_toArray, List.set_cons_zero, List.set_cons_succ, i64_w, i32_w]
                    rfl
                   refine one_ (i := 7) (N := some 68) #[true, true, true, true, true, true, true, true, false, false] rfl rfl (one_of HT_.out (by kernel_rfl)) (by decide) (fun K hK => ?_)
                   refine goes_ Tryd.func56 (by kernel_rfl) rfl #[.slice Ao53 x646000_5.length co53, .int .i64 10, .int .i64 (((bt x0_8 x6_5) - 48) % 256)] (by rfl) rfl rfl (by (try simp only [List.map_toArray, List.map_cons, List.map_nil]); first | done | rfl | (simp only [List.length_drop, List.length_take]; rfl) | (simp [Act.eval, Hd.wrap_u8]; done)) ?_
                   with_reducible refine (r_times.calls kj26 _ _ x646000_5 10 (((bt x0_8 x6_5) - 48) % 256) t647 _ ?side1 ?side2 A36.out).mono ?_
                   (case side1 => exact ck (Kd.R_reads' HO_646000.out).2.2)
                   (case side2 => exact (Kd.R_reads' HO_646000.out).2.1)
                   rintro e w54 ⟨v648, rfl, ho0, hb⟩
                   refine ⟨_, rfl, ?_⟩
                   have n0_ := Aside0.mk (Kd.R_elder' (rk HO_646000) (Kd.R_base ho0) hb)
                   have n1_ := Aside0.mk (Kd.R_lower (Kd.R_new' ho0 (Kd.R_lt (rk HO_646000))) (below_size (lk HB)))
                   have n2_ := bb BK645 hb
                   have n3_ := lb HB hb
                   clear HO_646000
                   clear BK645
                   clear HB
                   have HO_646000 := n0_
                   have HO649 := n1_
                   have BK645 := n2_
                   have HB := n3_
                   clear n0_ n1_ n2_ n3_
                   (try clear hb)
                   (try clear hb2)
                   (try clear hk)
                   (try clear hi)
                   (try clear ho0)
                   obtain ⟨Ao55, co55, eo55⟩ := Kd.R_slice HO649.out
                   (first | subst eo55 | (injection eo55 with f1_ f2_ f3_; have f4_ := f1_.symm; have f5_ := f3_.symm; clear f1_ f2_ f3_; subst f4_; subst f5_))
                   refine hK.out _ _ ⟨(blk_cell BK645.out 0).trans rfl, (blk_cell BK645.out 1).trans rfl⟩ (fun hHeld => ?_)
                   clear hK K
                   refine norm_ (a' := ?_) ?_ ?_
                   rotate_left
                   ·
                    show Act.put _ (some 68) _ = _
                    simp only [Act.put, List.setIfInBounds_toArray, List.set_cons_zero, List.set_cons_succ, i64_w, i32_w]
                    rfl
                   refine pure_ (i := 8) (N := some 69) (v := ?_) (a' := ?_) #[true, true, true, true, true, true, true, true, true, false] rfl rfl (any_of HT_.out (by kernel_rfl)) (fun _ _ _ h => h) (Or.inl ⟨by rfl, ?_⟩) ?_ ?_
                   rotate_left
                   ·
                    intro w'
                    go_simp
                    with_reducible rfl
                   rotate_left
                   ·
                    simp only [Act.put, List.setIfInBounds_toArray, List.set_cons_zero, List.set_cons_succ, i64_w, i32_w]
                    rfl
                   refine last_ (i := 9) (N := none) #[true, true, true, true, true, true, true, true, true, true] rfl rfl (one_of HT_.out (by kernel_rfl)) (by decide) (fun K hK => ?_)
                   have hs56 : w54.cell? ⟨gb645, 0, none⟩ = some (.slice Ao53 x646000_5.length co53) := (blk_cell BK645.out 0).trans rfl
                   have hfs56 := blk_frozen BK645.out 0
                   refine skip_ (w1 := ?_) (by rfl) rfl ?_ ?_
                   rotate_left
                   ·
                    go_simp
                    rfl
                   refine hK.out _ _ ?_
                   clear hK K
                   refine done_ (done_of HT_.out (by kernel_rfl)) ?_
                   have hcz57_0 : w54.cell? ⟨gb645, 0, none⟩ = some (.slice Ao53 x646000_5.length co53) := (blk_cell BK645.out 0).trans rfl
                   have hcz57_1 : w54.cell? ⟨gb645, 1, none⟩ = some (.int .i64 x646001_5) := (blk_cell BK645.out 1).trans rfl
                   have hfz57_0 := blk_frozen BK645.out 0
                   have hfz57_1 := blk_frozen BK645.out 1
                   try go_wp2
                   go_roundg kj26
                   case measure => have := HJ2.out; have := HJ8.out; have := HJ18.out; have := HK4.out; have := HK5.out; have := HJ26.out; omega
                   case rel => exact ⟨(wrap64 (x6_5 + 1)), (true), (x9_5), (t647), (wrap64 (x646001_5 - 1)), (.slice Ao55 t647.length co55), (by first | rfl | (simp; done) | (simp [*]; done)), (by first | rfl | (simp; done) | (simp [*]; done)), (by first | rfl | (simp; done) | (simp [*]; done)), H', ⟨by have := HJ2.out; have := HJ8.out; have := HJ18.out; have := HK4.out; have := HK5.out; have := HJ26.out; omega⟩, ⟨by (with_reducible repeat (first | apply Kd.R_alloc | apply Kd.R_drewN | apply Kd.R_drew)); exact Kd.R_mono (Kd.R_far (p := ⟨gb645, 1, none⟩) (Kd.R_far (p := ⟨gb645, 0, none⟩) (Kd.R_types HO649.out BK645.out (by decide)) (fun _ hk => hk.2) (.slice Ao55 t647.length co55)) (fun _ hk => hk.2) (.int .i64 (wrap64 (x646001_5 - 1)))) (fun _ hk => trivial)⟩, ⟨by (with_reducible repeat (first | refine blk_drewN ?_ _ | refine blk_drew ?_ | refine blk_alloc ?_ _)); refine blk_put (cs := #[.slice Ao55 t647.length co55, .int .i64 x646001_5]) ?_ 1 _ rfl; (with_reducible repeat (first | refine blk_drewN ?_ _ | refine blk_drew ?_ | refine blk_alloc ?_ _)); refine blk_put (cs := #[.slice Ao53 x646000_5.length co53, .int .i64 x646001_5]) ?_ 0 _ rfl; (with_reducible repeat (first | refine blk_drewN ?_ _ | refine blk_drew ?_ | refine blk_alloc ?_ _)); exact BK645.out⟩, ⟨lk HB⟩⟩
                  rw [if_neg c51] at H
                  have c51b0 : (x10_4 == 1) = false := beq_eq_false_iff_ne.mpr c51
                  have c51b1 : (x10_4 != 1) = true := bne_iff_ne.mpr c51
                  have H' := Aside0.mk H
                  clear H
                  try go_wp2
                  have n0_ := Aside0.mk (Kd.R_drew HO_646000.out)
                  have n1_ := Aside0.mk (blk_drew BK645.out)
                  have n2_ := Aside0.mk (below_drew1 HB.out)
                  clear HO_646000
                  clear BK645
                  clear HB
                  have HO_646000 := n0_
                  have BK645 := n1_
                  have HB := n2_
                  clear n0_ n1_ n2_
                  have p35 : 0 ≤ (x6_5 : Int) := of_decide_eq_true (by first | (with_reducible assumption) | assumption)
                  have q35 : x6_5 < (x0_8.size : Int) := of_decide_eq_true (by first | (with_reducible assumption) | assumption)
                  have hx35 := bt_at x0_8 x6_5
                  replace p35 := eq_true p35
                  replace q35 := eq_true q35
                  obtain ⟨Ao59, co59, eo59⟩ := Kd.R_slice HO_646000.out
                  (first | subst eo59 | (injection eo59 with f1_ f2_ f3_; have f4_ := f1_.symm; have f5_ := f3_.symm; clear f1_ f2_ f3_; subst f4_; subst f5_))
                  refine start_ (n := 10) (S := fun w' => w'.cell? ⟨gb645, 0, none⟩ = some (.slice Ao59 x646000_5.length co59) ∧ w'.cell? ⟨gb645, 1, none⟩ = some (.int .i64 x646001_5)) (ds := [9]) #[false, false, false, false, false, false, false, false, false, false] (by kernel_rfl) rfl rfl ⟨(blk_cell BK645.out 0).trans rfl, (blk_cell BK645.out 1).trans rfl⟩ (fun hHeld => ?_); refine with_tabW r_Parse.tab20 r_Parse.bits20 (fun HT_ HW_ => ?_)
                  generalize wc.drew = w58 at HO_646000 BK645 HB hHeld ⊢
                  refine pure_ (i := 0) (N := some 61) (v := ?_) (a' := ?_) #[true, false, false, false, false, false, false, false, false, false] rfl rfl (any_of HT_.out (by kernel_rfl)) (fun _ _ _ h => h) (Or.inl ⟨by rfl, ?_⟩) ?_ ?_
                  rotate_left
                  ·
                   intro w'
                   go_simp
                   with_reducible rfl
                  rotate_left
                  ·
                   simp only [Act.put, List.setIfInBounds_toArray, List.set_cons_zero, List.set_cons_succ, i64_w, i32_w]
                   rfl
                  refine pure_ (i := 2) (N := some 63) (v := ?_) (a' := ?_) #[true, false, true, false, false, false, false, false, false, false] rfl rfl (any_of HT_.out (by kernel_rfl)) (fun _ _ _ h => h) (Or.inl ⟨by rfl, ?_⟩) ?_ ?_
                  rotate_left
                  ·
                   intro w'
                   go_simp
                   with_reducible rfl
                  rotate_left
                  ·
                   simp only [Act.put, List.setIfInBounds_toArray, List.set_cons_zero, List.set_cons_succ, i64_w, i32_w]
                   rfl
                  refine pure_ (i := 3) (N := some 64) (v := ?_) (a' := ?_) #[true, false, true, true, false, false, false, false, false, false] rfl rfl (any_of HT_.out (by kernel_rfl)) (fun _ _ _ h => h) (Or.inl ⟨by rfl, ?_⟩) ?_ ?_
                  rotate_left
                  ·
                   intro w'
                   go_simp
                   with_reducible rfl
                  rotate_left
                  ·
                   simp only [Act.put, List.setIfInBounds_toArray, List.set_cons_zero, List.set_cons_succ, i64_w, i32_w]
                   rfl
                  refine take_ (i := 1) (N := some 62) (v := ?_) (a' := ?_) #[true, true, true, true, false, false, false, false, false, false] rfl rfl (take_ofW HT_.out HW_.out (by kernel_rfl)) (fun _ _ _ h => h) (Or.inl ⟨by rfl, ?_⟩) hHeld ?_ ?_
                  rotate_left
                  ·
                   rintro w' ⟨s0, s1⟩
                   go_simp
                   with_reducible rfl
                  rotate_left
                  ·
                   simp only [Act.put, List.setIfInBounds_toArray, List.set_cons_zero, List.set_cons_succ, i64_w, i32_w]
                   rfl
                  refine take_ (i := 4) (N := some 65) (v := ?_) (a' := ?_) #[true, true, true, true, true, false, false, false, false, false] rfl rfl (take_ofW HT_.out HW_.out (by kernel_rfl)) (fun _ _ _ h => h) (Or.inl ⟨by rfl, ?_⟩) hHeld ?_ ?_
                  rotate_left
                  ·
                   rintro w' ⟨s0, s1⟩
                   go_simp
                   with_reducible rfl
                  rotate_left
                  ·
                   simp only [Act.put, List.setIfInBounds_toArray, List.set_cons_zero, List.set_cons_succ, i64_w, i32_w]
                   rfl
                  refine pure_ (i := 5) (N := some 66) (v := ?_) (a' := ?_) #[true, true, true, true, true, true, false, false, false, false] rfl rfl (any_of HT_.out (by kernel_rfl)) (fun _ _ _ h => h) (Or.inl ⟨by rfl, ?_⟩) ?_ ?_
                  rotate_left
                  ·
                   intro w'
                   go_simp
                   with_reducible rfl
                  rotate_left
                  ·
                   simp only [Act.put, List.setIfInBounds_toArray, List.set_cons_zero, List.set_cons_succ, i64_w, i32_w]
                   rfl
                  refine pure_ (i := 6) (N := some 67) (v := ?_) (a' := ?_) #[true, true, true, true, true, true, true, false, false, false] rfl rfl (any_of HT_.out (by kernel_rfl)) (fun _ _ _ h => h) (Or.inl ⟨by rfl, ?_⟩) ?_ ?_
                  rotate_left
                  ·
                   intro w'
                   go_simp
                   with_reducible rfl
                  rotate_left
                  ·
                   simp only [Act.put, List.setIfInBounds_toArray, List.set_cons_zero, List.set_cons_succ, i64_w, i32_w]
                   rfl
                  refine one_ (i := 7) (N := some 68) #[true, true, true, true, true, true, true, true, false, false] rfl rfl (one_of HT_.out (by kernel_rfl)) (by decide) (fun K hK => ?_)
                  refine goes_ Tryd.func56 (by kernel_rfl) rfl #[.slice Ao59 x646000_5.length co59, .int .i64 10, .int .i64 (((bt x0_8 x6_5) - 48) % 256)] (by rfl) rfl rfl (by (try simp only [List.map_toArray, List.map_cons, List.map_nil]); first | done | rfl | (simp only [List.length_drop, List.length_take]; rfl) | (simp [Act.eval, Hd.wrap_u8]; done)) ?_
                  with_reducible refine (r_times.calls kj26 _ _ x646000_5 10 (((bt x0_8 x6_5) - 48) % 256) t647 _ ?side1 ?side2 A36.out).mono ?_
                  (case side1 => exact ck (Kd.R_reads' HO_646000.out).2.2)
                  (case side2 => exact (Kd.R_reads' HO_646000.out).2.1)
                  rintro e w60 ⟨v648, rfl, ho0, hb⟩
                  refine ⟨_, rfl, ?_⟩
                  have n0_ := Aside0.mk (Kd.R_elder' (rk HO_646000) (Kd.R_base ho0) hb)
                  have n1_ := Aside0.mk (Kd.R_lower (Kd.R_new' ho0 (Kd.R_lt (rk HO_646000))) (below_size (lk HB)))
                  have n2_ := bb BK645 hb
                  have n3_ := lb HB hb
                  clear HO_646000
                  clear BK645
                  clear HB
                  have HO_646000 := n0_
                  have HO649 := n1_
                  have BK645 := n2_
                  have HB := n3_
                  clear n0_ n1_ n2_ n3_
                  (try clear hb)
                  (try clear hb2)
                  (try clear hk)
                  (try clear hi)
                  (try clear ho0)
                  obtain ⟨Ao61, co61, eo61⟩ := Kd.R_slice HO649.out
                  (first | subst eo61 | (injection eo61 with f1_ f2_ f3_; have f4_ := f1_.symm; have f5_ := f3_.symm; clear f1_ f2_ f3_; subst f4_; subst f5_))
                  refine hK.out _ _ ⟨(blk_cell BK645.out 0).trans rfl, (blk_cell BK645.out 1).trans rfl⟩ (fun hHeld => ?_)
                  clear hK K
                  refine norm_ (a' := ?_) ?_ ?_
                  rotate_left
                  ·
                   show Act.put _ (some 68) _ = _
                   simp only [Act.put, List.setIfInBounds_toArray, List.set_cons_zero, List.set_cons_succ, i64_w, i32_w]
                   rfl
                  refine pure_ (i := 8) (N := some 69) (v := ?_) (a' := ?_) #[true, true, true, true, true, true, true, true, true, false] rfl rfl (any_of HT_.out (by kernel_rfl)) (fun _ _ _ h => h) (Or.inl ⟨by rfl, ?_⟩) ?_ ?_
                  rotate_left
                  ·
                   intro w'
                   go_simp
                   with_reducible rfl
                  rotate_left
                  ·
                   simp only [Act.put, List.setIfInBounds_toArray, List.set_cons_zero, List.set_cons_succ, i64_w, i32_w]
                   rfl
                  refine last_ (i := 9) (N := none) #[true, true, true, true, true, true, true, true, true, true] rfl rfl (one_of HT_.out (by kernel_rfl)) (by decide) (fun K hK => ?_)
                  have hs62 : w60.cell? ⟨gb645, 0, none⟩ = some (.slice Ao59 x646000_5.length co59) := (blk_cell BK645.out 0).trans rfl
                  have hfs62 := blk_frozen BK645.out 0
                  refine skip_ (w1 := ?_) (by rfl) rfl ?_ ?_
                  rotate_left
                  ·
                   go_simp
                   rfl
                  refine hK.out _ _ ?_
                  clear hK K
                  refine done_ (done_of HT_.out (by kernel_rfl)) ?_
                  have hcz63_0 : w60.cell? ⟨gb645, 0, none⟩ = some (.slice Ao59 x646000_5.length co59) := (blk_cell BK645.out 0).trans rfl
                  have hcz63_1 : w60.cell? ⟨gb645, 1, none⟩ = some (.int .i64 x646001_5) := (blk_cell BK645.out 1).trans rfl
                  have hfz63_0 := blk_frozen BK645.out 0
                  have hfz63_1 := blk_frozen BK645.out 1
                  try go_wp2
                  go_roundg kj26
                  case measure => have := HJ2.out; have := HJ8.out; have := HJ18.out; have := HK4.out; have := HK5.out; have := HJ26.out; omega
                  case rel => exact ⟨(wrap64 (x6_5 + 1)), (true), (x9_5), (t647), (x646001_5), (.slice Ao61 t647.length co61), (by first | rfl | (simp; done) | (simp [*]; done)), (by first | rfl | (simp; done) | (simp [*]; done)), (by first | rfl | (simp; done) | (simp [*]; done)), H', ⟨by have := HJ2.out; have := HJ8.out; have := HJ18.out; have := HK4.out; have := HK5.out; have := HJ26.out; omega⟩, ⟨by (with_reducible repeat (first | apply Kd.R_alloc | apply Kd.R_drewN | apply Kd.R_drew)); exact Kd.R_mono (Kd.R_far (p := ⟨gb645, 0, none⟩) (Kd.R_types HO649.out BK645.out (by decide)) (fun _ hk => hk.2) (.slice Ao61 t647.length co61)) (fun _ hk => trivial)⟩, ⟨by (with_reducible repeat (first | refine blk_drewN ?_ _ | refine blk_drew ?_ | refine blk_alloc ?_ _)); refine blk_put (cs := #[.slice Ao59 x646000_5.length co59, .int .i64 x646001_5]) ?_ 0 _ rfl; (with_reducible repeat (first | refine blk_drewN ?_ _ | refine blk_drew ?_ | refine blk_alloc ?_ _)); exact BK645.out⟩, ⟨lk HB⟩⟩
                 rw [if_neg c34] at H
                 exact absurd H (by simp)
                rw [if_neg c33] at H
                exact absurd H (by simp)
               replace c32 := Bool.eq_false_iff.mpr c32
               subst c32
               have H1 : (if x10_4 = 0 then (if x6_5 < (x0_8.size : Int) then (if 0 ≤ x6_5 then (if (bt x0_8 x6_5) = 46 then (r_Parse.l0 kj26 x0_8 x4_8 (wrap64 (x6_5 + 1)) x7_5 x9_5 (wrap64 (x10_4 + 1)) x646000_5 x646001_5) else (r_Parse.j6 kj26 x0_8 x4_8 x6_5 x7_5 x9_5 x646000_5 x646001_5)) else (none)) else (r_Parse.j6 kj26 x0_8 x4_8 x6_5 x7_5 x9_5 x646000_5 x646001_5)) else (r_Parse.l0 kj26 x0_8 x4_8 x6_5 x7_5 x9_5 (wrap64 (x10_4 + 1)) x646000_5 x646001_5)) = some (r1, r2) := by rw [if_neg (show ¬ (false = true) by decide)] at H; exact H
               clear H
               have H := H1
               clear H1
               by_cases c64 : x10_4 = 0
               ·
                rw [if_pos c64] at H
                have c64b0 : (x10_4 == 0) = true := beq_iff_eq.mpr c64
                have c64b1 : (x10_4 != 0) = false := bne_eq_false_iff_eq.mpr c64
                clear c64
                by_cases c65 : x6_5 < (x0_8.size : Int)
                ·
                 rw [if_pos c65] at H
                 have c65b0 : decide (x6_5 < (x0_8.size : Int)) = true := decide_eq_true c65
                 clear c65
                 by_cases c66 : 0 ≤ x6_5
                 ·
                  rw [if_pos c66] at H
                  have c66b0 : decide (0 ≤ x6_5) = true := decide_eq_true c66
                  clear c66
                  by_cases c68 : (bt x0_8 x6_5) = 46
                  ·
                   rw [if_pos c68] at H
                   have c68b0 : ((bt x0_8 x6_5) == 46) = true := beq_iff_eq.mpr c68
                   have c68b1 : ((bt x0_8 x6_5) != 46) = false := bne_eq_false_iff_eq.mpr c68
                   clear c68
                   have H' := Aside0.mk H
                   clear H
                   have p67 : 0 ≤ (x6_5 : Int) := of_decide_eq_true (by first | (with_reducible assumption) | assumption)
                   have q67 : x6_5 < (x0_8.size : Int) := of_decide_eq_true (by first | (with_reducible assumption) | assumption)
                   have hx67 := bt_at x0_8 x6_5
                   replace p67 := eq_true p67
                   replace q67 := eq_true q67
                   go_wp2
                   go_roundg kj26
                   case measure => have := HJ2.out; have := HJ8.out; have := HJ18.out; have := HK4.out; have := HK5.out; have := HJ26.out; omega
                   case rel => exact ⟨(wrap64 (x6_5 + 1)), (x7_5), (x9_5), (wrap64 (x10_4 + 1)), (x646000_5), (x646001_5), (u646000), (by first | rfl | (simp; done) | (simp [*]; done)), (by first | rfl | (simp; done) | (simp [*]; done)), (by first | rfl | (simp; done) | (simp [*]; done)), (by first | rfl | (simp; done) | (simp [*]; done)), H', ⟨by have := HJ2.out; have := HJ8.out; have := HJ18.out; have := HK4.out; have := HK5.out; have := HJ26.out; omega⟩, ⟨rk HO_646000⟩, ⟨bk BK645⟩, ⟨lk HB⟩⟩
                  rw [if_neg c68] at H
                  have c68b0 : ((bt x0_8 x6_5) == 46) = false := beq_eq_false_iff_ne.mpr c68
                  have c68b1 : ((bt x0_8 x6_5) != 46) = true := bne_iff_ne.mpr c68
                  have H' := Aside0.mk H
                  clear H
                  have p67 : 0 ≤ (x6_5 : Int) := of_decide_eq_true (by first | (with_reducible assumption) | assumption)
                  have q67 : x6_5 < (x0_8.size : Int) := of_decide_eq_true (by first | (with_reducible assumption) | assumption)
                  have hx67 := bt_at x0_8 x6_5
                  replace p67 := eq_true p67
                  replace q67 := eq_true q67
                  go_wp2
                  go_meet
                  case rel => exact ⟨_, (x6_5), (x7_5), (x9_5), (x646000_5), (x646001_5), (u646000), (by first | rfl | (simp; done) | (simp [*]; done)), (by first | rfl | (simp; done) | (simp [*]; done)), (by first | rfl | (simp; done) | (simp [*]; done)), H', ⟨by have := HJ2.out; have := HJ8.out; have := HJ18.out; have := HK4.out; have := HK5.out; have := HJ26.out; first | omega | exact Nat.le_refl _⟩, ⟨rk HO_646000⟩, ⟨bk BK645⟩, ⟨lk HB⟩⟩
                 rw [if_neg c66] at H
                 exact absurd H (by simp)
                rw [if_neg c65] at H
                have c65b0 : decide (x6_5 < (x0_8.size : Int)) = false := decide_eq_false c65
                clear c65
                have H' := Aside0.mk H
                clear H
                go_wp2
                go_meet
                case rel => exact ⟨_, (x6_5), (x7_5), (x9_5), (x646000_5), (x646001_5), (u646000), (by first | rfl | (simp; done) | (simp [*]; done)), (by first | rfl | (simp; done) | (simp [*]; done)), (by first | rfl | (simp; done) | (simp [*]; done)), H', ⟨by have := HJ2.out; have := HJ8.out; have := HJ18.out; have := HK4.out; have := HK5.out; have := HJ26.out; first | omega | exact Nat.le_refl _⟩, ⟨rk HO_646000⟩, ⟨bk BK645⟩, ⟨lk HB⟩⟩
               rw [if_neg c64] at H
               have c64b0 : (x10_4 == 0) = false := beq_eq_false_iff_ne.mpr c64
               have c64b1 : (x10_4 != 0) = true := bne_iff_ne.mpr c64
               have H' := Aside0.mk H
               clear H
               go_wp2
               go_roundg kj26
               case measure => have := HJ2.out; have := HJ8.out; have := HJ18.out; have := HK4.out; have := HK5.out; have := HJ26.out; omega
               case rel => exact ⟨(x6_5), (x7_5), (x9_5), (wrap64 (x10_4 + 1)), (x646000_5), (x646001_5), (u646000), (by first | rfl | (simp; done) | (simp [*]; done)), (by first | rfl | (simp; done) | (simp [*]; done)), (by first | rfl | (simp; done) | (simp [*]; done)), (by first | rfl | (simp; done) | (simp [*]; done)), H', ⟨by have := HJ2.out; have := HJ8.out; have := HJ18.out; have := HK4.out; have := HK5.out; have := HJ26.out; omega⟩, ⟨rk HO_646000⟩, ⟨bk BK645⟩, ⟨lk HB⟩⟩
          rw [if_neg c26] at H
          have c26b0 : decide (x10_4 < 2) = false := decide_eq_false c26
          clear c26
          (first | rw [c26b0] | (simp only [i64_w, i32_w]; rw [c26b0]) | skip)
          have H' := Aside0.mk H
          clear H
          go_wp2
          go_meet
          case rel => exact ⟨_, (x6_4), (x7_4), (x9_4), (x646000_4), (x646001_4), (u646000), (by first | rfl | (simp; done) | (simp [*]; done)), (by first | rfl | (simp; done) | (simp [*]; done)), (by first | rfl | (simp; done) | (simp [*]; done)), H', ⟨by have := HJ2.out; have := HJ8.out; have := HJ18.out; have := HK4.out; first | omega | exact Nat.le_refl _⟩, ⟨rk HO_646000⟩, ⟨bk BK645⟩, ⟨lk HB⟩⟩
       case rest =>
        clear HC24
        try clear c2
        try clear p2
        try clear c3
        try clear p3
        try clear q3
        try clear hx3
        try clear c5
        try clear c6
        try clear p6
        try clear q6
        try clear hx6
        try clear c26
        try clear c26b0
        try clear c32
        try clear c33
        try clear c34
        try clear p35
        try clear q35
        try clear hx35
        try clear c37
        try clear c37b0
        try clear c37b1
        try clear c38
        try clear c38b0
        try clear c38b1
        try clear c51
        try clear c51b0
        try clear c51b1
        try clear c56
        try clear c64
        try clear c64b0
        try clear c64b1
        try clear p64
        try clear c65
        try clear c65b0
        try clear c66
        try clear c66b0
        try clear p67
        try clear q67
        try clear hx67
        try clear c68
        try clear c68b0
        try clear c68b1
        try clear hcz44_0
        try clear hcz44_1
        try clear hcz50_0
        try clear hcz50_1
        try clear hcz57_0
        try clear hcz57_1
        try clear hcz63_0
        try clear hcz63_1
        try clear hfz44_0
        try clear hfz44_1
        try clear hfz50_0
        try clear hfz50_1
        try clear hfz57_0
        try clear hfz57_1
        try clear hfz63_0
        try clear hfz63_1
        try clear p35
        try clear p67
        try clear q35
        try clear q67
        obtain ⟨kq, x6_23, x7_23, x9_23, x646000_23, x646001_23, u646000, rfl, rfl, rfl, HA, HJ23, HO_646000, BK645, HB⟩ := hcut
        cases kq with
        | zero => exact absurd HA.out (by simp [r_Parse.j6])
        | succ kj23 =>
         have H := HA.out
         clear HA
         simp only [r_Parse.j6] at H
         by_cases c69 : x7_23 = true
         ·
          subst c69
          have H1 : (if x6_23 < (x0_8.size : Int) then (if 0 ≤ x6_23 then (if x6_23 ≤ (x0_8.size : Int) then ((r_exponent.f kj23 (x0_8.extract (x6_23 : Int).toNat x0_8.size)).bind fun bt651 => (if bt651.2 = true then ((r_nearest.f kj23 x646000_23 (wrap64 (x646001_23 + bt651.1)) x9_23).bind fun t653 => ((r_signed.f t653 x4_8).bind fun t654 => (some (t654, 0)))) else (some (0, 8)))) else (none)) else (none)) else ((r_nearest.f kj23 x646000_23 x646001_23 x9_23).bind fun t655 => ((r_signed.f t655 x4_8).bind fun t656 => (some (t656, 0))))) = some (r1, r2) := by rw [if_pos rfl] at H; exact H
          clear H
          have H := H1
          clear H1
          by_cases c70 : x6_23 < (x0_8.size : Int)
          ·
           rw [if_pos c70] at H
           have c70b0 : decide (x6_23 < (x0_8.size : Int)) = true := decide_eq_true c70
           clear c70
           by_cases c71 : 0 ≤ x6_23
           ·
            rw [if_pos c71] at H
            have c71b0 := eq_true c71
            have c71b1 : decide (0 ≤ x6_23) = true := decide_eq_true c71
            clear c71
            by_cases c72 : x6_23 ≤ (x0_8.size : Int)
            ·
             rw [if_pos c72] at H
             have c72b0 := eq_true c72
             have c72b1 : decide (x6_23 ≤ (x0_8.size : Int)) = true := decide_eq_true c72
             clear c72
             obtain ⟨y650, hy650⟩ : ∃ y_ : ByteArray, y_ = (x0_8.extract (x6_23 : Int).toNat x0_8.size) := ⟨_, rfl⟩
             replace H : ((r_exponent.f kj23 y650).bind fun bt651 => (if bt651.2 = true then ((r_nearest.f kj23 x646000_23 (wrap64 (x646001_23 + bt651.1)) x9_23).bind fun t653 => ((r_signed.f t653 x4_8).bind fun t654 => (some (t654, 0)))) else (some (0, 8)))) = some (r1, r2) := by first | (rw [hy650]; with_reducible exact H) | (rw [hy650]; with_reducible exact (hs H :)) | with_reducible exact (hs H :) | with_reducible exact H | (rw [hy650]; exact H) | exact H
             have Ny650 := Aside0.mk hy650
             clear hy650
             replace H := Option.bind_eq_some_iff.mp H
             obtain ⟨⟨t651, t652⟩, A730, H⟩ := H
             replace H : (if t652 = true then ((r_nearest.f kj23 x646000_23 (wrap64 (x646001_23 + t651)) x9_23).bind fun t653 => ((r_signed.f t653 x4_8).bind fun t654 => (some (t654, 0)))) else (some (0, 8))) = some (r1, r2) := H
             have A73 := Aside0.mk A730
             clear A730
             by_cases c74 : t652 = true
             ·
              subst c74
              have H1 : ((r_nearest.f kj23 x646000_23 (wrap64 (x646001_23 + t651)) x9_23).bind fun t653 => ((r_signed.f t653 x4_8).bind fun t654 => (some (t654, 0)))) = some (r1, r2) := by rw [if_pos rfl] at H; exact H
              clear H
              have H := H1
              clear H1
              replace H := Option.bind_eq_some_iff.mp H
              obtain ⟨t653, A750, H⟩ := H
              replace H : ((r_signed.f t653 x4_8).bind fun t654 => (some (t654, 0))) = some (r1, r2) := H
              have A75 := Aside0.mk A750
              clear A750
              replace H := Option.bind_eq_some_iff.mp H
              obtain ⟨t654, A760, H⟩ := H
              replace H : (some (t654, 0)) = some (r1, r2) := H
              have A76 := Aside0.mk A760
              clear A760
              simp only [Option.some.injEq, Prod.mk.injEq] at H
              obtain ⟨rfl, rfl⟩ := H
              have hcs77 := Hd.str_from (P := Tryd.prog) (k := .i64) Tryd.underlying9 (i := x6_23) (s := x0_8) (y := y650) (by first | (with_reducible assumption) | exact of_decide_eq_true (by first | (with_reducible assumption) | assumption) | omega) (by first | (with_reducible assumption) | exact of_decide_eq_true (by first | (with_reducible assumption) | assumption) | omega) Ny650.out
              go_wp2_with (first | ((with_reducible refine gate_callee (f := 72) rfl ?_); refine gL (some 108) Tryd.func72 #[.string y650] ?_; (with_reducible refine (r_exponent.calls kj23 y650 t651 true _ A73.out).mono ?_); rintro e w' ⟨rfl, ⟨nd, rfl⟩⟩; refine ⟨_, rfl, ?_⟩; (try (rw [drewN_self wc]; generalize hq_ : World.drewN wc _ = wc; have n0_ : Aside0 (Kd.R (Kd.int .i64) 3 wc w.heap.size (fun _ => True) u646000 x646000_23) := ⟨by rw [← hq_]; exact (rk HO_646000)⟩; have n1_ : Aside0 (wc.heap[gb645]? = some (.cells #[u646000, .int .i64 x646001_23] 72 (0, 0))) := ⟨by rw [← hq_]; exact (bk BK645)⟩; have n2_ : Aside0 (Below w.heap.size w wc) := ⟨by rw [← hq_]; exact (lk HB)⟩; clear HO_646000 BK645 HB hq_; have HO_646000 := n0_; have BK645 := n1_; have HB := n2_; clear n0_ n1_ n2_)); have hcz78_0 : wc.cell? ⟨gb645, 0, none⟩ = some (u646000) := (blk_cell BK645.out 0).trans rfl; have hcz78_1 : wc.cell? ⟨gb645, 1, none⟩ = some (.int .i64 x646001_23) := (blk_cell BK645.out 1).trans rfl; have hfz78_0 := blk_frozen BK645.out 0; have hfz78_1 := blk_frozen BK645.out 1; obtain ⟨Ao79, co79, eo79⟩ := Kd.R_slice HO_646000.out; subst eo79) | ((with_reducible refine gate_callee (f := 73) rfl ?_); refine gL (some 120) Tryd.func73 #[.agg #[.slice Ao79 x646000_23.length co79, .int .i64 (wrap64 (x646001_23 + t651))], .int .i64 x9_23] ?_; (with_reducible refine (r_nearest.calls kj23 _ _ x646000_23 (wrap64 (x646001_23 + t651)) x9_23 t653 _ ?side1 ?side2 A75.out).mono ?_); (case side1 => refine (Kd.R_reads' (e := 3) (base := w.heap.size) (ok := fun k_ => True) (n := x646000_23.length) (c := co79) ?_).2.2; exact (by (with_reducible repeat (first | apply Kd.R_alloc | apply Kd.R_drewN | apply Kd.R_drew)); exact (Kd.R_mono (Kd.R_far (p := ⟨gb645, 1, none⟩) (Kd.R_types HO_646000.out BK645.out (by decide)) (fun _ hk => hk.2) (.int .i64 (wrap64 (x646001_23 + t651)))) (fun _ h_ => h_.1)))); (case side2 => exact (Kd.R_reads' HO_646000.out).2.1); rintro e w80 ⟨rfl, hb⟩; refine ⟨_, rfl, ?_⟩; have n0_ := Aside0.mk (Kd.R_below (by (with_reducible repeat (first | apply Kd.R_alloc | apply Kd.R_drewN | apply Kd.R_drew)); exact (Kd.R_mono (Kd.R_far (p := ⟨gb645, 1, none⟩) (Kd.R_types HO_646000.out BK645.out (by decide)) (fun _ hk => hk.2) (.int .i64 (wrap64 (x646001_23 + t651)))) (fun _ h_ => h_.1))) hb); have n1_ := Aside0.mk (blk_below (g := gb645) (o := .cells #[.slice Ao79 x646000_23.length co79, .int .i64 (wrap64 (x646001_23 + t651))] 72 (0, 0)) (by (with_reducible repeat (first | refine blk_drewN ?_ _ | refine blk_drew ?_ | refine blk_alloc ?_ _)); refine blk_put (cs := #[.slice Ao79 x646000_23.length co79, .int .i64 x646001_23]) ?_ 1 _ rfl; (with_reducible repeat (first | refine blk_drewN ?_ _ | refine blk_drew ?_ | refine blk_alloc ?_ _)); exact BK645.out) hb); have n2_ := lb HB hb; clear HO_646000 BK645 HB; have HO_646000 := n0_; have BK645 := n1_; have HB := n2_; clear n0_ n1_ n2_; (try clear hb); (try clear hb2); (try clear hk); (try clear hi)) | ((with_reducible refine gate_callee (f := 70) rfl ?_); refine gL (some 122) Tryd.func70 #[.int .u64 t653, .bool x4_8] ?_; (with_reducible refine (r_signed.calls t653 x4_8 t654 _ A76.out).mono ?_); rintro e w' ⟨rfl, ⟨nd, rfl⟩⟩; refine ⟨_, rfl, ?_⟩))
              go_ret2
              exact ex (lk HB)
             replace c74 := Bool.eq_false_iff.mpr c74
             subst c74
             have H1 : (some (0, 8)) = some (r1, r2) := by rw [if_neg (show ¬ (false = true) by decide)] at H; exact H
             clear H
             have H := H1
             clear H1
             simp only [Option.some.injEq, Prod.mk.injEq] at H
             obtain ⟨rfl, rfl⟩ := H
             have hcs81 := Hd.str_from (P := Tryd.prog) (k := .i64) Tryd.underlying9 (i := x6_23) (s := x0_8) (y := y650) (by first | (with_reducible assumption) | exact of_decide_eq_true (by first | (with_reducible assumption) | assumption) | omega) (by first | (with_reducible assumption) | exact of_decide_eq_true (by first | (with_reducible assumption) | assumption) | omega) Ny650.out
             go_wp2_with (first | ((with_reducible refine gate_callee (f := 72) rfl ?_); refine gL (some 108) Tryd.func72 #[.string y650] ?_; (with_reducible refine (r_exponent.calls kj23 y650 t651 false _ A73.out).mono ?_); rintro e w' ⟨rfl, ⟨nd, rfl⟩⟩; refine ⟨_, rfl, ?_⟩))
             go_ret2
             exact ex (lk HB)
            rw [if_neg c72] at H
            exact absurd H (by simp)
           rw [if_neg c71] at H
           exact absurd H (by simp)
          rw [if_neg c70] at H
          have c70b0 : decide (x6_23 < (x0_8.size : Int)) = false := decide_eq_false c70
          clear c70
          replace H := Option.bind_eq_some_iff.mp H
          obtain ⟨t655, A820, H⟩ := H
          replace H : ((r_signed.f t655 x4_8).bind fun t656 => (some (t656, 0))) = some (r1, r2) := H
          have A82 := Aside0.mk A820
          clear A820
          replace H := Option.bind_eq_some_iff.mp H
          obtain ⟨t656, A830, H⟩ := H
          replace H : (some (t656, 0)) = some (r1, r2) := H
          have A83 := Aside0.mk A830
          clear A830
          simp only [Option.some.injEq, Prod.mk.injEq] at H
          obtain ⟨rfl, rfl⟩ := H
          have hcz84_0 : wc.cell? ⟨gb645, 0, none⟩ = some (u646000) := (blk_cell BK645.out 0).trans rfl
          have hcz84_1 : wc.cell? ⟨gb645, 1, none⟩ = some (.int .i64 x646001_23) := (blk_cell BK645.out 1).trans rfl
          have hfz84_0 := blk_frozen BK645.out 0
          have hfz84_1 := blk_frozen BK645.out 1
          obtain ⟨Ao85, co85, eo85⟩ := Kd.R_slice HO_646000.out
          subst eo85
          go_wp2_with (first | ((with_reducible refine gate_callee (f := 73) rfl ?_); refine gL (some 120) Tryd.func73 #[.agg #[.slice Ao85 x646000_23.length co85, .int .i64 x646001_23], .int .i64 x9_23] ?_; (with_reducible refine (r_nearest.calls kj23 _ _ x646000_23 x646001_23 x9_23 t655 _ ?side1 ?side2 A82.out).mono ?_); (case side1 => exact ck (Kd.R_reads' HO_646000.out).2.2); (case side2 => exact (Kd.R_reads' HO_646000.out).2.1); rintro e w86 ⟨rfl, hb⟩; refine ⟨_, rfl, ?_⟩; replace HO_646000 := Aside0.mk (Kd.R_below (rk HO_646000) hb); replace BK645 := bb BK645 hb; replace HB := lb HB hb; (try clear hb); (try clear hb2); (try clear hk); (try clear hi)) | ((with_reducible refine gate_callee (f := 70) rfl ?_); refine gL (some 122) Tryd.func70 #[.int .u64 t655, .bool x4_8] ?_; (with_reducible refine (r_signed.calls t655 x4_8 t656 _ A83.out).mono ?_); rintro e w' ⟨rfl, ⟨nd, rfl⟩⟩; refine ⟨_, rfl, ?_⟩))
          go_ret2
          exact ex (lk HB)
         replace c69 := Bool.eq_false_iff.mpr c69
         subst c69
         have H1 : (some (0, 8)) = some (r1, r2) := by rw [if_neg (show ¬ (false = true) by decide)] at H; exact H
         clear H
         have H := H1
         clear H1
         simp only [Option.some.injEq, Prod.mk.injEq] at H
         obtain ⟨rfl, rfl⟩ := H
         go_wp2
         go_ret2
         exact ex (lk HB)
end Go.Proofs.YtjlnfnfdibfniaaDoor.F
namespace Go.Proofs.YtjlnfnfdibfniaaDoor.Hd
open Go.RowKit Go.Proofs.YtjlnfnfdibfniaaDoorW.PrintWords Go.Proofs.YtjlnfnfdibfniaaDoorW.PrintLast Go.Proofs.YtjlnfnfdibfniaaDoorW.PrintMore
set_option linter.unusedVariables false
set_option linter.unusedSimpArgs false
def num_Digits_1.f (k : Nat) (l0 l1 l2 : List Int) (a3 : Bool) : Option Bool :=
 (F.num_nat_plus.f k l0 l1).bind fun p => (F.num_nat_against.f k p l2).bind fun c => some (if c > 0 then true else if (c == 0) = true then a3 else false)
theorem num_Digits_1.mono : ∀ a0 a1 a2 a3 k, LeO (num_Digits_1.f k a0 a1 a2 a3) (num_Digits_1.f (k + 1) a0 a1 a2 a3) := by
 intro a0 a1 a2 a3 k r h
 unfold num_Digits_1.f at h ⊢
 obtain ⟨p, hp, h⟩ := Option.bind_eq_some_iff.mp h
 obtain ⟨c, hc, h⟩ := Option.bind_eq_some_iff.mp h
 rw [F.num_nat_plus.mono _ _ _ _ hp, Option.bind_some, F.num_nat_against.mono _ _ _ _ hc, Option.bind_some, h]
def T47 : Bool × List (List Nat × List Nat) := (true, [([], []), ([], []), ([0, 1], [0, 1]), ([], []), ([2, 3, 2], [2, 3]), ([4, 4, 0, 1, 2, 3, 4], [4])])
def B47 : List Nat := [0, 0, 3, 0, 15, 31]
theorem tab47 : rtab .any (opsOf Tryd.f47 1) = T47 := by kernel_rfl
theorem bits47 : waitsOk T47.2 B47 = true := by kernel_rfl
set_option maxRecDepth 100000 in
theorem num_Digits_1.calls (k : Nat) (g0 g1 g2 g3 : Nat) (A0 : Option Addr) (c0 : Nat) (l0 : List Int) (A1 : Option Addr) (c1 : Nat) (l1 : List Int) (A2 : Option Addr) (c2 : Nat) (l2 : List Int) (a3 : Bool) (r : Bool) (w : World)
  (hb0 : w.heap[g0]? = some (.cells #[.slice A0 l0.length c0] 56 (0, 0))) (hb1 : w.heap[g1]? = some (.cells #[.slice A1 l1.length c1] 56 (0, 0))) (hb2 : w.heap[g2]? = some (.cells #[.slice A2 l2.length c2] 56 (0, 0))) (hb3 : w.heap[g3]? = some (.cells #[.bool a3] 4 (0, 0)))
  (hr0 : Kd.C (Kd.int .u32) w A0 l0.length l0) (hc0 : l0.length ≤ c0) (hr1 : Kd.C (Kd.int .u32) w A1 l1.length l1) (hc1 : l1.length ≤ c1) (hr2 : Kd.C (Kd.int .u32) w A2 l2.length l2) (hc2 : l2.length ≤ c2) (h : num_Digits_1.f k l0 l1 l2 a3 = some r) :
  Calls Tryd.prog 47 #[.pointer (some ⟨g0, 0, none⟩), .pointer (some ⟨g1, 0, none⟩), .pointer (some ⟨g2, 0, none⟩), .pointer (some ⟨g3, 0, none⟩)] w fun e w' => e = .returned (.bool r) ∧ Below w.heap.size w w' := by
 unfold num_Digits_1.f at h
 obtain ⟨p, hp, h⟩ := Option.bind_eq_some_iff.mp h
 obtain ⟨c, hc, h⟩ := Option.bind_eq_some_iff.mp h
 have hp := Aside0.mk hp
 have hc := Aside0.mk hc
 have hz := Aside0.mk (Option.some.inj h)
 clear h
 have HB := Aside0.mk (Below.refl w.heap.size w)
 have HR0 := Aside0.mk hr0
 have HR1 := Aside0.mk hr1
 have HR2 := Aside0.mk hr2
 have BK0 := Aside0.mk hb0
 have BK1 := Aside0.mk hb1
 have BK2 := Aside0.mk hb2
 have BK3 := Aside0.mk hb3
 clear hr0 hr1 hr2 hb0 hb1 hb2 hb3
 go_enter Tryd.func47, Tryd.ntmps47
 go_wp2
 refine start_ (n := 6) (S := fun w' => w'.cell? ⟨g0, 0, none⟩ = some (.slice A0 l0.length c0) ∧ w'.cell? ⟨g1, 0, none⟩ = some (.slice A1 l1.length c1) ∧ w'.cell? ⟨g2, 0, none⟩ = some (.slice A2 l2.length c2)) (ds := []) #[false, false, false, false, false, false] (by kernel_rfl) rfl rfl ⟨(blk_cell BK0.out 0).trans rfl, (blk_cell BK1.out 0).trans rfl, (blk_cell BK2.out 0).trans rfl⟩ (fun hHeld => ?_); refine with_tabW tab47 bits47 (fun HT_ HW_ => ?_)
 have HB := Aside0.mk (below_drew1 HB.out)
 have HR0 := Aside0.mk (Kd.C_drew HR0.out)
 have HR1 := Aside0.mk (Kd.C_drew HR1.out)
 have HR2 := Aside0.mk (Kd.C_drew HR2.out)
 have BK0 := Aside0.mk (blk_drew BK0.out)
 have BK1 := Aside0.mk (blk_drew BK1.out)
 have BK2 := Aside0.mk (blk_drew BK2.out)
 have BK3 := Aside0.mk (blk_drew BK3.out)
 generalize w.drew = w1 at HR0 HR1 HR2 BK0 BK1 BK2 BK3 HB hHeld ⊢
 refine take_ (i := 0) (N := some 6) (v := ?_) (a' := ?_) #[true, false, false, false, false, false] rfl rfl (take_ofW HT_.out HW_.out (by kernel_rfl)) (fun _ _ _ h => h) (Or.inl ⟨by rfl, ?_⟩) hHeld ?_ ?_
 rotate_left
 ·
  rintro w' ⟨s0, s1, s2⟩
  go_simp
  with_reducible rfl
 rotate_left
 ·
  simp only [Act.put, List.setIfInBounds_toArray, List.set_cons_zero, List.set_cons_succ, i64_w, i32_w]
  rfl
 refine take_ (i := 1) (N := some 7) (v := ?_) (a' := ?_) #[true, true, false, false, false, false] rfl rfl (take_ofW HT_.out HW_.out (by kernel_rfl)) (fun _ _ _ h => h) (Or.inl ⟨by rfl, ?_⟩) hHeld ?_ ?_
 rotate_left
 ·
  rintro w' ⟨s0, s1, s2⟩
  go_simp
  with_reducible rfl
 rotate_left
 ·
  simp only [Act.put, List.setIfInBounds_toArray, List.set_cons_zero, List.set_cons_succ, i64_w, i32_w]
  rfl
 refine take_ (i := 3) (N := some 9) (v := ?_) (a' := ?_) #[true, true, false, true, false, false] rfl rfl (take_ofW HT_.out HW_.out (by kernel_rfl)) (fun _ _ _ h => h) (Or.inl ⟨by rfl, ?_⟩) hHeld ?_ ?_
 rotate_left
 ·
  rintro w' ⟨s0, s1, s2⟩
  go_simp
  with_reducible rfl
 rotate_left
 ·
  simp only [Act.put, List.setIfInBounds_toArray, List.set_cons_zero, List.set_cons_succ, i64_w, i32_w]
  rfl
 refine one_ (i := 2) (N := some 8) #[true, true, true, true, false, false] rfl rfl (one_of HT_.out (by kernel_rfl)) (by decide) (fun K hK => ?_)
 refine goes_ Tryd.func48 (by kernel_rfl) rfl #[.slice A0 l0.length c0, .slice A1 l1.length c1] (by rfl) rfl rfl (by (try simp only [List.map_toArray, List.map_cons, List.map_nil]); rfl) ?_
 refine (F.num_nat_plus.calls k A0 c0 l0 A1 c1 l1 p _ HR0.out hc0 HR1.out hc1 hp.out).mono ?_
 rintro e w2 ⟨v0, rfl, ho0, hb⟩
 refine ⟨_, rfl, ?_⟩
 obtain ⟨Ap, cp, rfl⟩ := Kd.V_slice ho0
 have HR2 := Aside0.mk (Kd.C_below HR2.out hb)
 have BK0 := Aside0.mk (blk_below BK0.out hb)
 have BK1 := Aside0.mk (blk_below BK1.out hb)
 have BK2 := Aside0.mk (blk_below BK2.out hb)
 have BK3 := Aside0.mk (blk_below BK3.out hb)
 have HB := Aside0.mk (below_step HB.out hb)
 refine hK.out _ _ ⟨(blk_cell BK0.out 0).trans rfl, (blk_cell BK1.out 0).trans rfl, (blk_cell BK2.out 0).trans rfl⟩ (fun hHeld => ?_)
 clear hK K
 refine norm_ (a' := ?_) ?_ ?_
 rotate_left
 ·
  show Act.put _ (some 8) _ = _
  simp only [Act.put, List.setIfInBounds_toArray, List.set_cons_zero, List.set_cons_succ, i64_w, i32_w]
  rfl
 refine one_ (i := 4) (N := some 10) #[true, true, true, true, true, false] rfl rfl (one_of HT_.out (by kernel_rfl)) (by decide) (fun K hK => ?_)
 refine goes_ Tryd.func49 (by kernel_rfl) rfl #[.slice Ap p.length cp, .slice A2 l2.length c2] (by rfl) rfl rfl (by (try simp only [List.map_toArray, List.map_cons, List.map_nil]); rfl) ?_
 refine (F.num_nat_against.calls k Ap cp p A2 c2 l2 c _ (Kd.V_reads' ho0).2.2 (Kd.V_reads' ho0).2.1 HR2.out hc2 hc.out).mono ?_
 rintro e w' ⟨rfl, ⟨nd, rfl⟩⟩
 refine ⟨_, rfl, ?_⟩
 refine hK.out _ _ ⟨(blk_cell BK0.out 0).trans rfl, (blk_cell BK1.out 0).trans rfl, (blk_cell BK2.out 0).trans rfl⟩ (fun hHeld => ?_)
 clear hK K
 refine norm_ (a' := ?_) ?_ ?_
 rotate_left
 ·
  show Act.put _ (some 10) _ = _
  simp only [Act.put, List.setIfInBounds_toArray, List.set_cons_zero, List.set_cons_succ, i64_w, i32_w]
  rfl
 refine pure_ (i := 5) (N := some 5) (v := ?_) (a' := ?_) #[true, true, true, true, true, true] rfl rfl (any_of HT_.out (by kernel_rfl)) (fun _ _ _ h => h) (Or.inl ⟨by rfl, ?_⟩) ?_ ?_
 rotate_left
 ·
  intro w'
  go_simp
  with_reducible rfl
 rotate_left
 ·
  simp only [Act.put, List.setIfInBounds_toArray, List.set_cons_zero, List.set_cons_succ, i64_w, i32_w]
  rfl
 refine done_ (done_of HT_.out (by kernel_rfl)) ?_
 have hcz : w2.cell? ⟨g3, 0, none⟩ = some (.bool a3) := (blk_cell BK3.out 0).trans rfl
 have hfz := blk_frozen BK3.out 0
 have hz := hz.out
 by_cases hc0 : c > 0
 ·
  rw [if_pos hc0] at hz
  subst hz
  have hb0 : decide (0 < c) = true := decide_eq_true hc0
  have hb1 : decide (c > 0) = true := decide_eq_true hc0
  go_wp2
  go_ret
  exact ⟨rfl, by repeat (first | exact HB.out | apply pw_below_drewN | apply below_drew1)⟩
 ·
  rw [if_neg hc0] at hz
  have hb0 : decide (0 < c) = false := decide_eq_false hc0
  have hb1 : decide (c > 0) = false := decide_eq_false hc0
  cases hce : (c == 0) with
  | true =>
   rw [hce, if_pos rfl] at hz
   subst hz
   go_wp2
   go_ret
   exact ⟨rfl, by repeat (first | exact HB.out | apply pw_below_drewN | apply below_drew1)⟩
  | false =>
   rw [hce, if_neg (by decide)] at hz
   subst hz
   go_wp2
   go_ret
   exact ⟨rfl, by repeat (first | exact HB.out | apply pw_below_drewN | apply below_drew1)⟩
end Go.Proofs.YtjlnfnfdibfniaaDoor.Hd
namespace Go.Proofs.YtjlnfnfdibfniaaDoor.Hd
open Go.RowKit Go.Proofs.YtjlnfnfdibfniaaDoorW.PrintWords Go.Proofs.YtjlnfnfdibfniaaDoorW.PrintLast
def num_IntText.f (a0 : Int) : Option ByteArray := if -9223372036854775808 ≤ a0 ∧ a0 ≤ 9223372036854775807 then some (intText a0) else none
theorem heap_last (w : World) (o : Obj) : (w.alloc o).heap[w.heap.size]? = some o := by
 show (w.heap.push o)[w.heap.size]? = _
 simp
theorem cell_arr (w : World) (arr : Array Value) (T : TypeId) (i : Nat) (v : Value) (h : arr[i]? = some v) : (w.alloc (.cells arr T)).cell? ⟨w.heap.size, i, none⟩ = some v := by
 unfold World.cell?
 dsimp only
 rw [heap_last]
 simpa using h
theorem frozen_arr (w : World) (arr : Array Value) (T : TypeId) (i : Nat) : (w.alloc (.cells arr T)).frozen? ⟨w.heap.size, i, none⟩ = false := by
 unfold World.frozen?
 dsimp only
 rw [heap_last]
 simp
theorem string_tail (w : World) (arr : Array Value) (p : Nat) (acc : List UInt8) (h : ∀ i (h : i < acc.length), arr[p + i]? = some (.int .u8 (acc[i].toNat : Int))) (n cap : Nat) (hn : n = acc.length) :
  (convert 43 9 (.slice (some ⟨w.heap.size, p, none⟩) n cap)).run Tryd.prog (w.alloc (.cells arr 89)) = .ok (.string ⟨acc.toArray⟩) (w.alloc (.cells arr 89)) := by
 subst hn
 refine run_convert_bytes_back _ 43 9 5 _ cap acc Tryd.underlying43 Tryd.underlying5 Tryd.underlying9 fun j hj => ?_
 have : (⟨w.heap.size, p, none⟩ : Addr).add j = ⟨w.heap.size, p + j, none⟩ := by
  unfold Addr.add
  split
  ·
   rename_i e; subst e; rfl
  ·
   rfl
 rw [this]
 exact cell_arr w arr 89 (p + j) _ (h j hj)
theorem slice_arr (B p : Nat) (hp : p < 20) (w : World) : (Instr.sliceAt 89 (.pointer (some ⟨B, 0, none⟩)) (some (.int .i64 (p : Int))) none none).run Tryd.prog w = .ok (.slice (some ⟨B, p, none⟩) (20 - p) (20 - p)) w := by
 have ht : Tryd.prog.underlying 89 = some (.array (Tryd.prog.arrayLen 89) (Tryd.prog.elem 89)) := by kernel_rfl
 have hl : Tryd.prog.arrayLen 89 = 20 := by kernel_rfl
 have he : Tryd.prog.elem 89 = 5 := by kernel_rfl
 have hs : (sizeOf 5).run Tryd.prog w = .ok 1 w := by kernel_rfl
 rw [run_sliceAt_array_l w 89 _ ht .i64 (p : Int) (by omega) (by rw [hl]; omega), hl, he, hs]
 simp only [Result.andThen, slicedAt, Int.toNat_natCast]
 rw [if_neg (by omega)]
 unfold Addr.add
 split
 ·
  rename_i e
  have : p = 0 := by omega
  subst this
  rfl
 ·
  simp
theorem zeros20 : ∀ i, i < 20 → ∃ v, (#[Value.int .u8 0, .int .u8 0, .int .u8 0, .int .u8 0, .int .u8 0, .int .u8 0, .int .u8 0, .int .u8 0, .int .u8 0, .int .u8 0, .int .u8 0, .int .u8 0, .int .u8 0, .int .u8 0, .int .u8 0, .int .u8 0, .int .u8 0, .int .u8 0, .int .u8 0, .int .u8 0])[i]? = some (.int .u8 v) := by
 intro i hi
 refine ⟨0, ?_⟩
 have : (#[Value.int .u8 0, .int .u8 0, .int .u8 0, .int .u8 0, .int .u8 0, .int .u8 0, .int .u8 0, .int .u8 0, .int .u8 0, .int .u8 0, .int .u8 0, .int .u8 0, .int .u8 0, .int .u8 0, .int .u8 0, .int .u8 0, .int .u8 0, .int .u8 0, .int .u8 0, .int .u8 0]) = Array.replicate 20 (.int .u8 0) := rfl
 rw [this, Array.getElem?_replicate, if_pos hi]
set_option maxHeartbeats 2000000 in
set_option maxRecDepth 100000 in
theorem loop_pos (n : Int) (U : Nat) (w : World) (hn : decide (n < 0) = false) (hU : n = (U : Int)) (hU20 : U < 10 ^ 20) (hU64 : IntKind.u64.wrap n = (U : Int)) (hU64' : (U : Int) ≤ 18446744073709551615) :
  Calls Tryd.prog 26 #[.int .i64 n] w fun e w' => e = .returned (.string ⟨(dec U).toArray⟩) ∧ Below w.heap.size w w' := by
 have HU := Aside0.mk hU
 clear hU
 have HU20 := Aside0.mk hU20
 clear hU20
 go_enter Tryd.func26, Tryd.ntmps26
 go_wp2
 go_loopg [3, 5, 6] 30 (fun kq v3 v5 v6 wr => ∃ (p m : Nat) (first : Bool) (acc : List UInt8) (arr : Array Value), v3 = .int .u64 (m : Int) ∧ v5 = .int .i64 (p : Int) ∧ v6 = .bool first ∧ wr = w.alloc (.cells arr 89) ∧ Aside0 (IntLoop U p m first acc arr) ∧ Aside0 (p < kq) ∧ (m : Int) ≤ 18446744073709551615)
 case atStart => exact ⟨20, U, true, [], _, by first | rfl | simp [hU64], rfl, rfl, rfl, ⟨IntLoop.start U HU20.out _ rfl zeros20⟩, ⟨by omega⟩, hU64'⟩
 case round =>
  obtain ⟨p, m, first, acc, arr, rfl, rfl, rfl, rfl, HL, HK, hmm⟩ := hrel
  by_cases hgo : first = true ∨ 0 < m
  ·
   have hp := HL.out.pos hgo
   obtain ⟨q, rfl⟩ : ∃ q, p = q + 1 := ⟨p - 1, by omega⟩
   have hp20 := HL.out.hp
   obtain ⟨ov, hov⟩ := HL.out.hold q (by omega)
   have hcell := cell_arr w arr 89 q _ hov
   have hfz := frozen_arr w arr 89 q
   clear hov
   have HR := Aside0.mk (HL.out.round hgo)
   clear HL
   have HG := Aside0.mk hgo
   clear hgo
   cases first with
   | true =>
    go_wp2
    go_roundg (gk - 1)
    case measure => have := HK.out; omega
    case rel => exact ⟨q, m / 10, false, _, _, by go_num, by go_num, rfl, rfl, HR, ⟨by have := HK.out; omega⟩, by omega⟩
   | false =>
    have hm : decide (0 < (m : Int)) = true := by rcases HG.out with h | h; cases h; simpa using h
    have hm2 : decide (0 < m) = true := by simpa using hm
    go_wp2
    go_roundg (gk - 1)
    case measure => have := HK.out; omega
    case rel => exact ⟨q, m / 10, false, _, _, by go_num, by go_num, rfl, rfl, HR, ⟨by have := HK.out; omega⟩, by omega⟩
  ·
   obtain ⟨rfl, rfl⟩ : first = false ∧ m = 0 := by
    refine ⟨?_, by omega⟩
    cases first
    ·
     rfl
    ·
     exact absurd (.inl rfl) hgo
   clear hgo
   have hst := string_tail w arr p acc HL.out.hcell (20 - p) (20 - p) HL.out.hacc.symm
   have he := HL.out.exit
   have hp20 := HL.out.hp
   subst he
   have hsl := slice_arr w.heap.size p HL.out.lt
   clear HL
   go_wp2
   go_ret
   exact ⟨rfl, (Below.refl _ _).alloc (Nat.le_refl _) _⟩
set_option maxHeartbeats 2000000 in
set_option maxRecDepth 100000 in
theorem loop_neg (n : Int) (U : Nat) (w : World) (hn : decide (n < 0) = true) (hU : -n = (U : Int)) (hU20 : U < 10 ^ 20) (M : Int) (hM : IntKind.u64.wrap n = M) (hU64 : IntKind.u64.wrap (-M) = (U : Int)) (hU64' : (U : Int) ≤ 18446744073709551615) :
  Calls Tryd.prog 26 #[.int .i64 n] w fun e w' => e = .returned (.string ⟨(45 :: dec U).toArray⟩) ∧ Below w.heap.size w w' := by
 have HU := Aside0.mk hU
 clear hU
 have HU20 := Aside0.mk hU20
 clear hU20
 go_enter Tryd.func26, Tryd.ntmps26
 go_wp2
 go_loopg [3, 5, 6] 30 (fun kq v3 v5 v6 wr => ∃ (p m : Nat) (first : Bool) (acc : List UInt8) (arr : Array Value), v3 = .int .u64 (m : Int) ∧ v5 = .int .i64 (p : Int) ∧ v6 = .bool first ∧ wr = w.alloc (.cells arr 89) ∧ Aside0 (IntLoop U p m first acc arr) ∧ Aside0 (p < kq) ∧ (m : Int) ≤ 18446744073709551615)
 case atStart => exact ⟨20, U, true, [], _, by first | rfl | simp [hU64], rfl, rfl, rfl, ⟨IntLoop.start U HU20.out _ rfl zeros20⟩, ⟨by omega⟩, hU64'⟩
 case round =>
  obtain ⟨p, m, first, acc, arr, rfl, rfl, rfl, rfl, HL, HK, hmm⟩ := hrel
  by_cases hgo : first = true ∨ 0 < m
  ·
   have hp := HL.out.pos hgo
   obtain ⟨q, rfl⟩ : ∃ q, p = q + 1 := ⟨p - 1, by omega⟩
   have hp20 := HL.out.hp
   obtain ⟨ov, hov⟩ := HL.out.hold q (by omega)
   have hcell := cell_arr w arr 89 q _ hov
   have hfz := frozen_arr w arr 89 q
   clear hov
   have HR := Aside0.mk (HL.out.round hgo)
   clear HL
   have HG := Aside0.mk hgo
   clear hgo
   cases first with
   | true =>
    go_wp2
    go_roundg (gk - 1)
    case measure => have := HK.out; omega
    case rel => exact ⟨q, m / 10, false, _, _, by go_num, by go_num, rfl, rfl, HR, ⟨by have := HK.out; omega⟩, by omega⟩
   | false =>
    have hm : decide (0 < (m : Int)) = true := by rcases HG.out with h | h; cases h; simpa using h
    have hm2 : decide (0 < m) = true := by simpa using hm
    go_wp2
    go_roundg (gk - 1)
    case measure => have := HK.out; omega
    case rel => exact ⟨q, m / 10, false, _, _, by go_num, by go_num, rfl, rfl, HR, ⟨by have := HK.out; omega⟩, by omega⟩
  ·
   obtain ⟨rfl, rfl⟩ : first = false ∧ m = 0 := by
    refine ⟨?_, by omega⟩
    cases first
    ·
     rfl
    ·
     exact absurd (.inl rfl) hgo
   clear hgo
   have hst := string_tail w arr p acc HL.out.hcell (20 - p) (20 - p) HL.out.hacc.symm
   have he := HL.out.exit
   have hp20 := HL.out.hp
   subst he
   have hsl := slice_arr w.heap.size p HL.out.lt
   clear HL
   have hdl := dec_length U
   go_wp2
   go_ret
   exact ⟨by first | rfl | (congr 2), (Below.refl _ _).alloc (Nat.le_refl _) _⟩
theorem num_IntText.calls (a0 : Int) (r : ByteArray) (w : World) (h : num_IntText.f a0 = some r) :
  Calls Tryd.prog 26 #[.int .i64 a0] w fun e w' => e = .returned (.string r) ∧ Below w.heap.size w w' := by
 unfold num_IntText.f at h
 split at h
 ·
  rename_i hb
  cases h
  unfold intText
  by_cases hn : a0 < 0
  ·
   rw [if_pos hn]
   refine loop_neg a0 (-a0).toNat w (decide_eq_true hn) (by omega) (by omega) (a0 + 18446744073709551616) ?_ ?_ (by omega)
   ·
    unfold IntKind.wrap; simp [IntKind.bits, IntKind.signed]; omega
   ·
    unfold IntKind.wrap; simp [IntKind.bits, IntKind.signed]; omega
  ·
   rw [if_neg hn]
   refine loop_pos a0 a0.toNat w (decide_eq_false hn) (by omega) (by omega) ?_ (by omega)
   unfold IntKind.wrap; simp [IntKind.bits, IntKind.signed]; omega
 ·
  cases h
end Go.Proofs.YtjlnfnfdibfniaaDoor.Hd
namespace Go.Proofs.YtjlnfnfdibfniaaDoor.F
open Go.RowKit Go.Proofs.YtjlnfnfdibfniaaDoorW.PrintWords Go.Proofs.YtjlnfnfdibfniaaDoorW.PrintLast Go.Proofs.YtjlnfnfdibfniaaDoorW.PrintMore
attribute [local go_sem] max2_int min2_int max_two min_two max_three min_three max_four min_four
set_option linter.unusedVariables false
set_option linter.unusedSimpArgs false
def num_scientific.j0 : Nat → Int → ByteArray → Option (ByteArray)
 | 0, _, _ => none
 | k + 1, x1, x5 => if x5.size + 1 ≤ 9223372036854775807 then ((some (x5 ++ (⟨#[101]⟩ : ByteArray) : ByteArray)).bind fun y477 => (if x1 < 0 then (if y477.size + 1 ≤ 9223372036854775807 then ((some (y477 ++ (⟨#[45]⟩ : ByteArray) : ByteArray)).bind fun y478 => (if (wrap64 (-x1)) < 10 then (if y478.size + 1 ≤ 9223372036854775807 then ((some (y478 ++ (⟨#[48]⟩ : ByteArray) : ByteArray)).bind fun y479 => ((Hd.num_IntText.f (wrap64 (-x1))).bind fun t480 => (if y479.size + t480.size ≤ 9223372036854775807 then (some (y479 ++ t480)) else (none)))) else (none)) else ((Hd.num_IntText.f (wrap64 (-x1))).bind fun t482 => (if y478.size + t482.size ≤ 9223372036854775807 then (some (y478 ++ t482)) else (none))))) else (none)) else (if y477.size + 1 ≤ 9223372036854775807 then ((some (y477 ++ (⟨#[43]⟩ : ByteArray) : ByteArray)).bind fun y484 => (if x1 < 10 then (if y484.size + 1 ≤ 9223372036854775807 then ((some (y484 ++ (⟨#[48]⟩ : ByteArray) : ByteArray)).bind fun y485 => ((Hd.num_IntText.f x1).bind fun t486 => (if y485.size + t486.size ≤ 9223372036854775807 then (some (y485 ++ t486)) else (none)))) else (none)) else ((Hd.num_IntText.f x1).bind fun t488 => (if y484.size + t488.size ≤ 9223372036854775807 then (some (y484 ++ t488)) else (none))))) else (none)))) else (none)
def num_scientific.f (k : Nat) (a0 : ByteArray) (a1 : Int) : Option (ByteArray) := if 0 ≤ 1 then (if 1 ≤ (a0.size : Int) then ((some (a0.extract 0 1 : ByteArray)).bind fun y473 => (if (a0.size : Int) > 1 then ((some (a0.extract 1 a0.size : ByteArray)).bind fun y474 => (if 1 + y474.size ≤ 9223372036854775807 then ((some ((⟨#[46]⟩ : ByteArray) ++ y474 : ByteArray)).bind fun y475 => (if y473.size + y475.size ≤ 9223372036854775807 then (num_scientific.j0 k a1 (y473 ++ y475)) else (none))) else (none))) else (num_scientific.j0 k a1 y473))) else (none)) else (none)
theorem num_scientific.mono_l : ∀ k, (∀ y0 y1, LeO (num_scientific.j0 k y0 y1) (num_scientific.j0 (k + 1) y0 y1))
 | 0 => fun _ _ r h => by simp [num_scientific.j0] at h
 | k + 1 => by
  have ih0 := num_scientific.mono_l k
  ·
   intro y0 y1
   unfold num_scientific.j0
   repeat' (with_reducible first | exact ih0 _ _ | exact LeO.refl _ | exact LeO.none _ | refine LeO.ite ?_ ?_ | refine LeO.bind ?_ (fun _ => ?_))
theorem num_scientific.mono : ∀ a0 a1 k, LeO (num_scientific.f k a0 a1) (num_scientific.f (k + 1) a0 a1) := by
 intro a0 a1 k
 have ih0 := num_scientific.mono_l k
 unfold num_scientific.f
 repeat' (with_reducible first | exact ih0 _ _ | exact LeO.refl _ | exact LeO.none _ | refine LeO.ite ?_ ?_ | refine LeO.bind ?_ (fun _ => ?_))
set_option maxHeartbeats 8000000 in
set_option maxRecDepth 100000 in
theorem num_scientific.calls (k : Nat) (a0 : ByteArray) (a1 : Int) (r : ByteArray) (w : World) (h : num_scientific.f k a0 a1 = some r) :
  Calls Tryd.prog 61 #[.string a0, .int .i64 a1] w fun e w' => e = .returned (.string r) ∧ Below w.heap.size w w' := by
 have HB := Aside0.mk (Below.refl w.heap.size w)
 have H : (if 0 ≤ 1 then (if 1 ≤ (a0.size : Int) then ((some (a0.extract 0 1 : ByteArray)).bind fun y473 => (if (a0.size : Int) > 1 then ((some (a0.extract 1 a0.size : ByteArray)).bind fun y474 => (if 1 + y474.size ≤ 9223372036854775807 then ((some ((⟨#[46]⟩ : ByteArray) ++ y474 : ByteArray)).bind fun y475 => (if y473.size + y475.size ≤ 9223372036854775807 then (num_scientific.j0 k a1 (y473 ++ y475)) else (none))) else (none))) else (num_scientific.j0 k a1 y473))) else (none)) else (none)) = some r := h
 clear h
 by_cases c3 : 0 ≤ 1
 ·
  rw [if_pos c3] at H
  have c3b0 := eq_true c3
  have c3b1 : decide (0 ≤ 1) = true := decide_eq_true c3
  clear c3
  by_cases c4 : 1 ≤ (a0.size : Int)
  ·
   rw [if_pos c4] at H
   have c4b0 := eq_true c4
   have c4b1 : decide (1 ≤ (a0.size : Int)) = true := decide_eq_true c4
   clear c4
   obtain ⟨y473, hy473⟩ : ∃ y_ : ByteArray, y_ = (a0.extract 0 1) := ⟨_, rfl⟩
   replace H : (if (a0.size : Int) > 1 then ((some (a0.extract 1 a0.size : ByteArray)).bind fun y474 => (if 1 + y474.size ≤ 9223372036854775807 then ((some ((⟨#[46]⟩ : ByteArray) ++ y474 : ByteArray)).bind fun y475 => (if y473.size + y475.size ≤ 9223372036854775807 then (num_scientific.j0 k a1 (y473 ++ y475)) else (none))) else (none))) else (num_scientific.j0 k a1 y473)) = some r := by first | (rw [hy473]; with_reducible exact H) | (rw [hy473]; with_reducible exact (hs H :)) | with_reducible exact (hs H :) | with_reducible exact H | (rw [hy473]; exact H) | exact H
   have Ny473 := Aside0.mk hy473
   clear hy473
   have HC5 := Aside0.mk H
   clear H
   have hcs6 := Hd.str_to (P := Tryd.prog) (k := .i64) Tryd.underlying9 (j := 1) (s := a0) (y := y473) (by first | (with_reducible assumption) | exact of_decide_eq_true (by first | (with_reducible assumption) | assumption) | omega) (by first | (with_reducible assumption) | exact of_decide_eq_true (by first | (with_reducible assumption) | assumption) | omega) Ny473.out
   go_enter Tryd.func61, Tryd.ntmps61
   go_upto_if 10 with (fail)
   go_cut [5] (fun v5 wc => ∃ (kq : Nat) (x5_4 : ByteArray), v5 = .string x5_4 ∧ Aside0 (num_scientific.j0 kq a1 x5_4 = some r) ∧ Aside0 (kq ≤ k) ∧ Aside0 (Below w.heap.size w wc))
   case first =>
    have H := HC5.out
    clear HC5
    by_cases c7 : (a0.size : Int) > 1
    ·
     rw [if_pos c7] at H
     have c7b0 : decide (1 < (a0.size : Int)) = true := decide_eq_true c7
     have c7b1 : decide (1 < a0.size) = true := decide_eq_true (by omega)
     clear c7
     (first | rw [c7b0] | (simp only [i64_w, i32_w]; rw [c7b0]) | skip)
     have c8b0 := eq_true (of_decide_eq_true (by first | (with_reducible assumption) | assumption) : 1 ≤ (a0.size : Int))
     obtain ⟨y474, hy474⟩ : ∃ y_ : ByteArray, y_ = (a0.extract 1 a0.size) := ⟨_, rfl⟩
     replace H : (if 1 + y474.size ≤ 9223372036854775807 then ((some ((⟨#[46]⟩ : ByteArray) ++ y474 : ByteArray)).bind fun y475 => (if y473.size + y475.size ≤ 9223372036854775807 then (num_scientific.j0 k a1 (y473 ++ y475)) else (none))) else (none)) = some r := by first | (rw [hy474]; with_reducible exact H) | (rw [hy474]; with_reducible exact (hs H :)) | with_reducible exact (hs H :) | with_reducible exact H | (rw [hy474]; exact H) | exact H
     have Ny474 := Aside0.mk hy474
     clear hy474
     by_cases c9 : 1 + y474.size ≤ 9223372036854775807
     ·
      rw [if_pos c9] at H
      have c9b0 := eq_true c9
      have c9b1 : decide (1 + y474.size ≤ 9223372036854775807) = true := decide_eq_true c9
      try have c9b2 : (9223372036854775807 < 1 + y474.size) = False := eq_false (Nat.not_lt.2 c9)
      obtain ⟨y475, hy475⟩ : ∃ y_ : ByteArray, y_ = ((⟨#[46]⟩ : ByteArray) ++ y474) := ⟨_, rfl⟩
      replace H : (if y473.size + y475.size ≤ 9223372036854775807 then (num_scientific.j0 k a1 (y473 ++ y475)) else (none)) = some r := by first | (rw [hy475]; with_reducible exact H) | (rw [hy475]; with_reducible exact (hs H :)) | with_reducible exact (hs H :) | with_reducible exact H | (rw [hy475]; exact H) | exact H
      have Ny475 := Aside0.mk hy475
      clear hy475
      by_cases c10 : y473.size + y475.size ≤ 9223372036854775807
      ·
       rw [if_pos c10] at H
       have c10b0 := eq_true c10
       have c10b1 : decide (y473.size + y475.size ≤ 9223372036854775807) = true := decide_eq_true c10
       try have c10b2 : (9223372036854775807 < y473.size + y475.size) = False := eq_false (Nat.not_lt.2 c10)
       obtain ⟨y476, hy476⟩ : ∃ y_ : ByteArray, y_ = (y473 ++ y475) := ⟨_, rfl⟩
       replace H : (num_scientific.j0 k a1 y476) = some r := by first | (rw [hy476]; with_reducible exact H) | (rw [hy476]; with_reducible exact (hs H :)) | with_reducible exact (hs H :) | with_reducible exact H | (rw [hy476]; exact H) | exact H
       have Ny476 := Aside0.mk hy476
       clear hy476
       have H' := Aside0.mk H
       clear H
       have hcs11 := Hd.str_from (P := Tryd.prog) (k := .i64) Tryd.underlying9 (i := 1) (s := a0) (y := y474) (by first | (with_reducible assumption) | exact of_decide_eq_true (by first | (with_reducible assumption) | assumption) | omega) (by first | (with_reducible assumption) | exact of_decide_eq_true (by first | (with_reducible assumption) | assumption) | omega) Ny474.out
       have hcs12 := Hd.str_cat (P := Tryd.prog) (s := (⟨#[46]⟩ : ByteArray)) (t := y474) (y := y475) (by first | (with_reducible assumption) | assumption | exact of_eq_true (by assumption) | omega) Ny475.out
       have hcs12' := Hd.str_cat' (P := Tryd.prog) (s := (⟨#[46]⟩ : ByteArray)) (t := y474) (y := y475) (by first | (with_reducible assumption) | assumption | exact of_eq_true (by assumption) | omega) Ny475.out
       have hcs13 := Hd.str_cat (P := Tryd.prog) (s := y473) (t := y475) (y := y476) (by first | (with_reducible assumption) | assumption | exact of_eq_true (by assumption) | omega) Ny476.out
       have hcs13' := Hd.str_cat' (P := Tryd.prog) (s := y473) (t := y475) (y := y476) (by first | (with_reducible assumption) | assumption | exact of_eq_true (by assumption) | omega) Ny476.out
       go_wp2
       go_meet
       case rel => exact ⟨_, (y476), (by first | rfl | (simp; done) | (simp [*]; done)), H', ⟨by first | omega | exact Nat.le_refl _⟩, ⟨lk HB⟩⟩
      rw [if_neg c10] at H
      exact absurd H (by simp)
     rw [if_neg c9] at H
     exact absurd H (by simp)
    rw [if_neg c7] at H
    have c7b0 : decide (1 < (a0.size : Int)) = false := decide_eq_false c7
    have c7b1 : decide (1 < a0.size) = false := decide_eq_false (by omega)
    clear c7
    (first | rw [c7b0] | (simp only [i64_w, i32_w]; rw [c7b0]) | skip)
    have H' := Aside0.mk H
    clear H
    go_wp2
    go_meet
    case rel => exact ⟨_, (y473), (by first | rfl | (simp; done) | (simp [*]; done)), H', ⟨by first | omega | exact Nat.le_refl _⟩, ⟨lk HB⟩⟩
   case rest =>
    clear HC5
    try clear c1
    try clear p2
    try clear c3
    try clear c3b0
    try clear c3b1
    try clear c4
    try clear c4b0
    try clear c4b1
    try clear c6
    try clear c7
    try clear c7b0
    try clear c7b1
    try clear c8
    try clear c8b0
    try clear c9
    try clear c9b0
    try clear c9b1
    try clear c9b2
    try clear c10
    try clear c10b0
    try clear c10b1
    try clear c10b2
    obtain ⟨kq, x5_4, rfl, HA, HJ4, HB⟩ := hcut
    cases kq with
    | zero => exact absurd HA.out (by simp [num_scientific.j0])
    | succ kj4 =>
     have H := HA.out
     clear HA
     simp only [num_scientific.j0] at H
     by_cases c14 : x5_4.size + 1 ≤ 9223372036854775807
     ·
      rw [if_pos c14] at H
      have c14b0 := eq_true c14
      have c14b1 : decide (x5_4.size + 1 ≤ 9223372036854775807) = true := decide_eq_true c14
      try have c14b2 : (9223372036854775807 < x5_4.size + 1) = False := eq_false (Nat.not_lt.2 c14)
      obtain ⟨y477, hy477⟩ : ∃ y_ : ByteArray, y_ = (x5_4 ++ (⟨#[101]⟩ : ByteArray)) := ⟨_, rfl⟩
      replace H : (if a1 < 0 then (if y477.size + 1 ≤ 9223372036854775807 then ((some (y477 ++ (⟨#[45]⟩ : ByteArray) : ByteArray)).bind fun y478 => (if (wrap64 (-a1)) < 10 then (if y478.size + 1 ≤ 9223372036854775807 then ((some (y478 ++ (⟨#[48]⟩ : ByteArray) : ByteArray)).bind fun y479 => ((Hd.num_IntText.f (wrap64 (-a1))).bind fun t480 => (if y479.size + t480.size ≤ 9223372036854775807 then (some (y479 ++ t480)) else (none)))) else (none)) else ((Hd.num_IntText.f (wrap64 (-a1))).bind fun t482 => (if y478.size + t482.size ≤ 9223372036854775807 then (some (y478 ++ t482)) else (none))))) else (none)) else (if y477.size + 1 ≤ 9223372036854775807 then ((some (y477 ++ (⟨#[43]⟩ : ByteArray) : ByteArray)).bind fun y484 => (if a1 < 10 then (if y484.size + 1 ≤ 9223372036854775807 then ((some (y484 ++ (⟨#[48]⟩ : ByteArray) : ByteArray)).bind fun y485 => ((Hd.num_IntText.f a1).bind fun t486 => (if y485.size + t486.size ≤ 9223372036854775807 then (some (y485 ++ t486)) else (none)))) else (none)) else ((Hd.num_IntText.f a1).bind fun t488 => (if y484.size + t488.size ≤ 9223372036854775807 then (some (y484 ++ t488)) else (none))))) else (none))) = some r := by first | (rw [hy477]; with_reducible exact H) | (rw [hy477]; with_reducible exact (hs H :)) | with_reducible exact (hs H :) | with_reducible exact H | (rw [hy477]; exact H) | exact H
      have Ny477 := Aside0.mk hy477
      clear hy477
      by_cases c15 : a1 < 0
      ·
       rw [if_pos c15] at H
       have c15b0 : decide (a1 < 0) = true := decide_eq_true c15
       clear c15
       by_cases c16 : y477.size + 1 ≤ 9223372036854775807
       ·
        rw [if_pos c16] at H
        have c16b0 := eq_true c16
        have c16b1 : decide (y477.size + 1 ≤ 9223372036854775807) = true := decide_eq_true c16
        try have c16b2 : (9223372036854775807 < y477.size + 1) = False := eq_false (Nat.not_lt.2 c16)
        obtain ⟨y478, hy478⟩ : ∃ y_ : ByteArray, y_ = (y477 ++ (⟨#[45]⟩ : ByteArray)) := ⟨_, rfl⟩
        replace H : (if (wrap64 (-a1)) < 10 then (if y478.size + 1 ≤ 9223372036854775807 then ((some (y478 ++ (⟨#[48]⟩ : ByteArray) : ByteArray)).bind fun y479 => ((Hd.num_IntText.f (wrap64 (-a1))).bind fun t480 => (if y479.size + t480.size ≤ 9223372036854775807 then (some (y479 ++ t480)) else (none)))) else (none)) else ((Hd.num_IntText.f (wrap64 (-a1))).bind fun t482 => (if y478.size + t482.size ≤ 9223372036854775807 then (some (y478 ++ t482)) else (none)))) = some r := by first | (rw [hy478]; with_reducible exact H) | (rw [hy478]; with_reducible exact (hs H :)) | with_reducible exact (hs H :) | with_reducible exact H | (rw [hy478]; exact H) | exact H
        have Ny478 := Aside0.mk hy478
        clear hy478
        by_cases c17 : (wrap64 (-a1)) < 10
        ·
         rw [if_pos c17] at H
         have c17b0 : decide ((wrap64 (-a1)) < 10) = true := decide_eq_true c17
         clear c17
         by_cases c18 : y478.size + 1 ≤ 9223372036854775807
         ·
          rw [if_pos c18] at H
          have c18b0 := eq_true c18
          have c18b1 : decide (y478.size + 1 ≤ 9223372036854775807) = true := decide_eq_true c18
          try have c18b2 : (9223372036854775807 < y478.size + 1) = False := eq_false (Nat.not_lt.2 c18)
          obtain ⟨y479, hy479⟩ : ∃ y_ : ByteArray, y_ = (y478 ++ (⟨#[48]⟩ : ByteArray)) := ⟨_, rfl⟩
          replace H : ((Hd.num_IntText.f (wrap64 (-a1))).bind fun t480 => (if y479.size + t480.size ≤ 9223372036854775807 then (some (y479 ++ t480)) else (none))) = some r := by first | (rw [hy479]; with_reducible exact H) | (rw [hy479]; with_reducible exact (hs H :)) | with_reducible exact (hs H :) | with_reducible exact H | (rw [hy479]; exact H) | exact H
          have Ny479 := Aside0.mk hy479
          clear hy479
          replace H := Option.bind_eq_some_iff.mp H
          obtain ⟨t480, A190, H⟩ := H
          have A19 := Aside0.mk A190
          clear A190
          by_cases c20 : y479.size + t480.size ≤ 9223372036854775807
          ·
           rw [if_pos c20] at H
           have c20b0 := eq_true c20
           have c20b1 : decide (y479.size + t480.size ≤ 9223372036854775807) = true := decide_eq_true c20
           try have c20b2 : (9223372036854775807 < y479.size + t480.size) = False := eq_false (Nat.not_lt.2 c20)
           obtain ⟨y481, hy481⟩ : ∃ y_ : ByteArray, y_ = (y479 ++ t480) := ⟨_, rfl⟩
           replace H : (some y481) = some r := by first | (rw [hy481]; with_reducible exact H) | (rw [hy481]; with_reducible exact (hs H :)) | with_reducible exact (hs H :) | with_reducible exact H | (rw [hy481]; exact H) | exact H
           have Ny481 := Aside0.mk hy481
           clear hy481
           obtain rfl := Option.some.inj H
           have hcs21 := Hd.str_cat (P := Tryd.prog) (s := x5_4) (t := (⟨#[101]⟩ : ByteArray)) (y := y477) (by first | (with_reducible assumption) | assumption | exact of_eq_true (by assumption) | omega) Ny477.out
           have hcs21' := Hd.str_cat' (P := Tryd.prog) (s := x5_4) (t := (⟨#[101]⟩ : ByteArray)) (y := y477) (by first | (with_reducible assumption) | assumption | exact of_eq_true (by assumption) | omega) Ny477.out
           have hcs22 := Hd.str_cat (P := Tryd.prog) (s := y477) (t := (⟨#[45]⟩ : ByteArray)) (y := y478) (by first | (with_reducible assumption) | assumption | exact of_eq_true (by assumption) | omega) Ny478.out
           have hcs22' := Hd.str_cat' (P := Tryd.prog) (s := y477) (t := (⟨#[45]⟩ : ByteArray)) (y := y478) (by first | (with_reducible assumption) | assumption | exact of_eq_true (by assumption) | omega) Ny478.out
           have hcs23 := Hd.str_cat (P := Tryd.prog) (s := y478) (t := (⟨#[48]⟩ : ByteArray)) (y := y479) (by first | (with_reducible assumption) | assumption | exact of_eq_true (by assumption) | omega) Ny479.out
           have hcs23' := Hd.str_cat' (P := Tryd.prog) (s := y478) (t := (⟨#[48]⟩ : ByteArray)) (y := y479) (by first | (with_reducible assumption) | assumption | exact of_eq_true (by assumption) | omega) Ny479.out
           go_wp2_with (first | ((with_reducible refine gate_callee (f := 26) rfl ?_); refine gL (some 32) Tryd.func26 #[.int .i64 (wrap64 (-a1))] ?_; (with_reducible refine (Hd.num_IntText.calls (wrap64 (-a1)) t480 _ A19.out).mono ?_); rintro e w24 ⟨rfl, hb⟩; refine ⟨_, rfl, ?_⟩; replace HB := lb HB hb; (try clear hb); (try clear hb2); (try clear hk); (try clear hi); have hcs25 := Hd.str_cat (P := Tryd.prog) (s := y479) (t := t480) (y := y481) (by first | (with_reducible assumption) | assumption | exact of_eq_true (by assumption) | omega) Ny481.out; have hcs25' := Hd.str_cat' (P := Tryd.prog) (s := y479) (t := t480) (y := y481) (by first | (with_reducible assumption) | assumption | exact of_eq_true (by assumption) | omega) Ny481.out))
           go_ret
           exact ex (lk HB)
          rw [if_neg c20] at H
          exact absurd H (by simp)
         rw [if_neg c18] at H
         exact absurd H (by simp)
        rw [if_neg c17] at H
        have c17b0 : decide ((wrap64 (-a1)) < 10) = false := decide_eq_false c17
        clear c17
        replace H := Option.bind_eq_some_iff.mp H
        obtain ⟨t482, A260, H⟩ := H
        have A26 := Aside0.mk A260
        clear A260
        by_cases c27 : y478.size + t482.size ≤ 9223372036854775807
        ·
         rw [if_pos c27] at H
         have c27b0 := eq_true c27
         have c27b1 : decide (y478.size + t482.size ≤ 9223372036854775807) = true := decide_eq_true c27
         try have c27b2 : (9223372036854775807 < y478.size + t482.size) = False := eq_false (Nat.not_lt.2 c27)
         obtain ⟨y483, hy483⟩ : ∃ y_ : ByteArray, y_ = (y478 ++ t482) := ⟨_, rfl⟩
         replace H : (some y483) = some r := by first | (rw [hy483]; with_reducible exact H) | (rw [hy483]; with_reducible exact (hs H :)) | with_reducible exact (hs H :) | with_reducible exact H | (rw [hy483]; exact H) | exact H
         have Ny483 := Aside0.mk hy483
         clear hy483
         obtain rfl := Option.some.inj H
         have hcs28 := Hd.str_cat (P := Tryd.prog) (s := x5_4) (t := (⟨#[101]⟩ : ByteArray)) (y := y477) (by first | (with_reducible assumption) | assumption | exact of_eq_true (by assumption) | omega) Ny477.out
         have hcs28' := Hd.str_cat' (P := Tryd.prog) (s := x5_4) (t := (⟨#[101]⟩ : ByteArray)) (y := y477) (by first | (with_reducible assumption) | assumption | exact of_eq_true (by assumption) | omega) Ny477.out
         have hcs29 := Hd.str_cat (P := Tryd.prog) (s := y477) (t := (⟨#[45]⟩ : ByteArray)) (y := y478) (by first | (with_reducible assumption) | assumption | exact of_eq_true (by assumption) | omega) Ny478.out
         have hcs29' := Hd.str_cat' (P := Tryd.prog) (s := y477) (t := (⟨#[45]⟩ : ByteArray)) (y := y478) (by first | (with_reducible assumption) | assumption | exact of_eq_true (by assumption) | omega) Ny478.out
         go_wp2_with (first | ((with_reducible refine gate_callee (f := 26) rfl ?_); refine gL (some 32) Tryd.func26 #[.int .i64 (wrap64 (-a1))] ?_; (with_reducible refine (Hd.num_IntText.calls (wrap64 (-a1)) t482 _ A26.out).mono ?_); rintro e w30 ⟨rfl, hb⟩; refine ⟨_, rfl, ?_⟩; replace HB := lb HB hb; (try clear hb); (try clear hb2); (try clear hk); (try clear hi); have hcs31 := Hd.str_cat (P := Tryd.prog) (s := y478) (t := t482) (y := y483) (by first | (with_reducible assumption) | assumption | exact of_eq_true (by assumption) | omega) Ny483.out; have hcs31' := Hd.str_cat' (P := Tryd.prog) (s := y478) (t := t482) (y := y483) (by first | (with_reducible assumption) | assumption | exact of_eq_true (by assumption) | omega) Ny483.out))
         go_ret
         exact ex (lk HB)
        rw [if_neg c27] at H
        exact absurd H (by simp)
       rw [if_neg c16] at H
       exact absurd H (by simp)
      rw [if_neg c15] at H
      have c15b0 : decide (a1 < 0) = false := decide_eq_false c15
      clear c15
      by_cases c32 : y477.size + 1 ≤ 9223372036854775807
      ·
       rw [if_pos c32] at H
       have c32b0 := eq_true c32
       have c32b1 : decide (y477.size + 1 ≤ 9223372036854775807) = true := decide_eq_true c32
       try have c32b2 : (9223372036854775807 < y477.size + 1) = False := eq_false (Nat.not_lt.2 c32)
       obtain ⟨y484, hy484⟩ : ∃ y_ : ByteArray, y_ = (y477 ++ (⟨#[43]⟩ : ByteArray)) := ⟨_, rfl⟩
       replace H : (if a1 < 10 then (if y484.size + 1 ≤ 9223372036854775807 then ((some (y484 ++ (⟨#[48]⟩ : ByteArray) : ByteArray)).bind fun y485 => ((Hd.num_IntText.f a1).bind fun t486 => (if y485.size + t486.size ≤ 9223372036854775807 then (some (y485 ++ t486)) else (none)))) else (none)) else ((Hd.num_IntText.f a1).bind fun t488 => (if y484.size + t488.size ≤ 9223372036854775807 then (some (y484 ++ t488)) else (none)))) = some r := by first | (rw [hy484]; with_reducible exact H) | (rw [hy484]; with_reducible exact (hs H :)) | with_reducible exact (hs H :) | with_reducible exact H | (rw [hy484]; exact H) | exact H
       have Ny484 := Aside0.mk hy484
       clear hy484
       by_cases c33 : a1 < 10
       ·
        rw [if_pos c33] at H
        have c33b0 : decide (a1 < 10) = true := decide_eq_true c33
        clear c33
        by_cases c34 : y484.size + 1 ≤ 9223372036854775807
        ·
         rw [if_pos c34] at H
         have c34b0 := eq_true c34
         have c34b1 : decide (y484.size + 1 ≤ 9223372036854775807) = true := decide_eq_true c34
         try have c34b2 : (9223372036854775807 < y484.size + 1) = False := eq_false (Nat.not_lt.2 c34)
         obtain ⟨y485, hy485⟩ : ∃ y_ : ByteArray, y_ = (y484 ++ (⟨#[48]⟩ : ByteArray)) := ⟨_, rfl⟩
         replace H : ((Hd.num_IntText.f a1).bind fun t486 => (if y485.size + t486.size ≤ 9223372036854775807 then (some (y485 ++ t486)) else (none))) = some r := by first | (rw [hy485]; with_reducible exact H) | (rw [hy485]; with_reducible exact (hs H :)) | with_reducible exact (hs H :) | with_reducible exact H | (rw [hy485]; exact H) | exact H
         have Ny485 := Aside0.mk hy485
         clear hy485
         replace H := Option.bind_eq_some_iff.mp H
         obtain ⟨t486, A350, H⟩ := H
         have A35 := Aside0.mk A350
         clear A350
         by_cases c36 : y485.size + t486.size ≤ 9223372036854775807
         ·
          rw [if_pos c36] at H
          have c36b0 := eq_true c36
          have c36b1 : decide (y485.size + t486.size ≤ 9223372036854775807) = true := decide_eq_true c36
          try have c36b2 : (9223372036854775807 < y485.size + t486.size) = False := eq_false (Nat.not_lt.2 c36)
          obtain ⟨y487, hy487⟩ : ∃ y_ : ByteArray, y_ = (y485 ++ t486) := ⟨_, rfl⟩
          replace H : (some y487) = some r := by first | (rw [hy487]; with_reducible exact H) | (rw [hy487]; with_reducible exact (hs H :)) | with_reducible exact (hs H :) | with_reducible exact H | (rw [hy487]; exact H) | exact H
          have Ny487 := Aside0.mk hy487
          clear hy487
          obtain rfl := Option.some.inj H
          have hcs37 := Hd.str_cat (P := Tryd.prog) (s := x5_4) (t := (⟨#[101]⟩ : ByteArray)) (y := y477) (by first | (with_reducible assumption) | assumption | exact of_eq_true (by assumption) | omega) Ny477.out
          have hcs37' := Hd.str_cat' (P := Tryd.prog) (s := x5_4) (t := (⟨#[101]⟩ : ByteArray)) (y := y477) (by first | (with_reducible assumption) | assumption | exact of_eq_true (by assumption) | omega) Ny477.out
          have hcs38 := Hd.str_cat (P := Tryd.prog) (s := y477) (t := (⟨#[43]⟩ : ByteArray)) (y := y484) (by first | (with_reducible assumption) | assumption | exact of_eq_true (by assumption) | omega) Ny484.out
          have hcs38' := Hd.str_cat' (P := Tryd.prog) (s := y477) (t := (⟨#[43]⟩ : ByteArray)) (y := y484) (by first | (with_reducible assumption) | assumption | exact of_eq_true (by assumption) | omega) Ny484.out
          have hcs39 := Hd.str_cat (P := Tryd.prog) (s := y484) (t := (⟨#[48]⟩ : ByteArray)) (y := y485) (by first | (with_reducible assumption) | assumption | exact of_eq_true (by assumption) | omega) Ny485.out
          have hcs39' := Hd.str_cat' (P := Tryd.prog) (s := y484) (t := (⟨#[48]⟩ : ByteArray)) (y := y485) (by first | (with_reducible assumption) | assumption | exact of_eq_true (by assumption) | omega) Ny485.out
          go_wp2_with (first | ((with_reducible refine gate_callee (f := 26) rfl ?_); refine gL (some 32) Tryd.func26 #[.int .i64 a1] ?_; (with_reducible refine (Hd.num_IntText.calls a1 t486 _ A35.out).mono ?_); rintro e w40 ⟨rfl, hb⟩; refine ⟨_, rfl, ?_⟩; replace HB := lb HB hb; (try clear hb); (try clear hb2); (try clear hk); (try clear hi); have hcs41 := Hd.str_cat (P := Tryd.prog) (s := y485) (t := t486) (y := y487) (by first | (with_reducible assumption) | assumption | exact of_eq_true (by assumption) | omega) Ny487.out; have hcs41' := Hd.str_cat' (P := Tryd.prog) (s := y485) (t := t486) (y := y487) (by first | (with_reducible assumption) | assumption | exact of_eq_true (by assumption) | omega) Ny487.out))
          go_ret
          exact ex (lk HB)
         rw [if_neg c36] at H
         exact absurd H (by simp)
        rw [if_neg c34] at H
        exact absurd H (by simp)
       rw [if_neg c33] at H
       have c33b0 : decide (a1 < 10) = false := decide_eq_false c33
       clear c33
       replace H := Option.bind_eq_some_iff.mp H
       obtain ⟨t488, A420, H⟩ := H
       have A42 := Aside0.mk A420
       clear A420
       by_cases c43 : y484.size + t488.size ≤ 9223372036854775807
       ·
        rw [if_pos c43] at H
        have c43b0 := eq_true c43
        have c43b1 : decide (y484.size + t488.size ≤ 9223372036854775807) = true := decide_eq_true c43
        try have c43b2 : (9223372036854775807 < y484.size + t488.size) = False := eq_false (Nat.not_lt.2 c43)
        obtain ⟨y489, hy489⟩ : ∃ y_ : ByteArray, y_ = (y484 ++ t488) := ⟨_, rfl⟩
        replace H : (some y489) = some r := by first | (rw [hy489]; with_reducible exact H) | (rw [hy489]; with_reducible exact (hs H :)) | with_reducible exact (hs H :) | with_reducible exact H | (rw [hy489]; exact H) | exact H
        have Ny489 := Aside0.mk hy489
        clear hy489
        obtain rfl := Option.some.inj H
        have hcs44 := Hd.str_cat (P := Tryd.prog) (s := x5_4) (t := (⟨#[101]⟩ : ByteArray)) (y := y477) (by first | (with_reducible assumption) | assumption | exact of_eq_true (by assumption) | omega) Ny477.out
        have hcs44' := Hd.str_cat' (P := Tryd.prog) (s := x5_4) (t := (⟨#[101]⟩ : ByteArray)) (y := y477) (by first | (with_reducible assumption) | assumption | exact of_eq_true (by assumption) | omega) Ny477.out
        have hcs45 := Hd.str_cat (P := Tryd.prog) (s := y477) (t := (⟨#[43]⟩ : ByteArray)) (y := y484) (by first | (with_reducible assumption) | assumption | exact of_eq_true (by assumption) | omega) Ny484.out
        have hcs45' := Hd.str_cat' (P := Tryd.prog) (s := y477) (t := (⟨#[43]⟩ : ByteArray)) (y := y484) (by first | (with_reducible assumption) | assumption | exact of_eq_true (by assumption) | omega) Ny484.out
        go_wp2_with (first | ((with_reducible refine gate_callee (f := 26) rfl ?_); refine gL (some 32) Tryd.func26 #[.int .i64 a1] ?_; (with_reducible refine (Hd.num_IntText.calls a1 t488 _ A42.out).mono ?_); rintro e w46 ⟨rfl, hb⟩; refine ⟨_, rfl, ?_⟩; replace HB := lb HB hb; (try clear hb); (try clear hb2); (try clear hk); (try clear hi); have hcs47 := Hd.str_cat (P := Tryd.prog) (s := y484) (t := t488) (y := y489) (by first | (with_reducible assumption) | assumption | exact of_eq_true (by assumption) | omega) Ny489.out; have hcs47' := Hd.str_cat' (P := Tryd.prog) (s := y484) (t := t488) (y := y489) (by first | (with_reducible assumption) | assumption | exact of_eq_true (by assumption) | omega) Ny489.out))
        go_ret
        exact ex (lk HB)
       rw [if_neg c43] at H
       exact absurd H (by simp)
      rw [if_neg c32] at H
      exact absurd H (by simp)
     rw [if_neg c14] at H
     exact absurd H (by simp)
  rw [if_neg c4] at H
  exact absurd H (by simp)
 rw [if_neg c3] at H
 exact absurd H (by simp)
mutual
def num_DurationText.j0 : Nat → Int → ByteArray → Option (ByteArray)
 | 0, _, _ => none
 | k + 1, x3, x4 => (num_units.f).bind fun t609 => (num_DurationText.l0 k x3 x4 t609 (t609.length : Int) 0)
def num_DurationText.l0 : Nat → Int → ByteArray → List (S98) → Int → Int → Option (ByteArray)
 | 0, _, _, _, _, _ => none
 | k + 1, x3, x4, x16, x17, x18 => if x18 < x17 then (if 0 ≤ x18 then (if x18 < (x16.length : Int) then (if (IntKind.u64.wrap ((rd_T98 x16 x18).f1)) = 0 then (none) else (if (IntKind.u64.wrap (Int.tdiv x3 (IntKind.u64.wrap ((rd_T98 x16 x18).f1)))) > 0 then ((Hd.num_IntText.f (wrap64 (IntKind.u64.wrap (Int.tdiv x3 (IntKind.u64.wrap ((rd_T98 x16 x18).f1)))))).bind fun t614 => (if t614.size + ((rd_T98 x16 x18).f0).size ≤ 9223372036854775807 then ((some (t614 ++ ((rd_T98 x16 x18).f0) : ByteArray)).bind fun y615 => (if x4.size + y615.size ≤ 9223372036854775807 then (num_DurationText.l0 k (Int.tmod x3 (IntKind.u64.wrap ((rd_T98 x16 x18).f1))) (x4 ++ y615) x16 x17 (wrap64 (x18 + 1))) else (none))) else (none))) else (num_DurationText.l0 k x3 x4 x16 x17 (wrap64 (x18 + 1))))) else (none)) else (none)) else (some x4)
end
def num_DurationText.f (k : Nat) (a0 : Int) : Option (ByteArray) := if a0 = 0 then (some (⟨#[48, 115]⟩ : ByteArray)) else (if a0 < 0 then (num_DurationText.j0 k (IntKind.u64.wrap (-(IntKind.u64.wrap (a0)))) (⟨#[45]⟩ : ByteArray)) else (num_DurationText.j0 k (IntKind.u64.wrap (a0)) (⟨#[]⟩ : ByteArray)))
theorem num_DurationText.mono_l : ∀ k, (∀ y0 y1, LeO (num_DurationText.j0 k y0 y1) (num_DurationText.j0 (k + 1) y0 y1)) ∧ (∀ y0 y1 y2 y3 y4, LeO (num_DurationText.l0 k y0 y1 y2 y3 y4) (num_DurationText.l0 (k + 1) y0 y1 y2 y3 y4))
 | 0 => ⟨fun _ _ r h => by simp [num_DurationText.j0] at h, fun _ _ _ _ _ r h => by simp [num_DurationText.l0] at h⟩
 | k + 1 => by
  obtain ⟨ih0, ih1⟩ := num_DurationText.mono_l k
  refine ⟨?_, ?_⟩
  ·
   intro y0 y1
   unfold num_DurationText.j0
   repeat' (with_reducible first | exact ih0 _ _ | exact ih1 _ _ _ _ _ | exact LeO.refl _ | exact LeO.none _ | refine LeO.ite ?_ ?_ | refine LeO.bind ?_ (fun _ => ?_))
  intro y0 y1 y2 y3 y4
  unfold num_DurationText.l0
  repeat' (with_reducible first | exact ih0 _ _ | exact ih1 _ _ _ _ _ | exact LeO.refl _ | exact LeO.none _ | refine LeO.ite ?_ ?_ | refine LeO.bind ?_ (fun _ => ?_))
theorem num_DurationText.mono : ∀ a0 k, LeO (num_DurationText.f k a0) (num_DurationText.f (k + 1) a0) := by
 intro a0 k
 obtain ⟨ih0, ih1⟩ := num_DurationText.mono_l k
 unfold num_DurationText.f
 repeat' (with_reducible first | exact ih0 _ _ | exact ih1 _ _ _ _ _ | exact LeO.refl _ | exact LeO.none _ | refine LeO.ite ?_ ?_ | refine LeO.bind ?_ (fun _ => ?_))
def num_DurationText.T11 : Bool × List (List Nat × List Nat) := (true, [([], []), ([], []), ([1], [1]), ([2], [2]), ([], []), ([4], [4]), ([3, 5], [3, 5]), ([0, 6], [0, 6]), ([7, 3, 0, 1, 2, 3, 4, 5, 6, 7], [0, 7])])
def num_DurationText.B11 : List Nat := [0, 0, 2, 6, 0, 16, 62, 127, 255]
theorem num_DurationText.tab11 : rtab .any (opsOf Tryd.f38 11) = num_DurationText.T11 := by kernel_rfl
theorem num_DurationText.bits11 : waitsOk num_DurationText.T11.2 num_DurationText.B11 = true := by kernel_rfl
set_option maxHeartbeats 8000000 in
set_option maxRecDepth 100000 in
theorem num_DurationText.calls (k : Nat) (a0 : Int) (r : ByteArray) (w : World) (h : num_DurationText.f k a0 = some r) :
  Calls Tryd.prog 38 #[.int .i64 a0] w fun e w' => e = .returned (.string r) ∧ Below w.heap.size w w' := by
 have hu98 := Tryd.underlying98
 have HB := Aside0.mk (Below.refl w.heap.size w)
 have H : (if a0 = 0 then (some (⟨#[48, 115]⟩ : ByteArray)) else (if a0 < 0 then (num_DurationText.j0 k (IntKind.u64.wrap (-(IntKind.u64.wrap (a0)))) (⟨#[45]⟩ : ByteArray)) else (num_DurationText.j0 k (IntKind.u64.wrap (a0)) (⟨#[]⟩ : ByteArray)))) = some r := h
 clear h
 by_cases c2 : a0 = 0
 ·
  rw [if_pos c2] at H
  have c2b0 : (a0 == 0) = true := beq_iff_eq.mpr c2
  have c2b1 : (a0 != 0) = false := bne_eq_false_iff_eq.mpr c2
  clear c2
  obtain rfl := Option.some.inj H
  go_enter Tryd.func38, Tryd.ntmps38
  go_wp2
  go_ret
  exact ex (lk HB)
 rw [if_neg c2] at H
 have c2b0 : (a0 == 0) = false := beq_eq_false_iff_ne.mpr c2
 have c2b1 : (a0 != 0) = true := bne_iff_ne.mpr c2
 have HC3 := Aside0.mk H
 clear H
 go_enter Tryd.func38, Tryd.ntmps38
 go_upto_if 13 with (fail)
 go_cut [3, 4] (fun v3 v4 wc => ∃ (kq : Nat) (x3_2 : Int) (x4_2 : ByteArray), v3 = .int .u64 x3_2 ∧ v4 = .string x4_2 ∧ Aside0 (num_DurationText.j0 kq x3_2 x4_2 = some r) ∧ Aside0 (kq ≤ k) ∧ Aside0 (Below w.heap.size w wc))
 case first =>
  have H := HC3.out
  clear HC3
  by_cases c4 : a0 < 0
  ·
   rw [if_pos c4] at H
   have c4b0 : decide (a0 < 0) = true := decide_eq_true c4
   clear c4
   (first | rw [c4b0] | (simp only [i64_w, i32_w]; rw [c4b0]) | skip)
   have H' := Aside0.mk H
   clear H
   go_wp2
   go_meet
   case rel => exact ⟨_, (IntKind.u64.wrap (-(IntKind.u64.wrap (a0)))), ((⟨#[45]⟩ : ByteArray)), (by first | rfl | (simp; done) | (simp [*]; done)), (by first | rfl | (simp; done) | (simp [*]; done)), H', ⟨by first | omega | exact Nat.le_refl _⟩, ⟨lk HB⟩⟩
  rw [if_neg c4] at H
  have c4b0 : decide (a0 < 0) = false := decide_eq_false c4
  clear c4
  (first | rw [c4b0] | (simp only [i64_w, i32_w]; rw [c4b0]) | skip)
  have H' := Aside0.mk H
  clear H
  go_wp2
  go_meet
  case rel => exact ⟨_, (IntKind.u64.wrap (a0)), ((⟨#[]⟩ : ByteArray)), (by first | rfl | (simp; done) | (simp [*]; done)), (by first | rfl | (simp; done) | (simp [*]; done)), H', ⟨by first | omega | exact Nat.le_refl _⟩, ⟨lk HB⟩⟩
 case rest =>
  clear HC3
  try clear c2
  try clear c2b0
  try clear c2b1
  try clear p2
  try clear c3
  try clear c4
  try clear c4b0
  obtain ⟨kq, x3_2, x4_2, rfl, rfl, HA, HJ2, HB⟩ := hcut
  cases kq with
  | zero => exact absurd HA.out (by simp [num_DurationText.j0])
  | succ kj2 =>
   have H := HA.out
   clear HA
   simp only [num_DurationText.j0] at H
   replace H := Option.bind_eq_some_iff.mp H
   obtain ⟨t609, A50, H⟩ := H
   have A5 := Aside0.mk A50
   clear A50
   have H' := Aside0.mk H
   clear H
   go_wp2_with (first | ((with_reducible refine gate_callee (f := 77) rfl ?_); refine gL (some 16) Tryd.func77 #[] ?_; (with_reducible refine (num_units.calls  t609 _ A5.out).mono ?_); rintro e w6 ⟨v610, rfl, ho0, hb⟩; refine ⟨_, rfl, ?_⟩; have HO611 := Aside0.mk (Kd.R_lower ho0 (below_size (lk HB))); replace HB := lb HB hb; (try clear hb); (try clear hb2); (try clear hk); (try clear hi); (try clear ho0); obtain ⟨Ao7, co7, eo7⟩ := Kd.R_slice HO611.out; subst eo7))
   go_loopg [3, 4, 18] kj2 (fun kq v3 v4 v18 w' => ∃ (x3_2 : Int) (x4_2 : ByteArray) (x18_2 : Int), v3 = .int .u64 x3_2 ∧ v4 = .string x4_2 ∧ v18 = .int .i64 x18_2 ∧ Aside0 (num_DurationText.l0 kq x3_2 x4_2 t609 (t609.length : Int) x18_2 = some r) ∧ Aside0 (kq ≤ kj2) ∧ Aside0 (Kd.R k98 98 w' w.heap.size (fun _ => True) (.slice Ao7 t609.length co7) t609) ∧ Aside0 (Below w.heap.size w w'))
   case atStart => exact ⟨(x3_2), (x4_2), (0), (by first | rfl | (simp; done) | (simp [*]; done)), (by first | rfl | (simp; done) | (simp [*]; done)), (by first | rfl | (simp; done) | (simp [*]; done)), H', ⟨Nat.le_refl _⟩, ⟨rk HO611⟩, ⟨lk HB⟩⟩
   case round =>
    clear H'
    try clear c2
    try clear c2b0
    try clear c2b1
    try clear p2
    try clear c3
    try clear c4
    try clear c4b0
    try clear c7
    try clear p2
    obtain ⟨x3_2, x4_2, x18_2, rfl, rfl, rfl, HA, HK2, HO_16, HB⟩ := hrel
    cases gk with
    | zero => exact absurd HA.out (by simp [num_DurationText.l0])
    | succ k2 =>
     have H := HA.out
     clear HA
     simp only [num_DurationText.l0] at H
     by_cases c8 : x18_2 < (t609.length : Int)
     ·
      rw [if_pos c8] at H
      have c8b0 : decide (x18_2 < (t609.length : Int)) = true := decide_eq_true c8
      clear c8
      by_cases c9 : 0 ≤ x18_2
      ·
       rw [if_pos c9] at H
       have c9b0 : decide (0 ≤ x18_2) = true := decide_eq_true c9
       clear c9
       by_cases c10 : x18_2 < (t609.length : Int)
       ·
        rw [if_pos c10] at H
        have c10b0 : decide (x18_2 < (t609.length : Int)) = true := decide_eq_true c10
        clear c10
        by_cases c11 : (IntKind.u64.wrap ((rd_T98 t609 x18_2).f1)) = 0
        ·
         rw [if_pos c11] at H
         exact absurd H (by simp)
        rw [if_neg c11] at H
        have c11b0 : ((IntKind.u64.wrap ((rd_T98 t609 x18_2).f1)) == 0) = false := beq_eq_false_iff_ne.mpr c11
        have c11b1 : ((IntKind.u64.wrap ((rd_T98 t609 x18_2).f1)) != 0) = true := bne_iff_ne.mpr c11
        by_cases c12 : (IntKind.u64.wrap (Int.tdiv x3_2 (IntKind.u64.wrap ((rd_T98 t609 x18_2).f1)))) > 0
        ·
         rw [if_pos c12] at H
         have c12b0 : decide (0 < (IntKind.u64.wrap (Int.tdiv x3_2 (IntKind.u64.wrap ((rd_T98 t609 x18_2).f1))))) = true := decide_eq_true c12
         clear c12
         replace H := Option.bind_eq_some_iff.mp H
         obtain ⟨t614, A130, H⟩ := H
         have A13 := Aside0.mk A130
         clear A130
         by_cases c14 : t614.size + ((rd_T98 t609 x18_2).f0).size ≤ 9223372036854775807
         ·
          rw [if_pos c14] at H
          have c14b0 := eq_true c14
          have c14b1 : decide (t614.size + ((rd_T98 t609 x18_2).f0).size ≤ 9223372036854775807) = true := decide_eq_true c14
          try have c14b2 : (9223372036854775807 < t614.size + ((rd_T98 t609 x18_2).f0).size) = False := eq_false (Nat.not_lt.2 c14)
          obtain ⟨y615, hy615⟩ : ∃ y_ : ByteArray, y_ = (t614 ++ ((rd_T98 t609 x18_2).f0)) := ⟨_, rfl⟩
          replace H : (if x4_2.size + y615.size ≤ 9223372036854775807 then (num_DurationText.l0 k2 (Int.tmod x3_2 (IntKind.u64.wrap ((rd_T98 t609 x18_2).f1))) (x4_2 ++ y615) t609 (t609.length : Int) (wrap64 (x18_2 + 1))) else (none)) = some r := by first | (rw [hy615]; with_reducible exact H) | (rw [hy615]; with_reducible exact (hs H :)) | with_reducible exact (hs H :) | with_reducible exact H | (rw [hy615]; exact H) | exact H
          have Ny615 := Aside0.mk hy615
          clear hy615
          by_cases c15 : x4_2.size + y615.size ≤ 9223372036854775807
          ·
           rw [if_pos c15] at H
           have c15b0 := eq_true c15
           have c15b1 : decide (x4_2.size + y615.size ≤ 9223372036854775807) = true := decide_eq_true c15
           try have c15b2 : (9223372036854775807 < x4_2.size + y615.size) = False := eq_false (Nat.not_lt.2 c15)
           obtain ⟨y616, hy616⟩ : ∃ y_ : ByteArray, y_ = (x4_2 ++ y615) := ⟨_, rfl⟩
           replace H : (num_DurationText.l0 k2 (Int.tmod x3_2 (IntKind.u64.wrap ((rd_T98 t609 x18_2).f1))) y616 t609 (t609.length : Int) (wrap64 (x18_2 + 1))) = some r := by first | (rw [hy616]; with_reducible exact H) | (rw [hy616]; with_reducible exact (hs H :)) | with_reducible exact (hs H :) | with_reducible exact H | (rw [hy616]; exact H) | exact H
           have Ny616 := Aside0.mk hy616
           clear hy616
           have H' := Aside0.mk H
           clear H
           have p612 : 0 ≤ (x18_2 : Int) := of_decide_eq_true (by first | (with_reducible assumption) | assumption)
           have q612 : x18_2 < (t609.length : Int) := of_decide_eq_true (by first | (with_reducible assumption) | assumption)
           obtain ⟨ad612, e612, hx612_0, hx612_1⟩ := at_T98 (Kd.R_reads' HO_16.out).2.2 x18_2 p612 q612
           cases e612
           replace p612 := eq_true p612
           replace q612 := eq_true q612
           try go_wp2_with (first | ((with_reducible refine gate_dst (N := 6) rfl ?_); refine box_event ?hg (N := 6) ?hd (cs := #[.string (⟨#[]⟩ : ByteArray), .int .i64 0]) (t := 98) ?hr ?_; (case hd => rfl); (case hg => rfl); (case hr => first | (go_simp; done) | (go_simp; rfl)); intro gb613 hg w16 hbox hb; replace HO_16 := Aside0.mk (Kd.R_below (Kd.R_elderB (rk HO_16) gb613 (Nat.le_of_eq hg.symm)) hb); have BK613 := Aside0.mk (hbox); have GW613 := Aside0.mk ((by rw [hg]; exact (below_size (lk HB)) : w.heap.size ≤ gb613)); have GE613 := Aside0.mk ((by rw [hg]; exact (below_size (lk HB)) : w.heap.size ≤ gb613)); replace HB := lb HB hb; clear hb hbox hg; have hcz17_0 : w16.cell? ⟨gb613, 0, none⟩ = some (.string (⟨#[]⟩ : ByteArray)) := (blk_cell BK613.out 0).trans rfl; have hcz17_1 : w16.cell? ⟨gb613, 1, none⟩ = some (.int .i64 0) := (blk_cell BK613.out 1).trans rfl; have hfz17_0 := blk_frozen BK613.out 0; have hfz17_1 := blk_frozen BK613.out 1))
           (first | refine Hd.letter_ (fun w18 hw => ?_) | refine Hd.letterL_ (fun w18 hw => ?_) | refine Hd.letterE_ (fun w18 hw => ?_))
           have n0_ : Aside0 (Kd.R k98 98 w18 w.heap.size (fun k_ => k_ ≠ gb613) (.slice (some ad612) t609.length co7) t609) := ⟨by rw [hw]; exact (by (with_reducible repeat (first | apply Kd.R_alloc | apply Kd.R_drewN | apply Kd.R_drew)); exact Kd.R_mono (Kd.R_far (p := ⟨gb613, 1, none⟩) (Kd.R_far (p := ⟨gb613, 0, none⟩) (Kd.R_mono HO_16.out (fun k_ hk => (⟨hk, hk.2⟩ : _ ∧ k_ ≠ gb613))) (fun _ hk => hk.2) (.string ((rd_T98 t609 x18_2).f0))) (fun _ hk => hk.2) (.int .i64 ((rd_T98 t609 x18_2).f1))) (fun _ hk => hk.1.2))⟩
           have n1_ : Aside0 (w18.heap[gb613]? = some (.cells #[.string ((rd_T98 t609 x18_2).f0), .int .i64 ((rd_T98 t609 x18_2).f1)] 98 (0, 0))) := ⟨by rw [hw]; exact (by (with_reducible repeat (first | refine blk_drewN ?_ _ | refine blk_drew ?_ | refine blk_alloc ?_ _)); refine blk_put (cs := #[.string ((rd_T98 t609 x18_2).f0), .int .i64 0]) ?_ 1 _ rfl; (with_reducible repeat (first | refine blk_drewN ?_ _ | refine blk_drew ?_ | refine blk_alloc ?_ _)); refine blk_put (cs := #[.string (⟨#[]⟩ : ByteArray), .int .i64 0]) ?_ 0 _ rfl; (with_reducible repeat (first | refine blk_drewN ?_ _ | refine blk_drew ?_ | refine blk_alloc ?_ _)); exact BK613.out)⟩
           have n2_ : Aside0 (Below w.heap.size w w18) := ⟨by rw [hw]; exact (lk HB)⟩
           clear hw
           (try clear HO_16)
           (try clear BK613)
           (try clear HB)
           have HO_16 := n0_
           have BK613 := n1_
           have HB := n2_
           clear n0_ n1_ n2_
           have n0_ := Aside0.mk (Kd.R_drew HO_16.out)
           have n1_ := Aside0.mk (blk_drew BK613.out)
           have n2_ := Aside0.mk (below_drew1 HB.out)
           clear HO_16
           clear BK613
           clear HB
           have HO_16 := n0_
           have BK613 := n1_
           have HB := n2_
           clear n0_ n1_ n2_
           refine start_ (n := 9) (S := fun w' => w'.cell? ⟨gb613, 0, none⟩ = some (.string ((rd_T98 t609 x18_2).f0)) ∧ w'.cell? ⟨gb613, 1, none⟩ = some (.int .i64 ((rd_T98 t609 x18_2).f1))) (ds := []) #[false, false, false, false, false, false, false, false, false] (by kernel_rfl) rfl rfl ⟨(blk_cell BK613.out 0).trans rfl, (blk_cell BK613.out 1).trans rfl⟩ (fun hHeld => ?_); refine with_tabW num_DurationText.tab11 num_DurationText.bits11 (fun HT_ HW_ => ?_)
           generalize w18.drew = w19 at HO_16 BK613 HB hHeld ⊢
           refine pure_ (i := 0) (N := some 29) (v := ?_) (a' := ?_) #[true, false, false, false, false, false, false, false, false] rfl rfl (any_of HT_.out (by kernel_rfl)) (fun _ _ _ h => h) (Or.inl ⟨by rfl, ?_⟩) ?_ ?_
           rotate_left
           ·
            intro w'
            go_simp
            with_reducible rfl
           rotate_left
           ·
            simp only [Act.put, List.setIfInBounds_toArray, List.set_cons_zero, List.set_cons_succ, i64_w, i32_w]
            rfl
           refine pure_ (i := 1) (N := some 30) (v := ?_) (a' := ?_) #[true, true, false, false, false, false, false, false, false] rfl rfl (any_of HT_.out (by kernel_rfl)) (fun _ _ _ h => h) (Or.inl ⟨by rfl, ?_⟩) ?_ ?_
           rotate_left
           ·
            intro w'
            go_simp
            with_reducible rfl
           rotate_left
           ·
            simp only [Act.put, List.setIfInBounds_toArray, List.set_cons_zero, List.set_cons_succ, i64_w, i32_w]
            rfl
           refine pure_ (i := 2) (N := some 31) (v := ?_) (a' := ?_) #[true, true, true, false, false, false, false, false, false] rfl rfl (any_of HT_.out (by kernel_rfl)) (fun _ _ _ h => h) (Or.inl ⟨by rfl, ?_⟩) ?_ ?_
           rotate_left
           ·
            intro w'
            go_simp
            with_reducible rfl
           rotate_left
           ·
            simp only [Act.put, List.setIfInBounds_toArray, List.set_cons_zero, List.set_cons_succ, i64_w, i32_w]
            rfl
           refine pure_ (i := 4) (N := some 33) (v := ?_) (a' := ?_) #[true, true, true, false, true, false, false, false, false] rfl rfl (any_of HT_.out (by kernel_rfl)) (fun _ _ _ h => h) (Or.inl ⟨by rfl, ?_⟩) ?_ ?_
           rotate_left
           ·
            intro w'
            go_simp
            with_reducible rfl
           rotate_left
           ·
            simp only [Act.put, List.setIfInBounds_toArray, List.set_cons_zero, List.set_cons_succ, i64_w, i32_w]
            rfl
           refine take_ (i := 5) (N := some 34) (v := ?_) (a' := ?_) #[true, true, true, false, true, true, false, false, false] rfl rfl (take_ofW HT_.out HW_.out (by kernel_rfl)) (fun _ _ _ h => h) (Or.inl ⟨by rfl, ?_⟩) hHeld ?_ ?_
           rotate_left
           ·
            rintro w' ⟨s0, s1⟩
            go_simp
            with_reducible rfl
           rotate_left
           ·
            simp only [Act.put, List.setIfInBounds_toArray, List.set_cons_zero, List.set_cons_succ, i64_w, i32_w]
            rfl
           refine one_ (i := 3) (N := some 32) #[true, true, true, true, true, true, false, false, false] rfl rfl (one_of HT_.out (by kernel_rfl)) (by decide) (fun K hK => ?_)
           refine goes_ Tryd.func26 (by kernel_rfl) rfl #[.int .i64 (wrap64 (IntKind.u64.wrap (Int.tdiv x3_2 (IntKind.u64.wrap ((rd_T98 t609 x18_2).f1)))))] (by rfl) rfl rfl (by (try simp only [List.map_toArray, List.map_cons, List.map_nil]); first | done | rfl | (simp only [List.length_drop, List.length_take]; rfl) | (simp [Act.eval, Hd.wrap_u8]; done)) ?_
           with_reducible refine (Hd.num_IntText.calls (wrap64 (IntKind.u64.wrap (Int.tdiv x3_2 (IntKind.u64.wrap ((rd_T98 t609 x18_2).f1))))) t614 _ A13.out).mono ?_
           rintro e w20 ⟨rfl, hb⟩
           refine ⟨_, rfl, ?_⟩
           have n0_ := Aside0.mk (Kd.R_below (rk HO_16) hb)
           have n1_ := bb BK613 hb
           have n2_ := lb HB hb
           clear HO_16
           clear BK613
           clear HB
           have HO_16 := n0_
           have BK613 := n1_
           have HB := n2_
           clear n0_ n1_ n2_
           (try clear hb)
           (try clear hb2)
           (try clear hk)
           (try clear hi)
           have hcs21 := Hd.str_cat (P := Tryd.prog) (s := t614) (t := ((rd_T98 t609 x18_2).f0)) (y := y615) (by first | (with_reducible assumption) | assumption | exact of_eq_true (by assumption) | omega) Ny615.out
           have hcs21' := Hd.str_cat' (P := Tryd.prog) (s := t614) (t := ((rd_T98 t609 x18_2).f0)) (y := y615) (by first | (with_reducible assumption) | assumption | exact of_eq_true (by assumption) | omega) Ny615.out
           have hcs22 := Hd.str_cat (P := Tryd.prog) (s := x4_2) (t := y615) (y := y616) (by first | (with_reducible assumption) | assumption | exact of_eq_true (by assumption) | omega) Ny616.out
           have hcs22' := Hd.str_cat' (P := Tryd.prog) (s := x4_2) (t := y615) (y := y616) (by first | (with_reducible assumption) | assumption | exact of_eq_true (by assumption) | omega) Ny616.out
           refine hK.out _ _ ⟨(blk_cell BK613.out 0).trans rfl, (blk_cell BK613.out 1).trans rfl⟩ (fun hHeld => ?_)
           clear hK K
           refine norm_ (a' := ?_) ?_ ?_
           rotate_left
           ·
            show Act.put _ (some 32) _ = _
            simp only [Act.put, List.setIfInBounds_toArray, List.set_cons_zero, List.set_cons_succ, i64_w, i32_w]
            rfl
           refine pure_ (i := 6) (N := some 35) (v := ?_) (a' := ?_) #[true, true, true, true, true, true, true, false, false] rfl rfl (any_of HT_.out (by kernel_rfl)) (fun _ _ _ h => h) (Or.inl ⟨by rfl, ?_⟩) ?_ ?_
           rotate_left
           ·
            intro w'
            go_simp
            with_reducible rfl
           rotate_left
           ·
            simp only [Act.put, List.setIfInBounds_toArray, List.set_cons_zero, List.set_cons_succ, i64_w, i32_w]
            rfl
           refine pure_ (i := 7) (N := some 36) (v := ?_) (a' := ?_) #[true, true, true, true, true, true, true, true, false] rfl rfl (any_of HT_.out (by kernel_rfl)) (fun _ _ _ h => h) (Or.inl ⟨by rfl, ?_⟩) ?_ ?_
           rotate_left
           ·
            intro w'
            go_simp
            with_reducible rfl
           rotate_left
           ·
            simp only [Act.put, List.setIfInBounds_toArray, List.set_cons_zero, List.set_cons_succ, i64_w, i32_w]
            rfl
           refine pure_ (i := 8) (N := some 4) (v := ?_) (a' := ?_) #[true, true, true, true, true, true, true, true, true] rfl rfl (any_of HT_.out (by kernel_rfl)) (fun _ _ _ h => h) (Or.inl ⟨by rfl, ?_⟩) ?_ ?_
           rotate_left
           ·
            intro w'
            go_simp
            with_reducible rfl
           rotate_left
           ·
            simp only [Act.put, List.setIfInBounds_toArray, List.set_cons_zero, List.set_cons_succ, i64_w, i32_w]
            rfl
           refine done_ (done_of HT_.out (by kernel_rfl)) ?_
           have hcz23_0 : w20.cell? ⟨gb613, 0, none⟩ = some (.string ((rd_T98 t609 x18_2).f0)) := (blk_cell BK613.out 0).trans rfl
           have hcz23_1 : w20.cell? ⟨gb613, 1, none⟩ = some (.int .i64 ((rd_T98 t609 x18_2).f1)) := (blk_cell BK613.out 1).trans rfl
           have hfz23_0 := blk_frozen BK613.out 0
           have hfz23_1 := blk_frozen BK613.out 1
           try go_wp2
           go_roundg k2
           case measure => have := HJ2.out; have := HK2.out; omega
           case rel => exact ⟨(Int.tmod x3_2 (IntKind.u64.wrap ((rd_T98 t609 x18_2).f1))), (y616), (wrap64 (x18_2 + 1)), (by first | rfl | (simp; done) | (simp [*]; done)), (by first | rfl | (simp; done) | (simp [*]; done)), (by first | rfl | (simp; done) | (simp [*]; done)), H', ⟨by have := HJ2.out; have := HK2.out; omega⟩, ⟨by (with_reducible repeat (first | apply Kd.R_alloc | apply Kd.R_drewN | apply Kd.R_drew)); exact Kd.R_mono HO_16.out (fun _ hk => trivial)⟩, ⟨lk HB⟩⟩
          rw [if_neg c15] at H
          exact absurd H (by simp)
         rw [if_neg c14] at H
         exact absurd H (by simp)
        rw [if_neg c12] at H
        have c12b0 : decide (0 < (IntKind.u64.wrap (Int.tdiv x3_2 (IntKind.u64.wrap ((rd_T98 t609 x18_2).f1))))) = false := decide_eq_false c12
        clear c12
        have H' := Aside0.mk H
        clear H
        have p612 : 0 ≤ (x18_2 : Int) := of_decide_eq_true (by first | (with_reducible assumption) | assumption)
        have q612 : x18_2 < (t609.length : Int) := of_decide_eq_true (by first | (with_reducible assumption) | assumption)
        obtain ⟨ad612, e612, hx612_0, hx612_1⟩ := at_T98 (Kd.R_reads' HO_16.out).2.2 x18_2 p612 q612
        cases e612
        replace p612 := eq_true p612
        replace q612 := eq_true q612
        go_wp2_with (first | ((with_reducible refine gate_dst (N := 6) rfl ?_); refine box_event ?hg (N := 6) ?hd (cs := #[.string (⟨#[]⟩ : ByteArray), .int .i64 0]) (t := 98) ?hr ?_; (case hd => rfl); (case hg => rfl); (case hr => first | (go_simp; done) | (go_simp; rfl)); intro gb613 hg w24 hbox hb; replace HO_16 := Aside0.mk (Kd.R_below (Kd.R_elderB (rk HO_16) gb613 (Nat.le_of_eq hg.symm)) hb); have BK613 := Aside0.mk (hbox); have GW613 := Aside0.mk ((by rw [hg]; exact (below_size (lk HB)) : w.heap.size ≤ gb613)); have GE613 := Aside0.mk ((by rw [hg]; exact (below_size (lk HB)) : w.heap.size ≤ gb613)); replace HB := lb HB hb; clear hb hbox hg; have hcz25_0 : w24.cell? ⟨gb613, 0, none⟩ = some (.string (⟨#[]⟩ : ByteArray)) := (blk_cell BK613.out 0).trans rfl; have hcz25_1 : w24.cell? ⟨gb613, 1, none⟩ = some (.int .i64 0) := (blk_cell BK613.out 1).trans rfl; have hfz25_0 := blk_frozen BK613.out 0; have hfz25_1 := blk_frozen BK613.out 1))
        go_roundg k2
        case measure => have := HJ2.out; have := HK2.out; omega
        case rel => exact ⟨(x3_2), (x4_2), (wrap64 (x18_2 + 1)), (by first | rfl | (simp; done) | (simp [*]; done)), (by first | rfl | (simp; done) | (simp [*]; done)), (by first | rfl | (simp; done) | (simp [*]; done)), H', ⟨by have := HJ2.out; have := HK2.out; omega⟩, ⟨by (with_reducible repeat (first | apply Kd.R_alloc | apply Kd.R_drewN | apply Kd.R_drew)); exact Kd.R_mono (Kd.R_far (p := ⟨gb613, 1, none⟩) (Kd.R_far (p := ⟨gb613, 0, none⟩) (Kd.R_mono HO_16.out (fun k_ hk => (⟨hk, hk.2⟩ : _ ∧ k_ ≠ gb613))) (fun _ hk => hk.2) (.string ((rd_T98 t609 x18_2).f0))) (fun _ hk => hk.2) (.int .i64 ((rd_T98 t609 x18_2).f1))) (fun _ hk => trivial)⟩, ⟨lk HB⟩⟩
       rw [if_neg c10] at H
       exact absurd H (by simp)
      rw [if_neg c9] at H
      exact absurd H (by simp)
     rw [if_neg c8] at H
     have c8b0 : decide (x18_2 < (t609.length : Int)) = false := decide_eq_false c8
     clear c8
     obtain rfl := Option.some.inj H
     go_wp2
     go_ret
     exact ex (lk HB)
end Go.Proofs.YtjlnfnfdibfniaaDoor.F
namespace Go.Proofs.YtjlnfnfdibfniaaDoor.Pl
def Runs {α : Type} (g : Nat → Option α) (r : α) : Prop := ∃ K, ∀ k, K ≤ k → g k = some r
theorem Runs.suc {α : Type} {g : Nat → Option α} {r : α} (h : Runs (fun k => g (k + 1)) r) : Runs g r := by
 obtain ⟨K, h⟩ := h
 refine ⟨K + 1, fun k hk => ?_⟩
 obtain ⟨k, rfl⟩ : ∃ j, k = j + 1 := ⟨k - 1, by omega⟩
 exact h k (by omega)
theorem Runs.bind {α β : Type} {g : Nat → Option α} {h : Nat → α → Option β} {a : α} {b : β} (hg : Runs g a) (hh : Runs (fun k => h k a) b) : Runs (fun k => (g k).bind (h k)) b := by
 obtain ⟨K, hg⟩ := hg
 obtain ⟨L, hh⟩ := hh
 exact ⟨max K L, fun k hk => by show (g k).bind (h k) = _; rw [hg k (by omega), Option.bind_some]; exact hh k (by omega)⟩
theorem Runs.pure {α : Type} (a : α) : Runs (fun _ => some a) a := ⟨0, fun _ _ => rfl⟩
theorem Runs.yes {α : Type} {c : Prop} [Decidable c] {A B : Nat → Option α} {r : α} (h : c) (hA : Runs A r) : Runs (fun k => if c then A k else B k) r := by
 obtain ⟨K, hA⟩ := hA
 exact ⟨K, fun k hk => by show (if c then A k else B k) = _; rw [if_pos h]; exact hA k hk⟩
theorem Runs.no {α : Type} {c : Prop} [Decidable c] {A B : Nat → Option α} {r : α} (h : ¬ c) (hB : Runs B r) : Runs (fun k => if c then A k else B k) r := by
 obtain ⟨K, hB⟩ := hB
 exact ⟨K, fun k hk => by show (if c then A k else B k) = _; rw [if_neg h]; exact hB k hk⟩
theorem Runs.of {α : Type} {g : Nat → Option α} {a b : α} (h : Runs g a) (e : a = b) : Runs g b := e ▸ h
theorem Runs.eq {α : Type} {g g' : Nat → Option α} {a : α} (e : ∀ k, g k = g' k) (h : Runs g' a) : Runs g a := by
 have : g = g' := funext e
 rw [this]; exact h
def lim (B n : Nat) : List Int := if _h : n = 0 ∨ B < 2 then [] else ((n % B : Nat) : Int) :: lim B (n / B)
termination_by n
decreasing_by exact Nat.div_lt_self (by omega) (by omega)
def nv (B : Nat) : List Int → Nat
 | [] => 0
 | x :: xs => x.toNat + B * nv B xs
def Wf (B : Nat) (l : List Int) : Prop := ∀ x ∈ l, 0 ≤ x ∧ x < (B : Int)
theorem lim_zero (B : Nat) : lim B 0 = [] := by rw [lim]; simp
theorem lim_pos {B n : Nat} (hB : 2 ≤ B) (h : 0 < n) : lim B n = ((n % B : Nat) : Int) :: lim B (n / B) := by
 rw [lim, dif_neg (by omega)]
theorem lim_ind {P : Nat → Prop} {B : Nat} (hB : 2 ≤ B) (h0 : P 0) (h1 : ∀ n, 0 < n → P (n / B) → P n) (n : Nat) : P n := by
 induction n using Nat.strongRecOn with
 | ind n ih =>
  rcases Nat.eq_zero_or_pos n with rfl | h
  ·
   exact h0
  ·
   exact h1 n h (ih _ (Nat.div_lt_self h hB))
theorem nv_lim {B : Nat} (hB : 2 ≤ B) (n : Nat) : nv B (lim B n) = n := by
 refine lim_ind (P := fun n => nv B (lim B n) = n) hB ?_ ?_ n
 ·
  rw [lim_zero]; rfl
 ·
  intro n h ih
  rw [lim_pos hB h, nv, ih, Int.toNat_natCast]
  exact Nat.mod_add_div n B
theorem wf_lim {B : Nat} (hB : 2 ≤ B) (n : Nat) : Wf B (lim B n) := by
 refine lim_ind (P := fun n => Wf B (lim B n)) hB ?_ ?_ n
 ·
  rw [lim_zero]; intro x hx; cases hx
 ·
  intro n h ih
  rw [lim_pos hB h]
  intro x hx
  rcases List.mem_cons.1 hx with rfl | hx
  ·
   exact ⟨Int.natCast_nonneg _, Int.ofNat_lt.2 (Nat.mod_lt _ (by omega))⟩
  ·
   exact ih x hx
theorem nv_append (B : Nat) (a b : List Int) : nv B (a ++ b) = nv B a + B ^ a.length * nv B b := by
 induction a with
 | nil => simp [nv]
 | cons x a ih =>
  rw [List.cons_append, nv, ih, nv, List.length_cons, Nat.pow_succ, Nat.mul_add, Nat.add_assoc, ← Nat.mul_assoc, Nat.mul_comm B (B ^ a.length)]
theorem nv_one (B : Nat) (x : Int) : nv B [x] = x.toNat := by simp [nv]
theorem Wf.nil (B : Nat) : Wf B [] := fun x hx => by cases hx
theorem Wf.append {B : Nat} {a b : List Int} (ha : Wf B a) (hb : Wf B b) : Wf B (a ++ b) := by
 intro x hx
 rcases List.mem_append.1 hx with h | h
 ·
  exact ha x h
 ·
  exact hb x h
theorem Wf.one {B : Nat} {x : Int} (h0 : 0 ≤ x) (h1 : x < (B : Int)) : Wf B [x] := by
 intro y hy
 rw [List.mem_singleton] at hy
 exact hy ▸ ⟨h0, h1⟩
theorem Wf.left {B : Nat} {a b : List Int} (h : Wf B (a ++ b)) : Wf B a := fun x hx => h x (List.mem_append_left _ hx)
theorem Wf.get {B : Nat} {l : List Int} (h : Wf B l) {i : Nat} (hi : i < l.length) : 0 ≤ l[i] ∧ l[i] < (B : Int) := h _ (List.getElem_mem hi)
theorem Wf.zeros {B : Nat} (hB : 0 < B) (n : Nat) : Wf B (List.replicate n 0) := by
 intro x hx
 rw [(List.mem_replicate.1 hx).2]; omega
theorem nv_zeros (B n : Nat) : nv B (List.replicate n 0) = 0 := by
 induction n with
 | zero => rfl
 | succ n ih => rw [List.replicate_succ, nv, ih]; simp
theorem nv_lt {B : Nat} (_hB : 2 ≤ B) {l : List Int} (h : Wf B l) : nv B l < B ^ l.length := by
 induction l with
 | nil => simp [nv]
 | cons x l ih =>
  have h1 := ih (fun y hy => h y (List.mem_cons_of_mem _ hy))
  have h2 := h x (List.mem_cons_self ..)
  rw [nv, List.length_cons, Nat.pow_succ, Nat.mul_comm (B ^ _)]
  have h3 : x.toNat < B := by omega
  calc x.toNat + B * nv B l < B + B * nv B l := by omega
   _ = B * (nv B l + 1) := by rw [Nat.mul_add, Nat.mul_one]; omega
   _ ≤ B * B ^ l.length := Nat.mul_le_mul_left _ h1
theorem lim_step {B v : Nat} {x : Int} (hB : 2 ≤ B) (h0 : 0 ≤ x) (h1 : x < (B : Int)) (hp : 0 < x ∨ 0 < v) : lim B (x.toNat + B * v) = x :: lim B v := by
 have hx : x.toNat < B := by omega
 have hBv : v ≤ B * v := Nat.le_mul_of_pos_left _ (by omega)
 rw [lim_pos hB (by omega), Nat.add_mul_mod_self_left, Nat.add_mul_div_left _ _ (by omega), Nat.div_eq_of_lt hx, Nat.zero_add, Nat.mod_eq_of_lt hx]
 congr 1
 exact Int.toNat_of_nonneg h0
theorem nv_pos {B : Nat} (hB : 2 ≤ B) (l : List Int) {x : Int} (hx : 0 < x) : 0 < nv B (l ++ [x]) := by
 rw [nv_append, nv_one]
 have := Nat.mul_pos (Nat.pow_pos (n := l.length) (show 0 < B by omega)) (show 0 < x.toNat by omega)
 omega
theorem lim_snoc {B : Nat} (hB : 2 ≤ B) {l : List Int} {x : Int} (hl : Wf B l) (h0 : 0 < x) (h1 : x < (B : Int)) : lim B (nv B (l ++ [x])) = l ++ [x] := by
 induction l with
 | nil =>
  have := lim_step (v := 0) hB (Int.le_of_lt h0) h1 (.inl h0)
  rw [Nat.mul_zero, lim_zero] at this
  rw [List.nil_append, nv_one]; exact this
 | cons y l ih =>
  have hy := hl y (List.mem_cons_self ..)
  rw [List.cons_append, nv, lim_step hB hy.1 hy.2 (.inr (nv_pos hB l h0)), ih (fun z hz => hl z (List.mem_cons_of_mem _ hz))]
theorem nv_snoc_zero (B : Nat) (l : List Int) : nv B (l ++ [0]) = nv B l := by
 rw [nv_append, nv_one]; simp
theorem lim_len {B : Nat} (hB : 2 ≤ B) : ∀ (s n : Nat), n < B ^ s → (lim B n).length ≤ s := by
 intro s
 induction s with
 | zero =>
  intro n h
  have : n = 0 := by simpa using h
  rw [this, lim_zero]; simp
 | succ s ih =>
  intro n h
  rcases Nat.eq_zero_or_pos n with rfl | hn
  ·
   rw [lim_zero]; simp
  ·
   rw [lim_pos hB hn, List.length_cons]
   have := ih (n / B) (by rw [Nat.pow_succ] at h; exact Nat.div_lt_of_lt_mul (by rw [Nat.mul_comm]; exact h))
   omega
theorem lim_le {B : Nat} (hB : 2 ≤ B) (n : Nat) : n < B ^ (lim B n).length := by
 have := nv_lt hB (wf_lim hB n)
 rwa [nv_lim hB] at this
theorem lim_last {B : Nat} (hB : 2 ≤ B) : ∀ n, 0 < n → ∃ l x, lim B n = l ++ [x] ∧ 0 < x ∧ x < (B : Int) := by
 intro n
 refine lim_ind (P := fun n => 0 < n → ∃ l x, lim B n = l ++ [x] ∧ 0 < x ∧ x < (B : Int)) hB (fun h => by omega) ?_ n
 intro n h ih _
 rw [lim_pos hB h]
 rcases Nat.eq_zero_or_pos (n / B) with h0 | h0
 ·
  rw [h0, lim_zero]
  refine ⟨[], _, rfl, ?_, Int.ofNat_lt.2 (Nat.mod_lt _ (by omega))⟩
  have : n < B := by
   rcases Nat.lt_or_ge n B with h1 | h1
   ·
    exact h1
   ·
    have := Nat.div_pos h1 (by omega); omega
  rw [Nat.mod_eq_of_lt this]; omega
 ·
  obtain ⟨l, x, e, h1, h2⟩ := ih h0
  exact ⟨_ :: l, x, by rw [e]; rfl, h1, h2⟩
theorem snoc_cases {α : Type} (l : List α) : l = [] ∨ ∃ m x, l = m ++ [x] := by
 rcases List.eq_nil_or_concat l with h | ⟨m, x, h⟩
 ·
  exact .inl h
 ·
  exact .inr ⟨m, x, by simpa using h⟩
theorem nv_take_succ (B : Nat) (l : List Int) (i : Nat) (h : i < l.length) : nv B (l.take (i + 1)) = nv B (l.take i) + B ^ i * l[i].toNat := by
 rw [List.take_succ_eq_append_getElem h, nv_append, nv_one, List.length_take, Nat.min_eq_left (Nat.le_of_lt h)]
theorem nv_drop (B : Nat) (l : List Int) (i : Nat) (h : i < l.length) : nv B (l.drop i) = l[i].toNat + B * nv B (l.drop (i + 1)) := by
 rw [List.drop_eq_getElem_cons h, nv]
theorem take_set_succ {α : Type} (l : List α) (i : Nat) (v : α) (h : i < l.length) : (l.set i v).take (i + 1) = l.take i ++ [v] := by
 rw [List.take_succ_eq_append_getElem (by rw [List.length_set]; exact h), List.getElem_set_self, List.take_set_of_le (Nat.le_refl i)]
end Go.Proofs.YtjlnfnfdibfniaaDoor.Pl
namespace Go.Proofs
open Go.Shelf
def Tryd.lays128_ren : Go.Shelf.Ren := ⟨fun | 128 => 85 | n => n, fun | 51 => 102 | 3 => 3 | 4 => 4 | 46 => 65 | 5 => 5 | 9 => 9 | n => n, fun | n => n⟩
theorem Tryd.lays128 : Go.Proofs.Lays.n128 Tryd.prog Tryd.lays128_ren := {
 mixed := by kernel_rfl
 f128 := Tryd.func85.trans (congrArg some (by kernel_rfl))
 t3 := Tryd.underlying3
 a3 := Tryd.isAgg3
 z3 := Tryd.sizeOf3
 v3 := Tryd.zeroValue3
 t4 := Tryd.underlying4
 a4 := Tryd.isAgg4
 z4 := Tryd.sizeOf4
 v4 := Tryd.zeroValue4
 t5 := Tryd.underlying5
 a5 := Tryd.isAgg5
 z5 := Tryd.sizeOf5
 v5 := Tryd.zeroValue5
 t9 := Tryd.underlying9
 a9 := Tryd.isAgg9
 z9 := Tryd.sizeOf9
 v9 := Tryd.zeroValue9
 t46 := Tryd.underlying65
 a46 := Tryd.isAgg65
 z46 := Tryd.sizeOf65
 v46 := Tryd.zeroValue65
 t51 := Tryd.underlying102
 a51 := Tryd.isAgg102
 z51 := Tryd.sizeOf102
 v51 := Tryd.zeroValue102 }
theorem Tryd.bits_Len32 (x : Int) (w : World) (h0 : 0 ≤ x) (h1 : x ≤ 4294967295) :
  Calls Tryd.prog 85 #[.int .u32 x] w fun e w' => e = .returned (.int .i64 (Lib.bitLen x.toNat)) ∧ w' = w := Any.bits_Len32 Tryd.lays128 x w h0 h1
def Tryd.lays129_ren : Go.Shelf.Ren := ⟨fun | 129 => 119 | n => n, fun | 53 => 25 | 3 => 3 | 4 => 4 | 46 => 65 | 5 => 5 | 9 => 9 | n => n, fun | n => n⟩
theorem Tryd.lays129 : Go.Proofs.Lays.n129 Tryd.prog Tryd.lays129_ren := {
 mixed := by kernel_rfl
 f129 := Tryd.func119.trans (congrArg some (by kernel_rfl))
 t3 := Tryd.underlying3
 a3 := Tryd.isAgg3
 z3 := Tryd.sizeOf3
 v3 := Tryd.zeroValue3
 t4 := Tryd.underlying4
 a4 := Tryd.isAgg4
 z4 := Tryd.sizeOf4
 v4 := Tryd.zeroValue4
 t5 := Tryd.underlying5
 a5 := Tryd.isAgg5
 z5 := Tryd.sizeOf5
 v5 := Tryd.zeroValue5
 t9 := Tryd.underlying9
 a9 := Tryd.isAgg9
 z9 := Tryd.sizeOf9
 v9 := Tryd.zeroValue9
 t46 := Tryd.underlying65
 a46 := Tryd.isAgg65
 z46 := Tryd.sizeOf65
 v46 := Tryd.zeroValue65
 t53 := Tryd.underlying25
 a53 := Tryd.isAgg25
 z53 := Tryd.sizeOf25
 v53 := Tryd.zeroValue25 }
theorem Tryd.bits_Len64 (x : Int) (w : World) (h0 : 0 ≤ x) (h1 : x ≤ 18446744073709551615) :
  Calls Tryd.prog 119 #[.int .u64 x] w fun e w' => e = .returned (.int .i64 (Lib.bitLen x.toNat)) ∧ w' = w := Any.bits_Len64 Tryd.lays129 x w h0 h1
def Tryd.lays105_ren : Go.Shelf.Ren := ⟨fun | 105 => 62 | 212 => 95 | 99 => 96 | 165 => 97 | 166 => 98 | 170 => 99 | 169 => 100 | 263 => 111 | 264 => 112 | 206 => 113 | 240 => 114 | 241 => 115 | 276 => 125 | 277 => 126 | n => n, fun | 9 => 9 | 3 => 3 | 4 => 4 | 20 => 20 | 0 => 0 | 46 => 65 | 109 => 112 | 5 => 5 | 72 => 117 | 76 => 121 | 51 => 102 | 146 => 135 | 53 => 25 | 148 => 137 | 70 => 115 | 37 => 43 | 75 => 120 | 127 => 139 | 164 => 144 | 80 => 123 | n => n, fun | n => n⟩
theorem Tryd.lays105 : Go.Proofs.Lays.n105 Tryd.prog Tryd.lays105_ren := {
 mixed := by kernel_rfl
 f99 := Tryd.func96.trans (congrArg some (by kernel_rfl))
 f105 := Tryd.func62.trans (congrArg some (by kernel_rfl))
 f165 := Tryd.func97.trans (congrArg some (by kernel_rfl))
 f166 := Tryd.func98.trans (congrArg some (by kernel_rfl))
 f169 := Tryd.func100.trans (congrArg some (by kernel_rfl))
 f170 := Tryd.func99.trans (congrArg some (by kernel_rfl))
 f206 := Tryd.func113.trans (congrArg some (by kernel_rfl))
 f212 := Tryd.func95.trans (congrArg some (by kernel_rfl))
 f240 := Tryd.func114.trans (congrArg some (by kernel_rfl))
 f241 := Tryd.func115.trans (congrArg some (by kernel_rfl))
 f263 := Tryd.func111.trans (congrArg some (by kernel_rfl))
 f264 := Tryd.func112.trans (congrArg some (by kernel_rfl))
 f276 := Tryd.func125.trans (congrArg some (by kernel_rfl))
 f277 := Tryd.func126.trans (congrArg some (by kernel_rfl))
 t0 := Tryd.underlying0
 a0 := Tryd.isAgg0
 z0 := Tryd.sizeOf0
 v0 := Tryd.zeroValue0
 t3 := Tryd.underlying3
 a3 := Tryd.isAgg3
 z3 := Tryd.sizeOf3
 v3 := Tryd.zeroValue3
 t4 := Tryd.underlying4
 a4 := Tryd.isAgg4
 z4 := Tryd.sizeOf4
 v4 := Tryd.zeroValue4
 t5 := Tryd.underlying5
 a5 := Tryd.isAgg5
 z5 := Tryd.sizeOf5
 v5 := Tryd.zeroValue5
 t9 := Tryd.underlying9
 a9 := Tryd.isAgg9
 z9 := Tryd.sizeOf9
 v9 := Tryd.zeroValue9
 t20 := Tryd.underlying20
 a20 := Tryd.isAgg20
 z20 := Tryd.sizeOf20
 v20 := Tryd.zeroValue20
 t37 := Tryd.underlying43
 a37 := Tryd.isAgg43
 z37 := Tryd.sizeOf43
 v37 := Tryd.zeroValue43
 t46 := Tryd.underlying65
 a46 := Tryd.isAgg65
 z46 := Tryd.sizeOf65
 v46 := Tryd.zeroValue65
 t51 := Tryd.underlying102
 a51 := Tryd.isAgg102
 z51 := Tryd.sizeOf102
 v51 := Tryd.zeroValue102
 t53 := Tryd.underlying25
 a53 := Tryd.isAgg25
 z53 := Tryd.sizeOf25
 v53 := Tryd.zeroValue25
 t70 := Tryd.underlying115
 a70 := Tryd.isAgg115
 z70 := Tryd.sizeOf115
 v70 := Tryd.zeroValue115
 t72 := Tryd.underlying117
 a72 := Tryd.isAgg117
 z72 := Tryd.sizeOf117
 v72 := Tryd.zeroValue117
 t75 := Tryd.underlying120
 a75 := Tryd.isAgg120
 z75 := Tryd.sizeOf120
 v75 := Tryd.zeroValue120
 t76 := Tryd.underlying121
 a76 := Tryd.isAgg121
 z76 := Tryd.sizeOf121
 v76 := Tryd.zeroValue121
 t109 := Tryd.underlying112
 a109 := Tryd.isAgg112
 z109 := Tryd.sizeOf112
 v109 := Tryd.zeroValue112
 t127 := Tryd.underlying139
 a127 := Tryd.isAgg139
 z127 := Tryd.sizeOf139
 v127 := Tryd.zeroValue139
 t146 := Tryd.underlying135
 a146 := Tryd.isAgg135
 z146 := Tryd.sizeOf135
 v146 := Tryd.zeroValue135
 t148 := Tryd.underlying137
 a148 := Tryd.isAgg137
 z148 := Tryd.sizeOf137
 v148 := Tryd.zeroValue137
 t164 := Tryd.underlying144
 a164 := Tryd.isAgg144
 z164 := Tryd.sizeOf144
 v164 := Tryd.zeroValue144 }
theorem Tryd.Builder_Extra_105 : Builder.Extra Tryd.prog Tryd.lays105_ren := {
 sizeBuilder := by kernel_rfl
 liesBuilder := by kernel_rfl
 t5 := Tryd.underlying5
 a5 := Tryd.isAgg5
 z5 := Tryd.sizeOf5
 v5 := Tryd.zeroValue5
 infoByte := by kernel_rfl
 cellsByte := by kernel_rfl
 sizeByte := by kernel_rfl
 neB5 := by decide }
open Go.RowKit Go.Lib in
theorem Tryd.strings_Repeat (s : ByteArray) (c : Nat) (w : World) (hc : c ≤ 9223372036854775807) (hlen : s.size * c ≤ 140737488355328) :
  Calls Tryd.prog 62 #[.string s, .int .i64 c] w fun e w' => e = .returned (.string ⟨(Lib.repeatL s.data.toList c).toArray⟩) ∧ Below w.heap.size w w' := Any.strings_Repeat Tryd.lays105 Tryd.Builder_Extra_105 s c w hc hlen
end Go.Proofs
namespace Go.Proofs.YtjlnfnfdibfniaaDoor.Hd
open Go.RowKit Go.Proofs.YtjlnfnfdibfniaaDoorW.PrintWords Go.Proofs.YtjlnfnfdibfniaaDoorW.PrintLast
def bits_Len32.f (a0 : Int) : Option Int := if 0 ≤ a0 ∧ a0 ≤ 4294967295 then some (Lib.bitLen a0.toNat : Int) else none
theorem bits_Len32.calls (a0 : Int) (r : Int) (w : World) (h : bits_Len32.f a0 = some r) :
  Calls Tryd.prog 85 #[.int .u32 a0] w fun e w' => e = .returned (.int .i64 r) ∧ Drawn0 w w' := by
 unfold bits_Len32.f at h
 split at h
 ·
  rename_i hb
  cases h
  refine (Tryd.bits_Len32 a0 w hb.1 hb.2).mono ?_
  rintro e w' ⟨rfl, rfl⟩
  exact ⟨rfl, Drawn0.refl _⟩
 ·
  cases h
def bits_Len64.f (a0 : Int) : Option Int := if 0 ≤ a0 ∧ a0 ≤ 18446744073709551615 then some (Lib.bitLen a0.toNat : Int) else none
theorem bits_Len64.calls (a0 : Int) (r : Int) (w : World) (h : bits_Len64.f a0 = some r) :
  Calls Tryd.prog 119 #[.int .u64 a0] w fun e w' => e = .returned (.int .i64 r) ∧ Drawn0 w w' := by
 unfold bits_Len64.f at h
 split at h
 ·
  rename_i hb
  cases h
  refine (Tryd.bits_Len64 a0 w hb.1 hb.2).mono ?_
  rintro e w' ⟨rfl, rfl⟩
  exact ⟨rfl, Drawn0.refl _⟩
 ·
  cases h
def strings_Repeat.f (a0 : ByteArray) (a1 : Int) : Option ByteArray :=
 if 0 ≤ a1 ∧ a1 ≤ 9223372036854775807 ∧ a0.size * a1.toNat ≤ 140737488355328 then some ⟨(Lib.repeatL a0.data.toList a1.toNat).toArray⟩ else none
theorem strings_Repeat.calls (a0 : ByteArray) (a1 : Int) (r : ByteArray) (w : World) (h : strings_Repeat.f a0 a1 = some r) :
  Calls Tryd.prog 62 #[.string a0, .int .i64 a1] w fun e w' => e = .returned (.string r) ∧ Below w.heap.size w w' := by
 unfold strings_Repeat.f at h
 split at h
 ·
  rename_i hb
  cases h
  obtain ⟨n, rfl⟩ := Int.eq_ofNat_of_zero_le hb.1
  exact Tryd.strings_Repeat a0 n w (by omega) (by simpa using hb.2.2)
 ·
  cases h
def ceilB (b : Nat) : Option Nat :=
 match FloatKind.f64.decode b with
 | .nan .. => none
 | d => some (FloatKind.f64.encode (d.integral .up))
theorem ext83 (b r : Nat) (h : ceilB b = some r) (w : World) : (callFunc 83 #[.float .f64 b]).run Tryd.prog w = .ok (.value (.float .f64 r)) w := by
 rw [run_callFunc_extern (e := Extern.MathFloor.toIntegral "math.archCeil" .up) Tryd.func83 (by kernel_rfl) (by kernel_rfl) (by kernel_rfl) (by kernel_rfl)]
 unfold ceilB at h
 have : (Extern.MathFloor.toIntegral "math.archCeil" .up #[.float .f64 b]).run Tryd.prog w = .ok (.float .f64 r) w := by
  change Sem.run Tryd.prog (match FloatKind.f64.decode b with
   | .nan s t =>
    if FloatKind.f64.format.quiet t = t then pure (Value.float .f64 b) else do
     let kept ← choose (.extern "math.Floor,Ceil,Trunc,RoundToEven.signallingNaN kept" 2)
     pure (Value.float .f64 (if kept == 1 then b else FloatKind.f64.encode (.nan s (FloatKind.f64.format.quiet t))))
   | d => pure (Value.float .f64 (FloatKind.f64.encode (d.integral .up)))) w = _
  cases hd : FloatKind.f64.decode b with
  | nan s t => rw [hd] at h; cases h
  | infinity s => rw [hd] at h; cases h; rfl
  | number s m e => rw [hd] at h; cases h; rfl
 rw [this]
 rfl
def math_Ceil.f (a0 : Nat) : Option Nat := ceilB a0
set_option maxRecDepth 100000 in
theorem math_Ceil.calls (a0 : Nat) (r : Nat) (w : World) (h : math_Ceil.f a0 = some r) :
  Calls Tryd.prog 50 #[.float .f64 a0] w fun e w' => e = .returned (.float .f64 r) ∧ Drawn0 w w' := by
 have h83 := ext83 a0 r h
 clear h
 go_enter Tryd.func50, Tryd.ntmps50
 go_wp2
 go_ret
 exact ⟨rfl, Drawn0.refl _⟩
end Go.Proofs.YtjlnfnfdibfniaaDoor.Hd
namespace Go.Proofs.YtjlnfnfdibfniaaDoor.F
open Go.RowKit Go.Proofs.YtjlnfnfdibfniaaDoorW.PrintWords Go.Proofs.YtjlnfnfdibfniaaDoorW.PrintLast Go.Proofs.YtjlnfnfdibfniaaDoorW.PrintMore
attribute [local go_sem] max2_int min2_int max_two min_two max_three min_three max_four min_four
set_option linter.unusedVariables false
set_option linter.unusedSimpArgs false
def num_nat_size.f (l0 : List Int) : Option (Int) := if (l0.length : Int) = 0 then (some 0) else (if 0 ≤ (wrap64 ((l0.length : Int) - 1)) then (if (wrap64 ((l0.length : Int) - 1)) < (l0.length : Int) then ((Hd.bits_Len32.f (rd l0 (wrap64 ((l0.length : Int) - 1)))).bind fun t128 => (some (wrap64 ((wrap64 (32 * (wrap64 ((l0.length : Int) - 1)))) + t128)))) else (none)) else (none))
set_option maxHeartbeats 8000000 in
set_option maxRecDepth 100000 in
theorem num_nat_size.calls (A0 : Option Addr) (c0 : Nat) (l0 : List Int) (r : Int) (w : World) (hr0 : Kd.C (Kd.int .u32) w A0 l0.length l0) (hc0 : l0.length ≤ c0) (h : num_nat_size.f l0 = some r) :
  Calls Tryd.prog 51 #[.slice A0 l0.length c0] w fun e w' => e = .returned (.int .i64 r) ∧ Drawn0 w w' := by
 have HR0 := Aside0.mk hr0
 have HC0 := Aside0.mk hc0
 clear hr0 hc0
 have H : (if (l0.length : Int) = 0 then (some 0) else (if 0 ≤ (wrap64 ((l0.length : Int) - 1)) then (if (wrap64 ((l0.length : Int) - 1)) < (l0.length : Int) then ((Hd.bits_Len32.f (rd l0 (wrap64 ((l0.length : Int) - 1)))).bind fun t128 => (some (wrap64 ((wrap64 (32 * (wrap64 ((l0.length : Int) - 1)))) + t128)))) else (none)) else (none))) = some r := h
 clear h
 by_cases c2 : (l0.length : Int) = 0
 ·
  rw [if_pos c2] at H
  have c2b0 : ((l0.length : Int) == 0) = true := beq_iff_eq.mpr c2
  have c2b1 : ((l0.length : Int) != 0) = false := bne_eq_false_iff_eq.mpr c2
  clear c2
  obtain rfl := Option.some.inj H
  go_enter Tryd.func51, Tryd.ntmps51
  go_wp2
  go_ret
  exact ⟨by first | rfl | (simp; done) | (simp [*]; done), by repeat (first | exact Drawn0.refl _ | apply Drawn0.step)⟩
 rw [if_neg c2] at H
 have c2b0 : ((l0.length : Int) == 0) = false := beq_eq_false_iff_ne.mpr c2
 have c2b1 : ((l0.length : Int) != 0) = true := bne_iff_ne.mpr c2
 have c2b2 : ¬ (l0 = []) := fun h_ => c2 (by rw [h_]; rfl)
 obtain ⟨ji3, hji3⟩ : ∃ j_ : Int, (wrap64 ((l0.length : Int) - 1)) = j_ := ⟨_, rfl⟩
 replace H : (if 0 ≤ (ji3) then (if (ji3) < (l0.length : Int) then ((Hd.bits_Len32.f (rd l0 (ji3))).bind fun t128 => (some (wrap64 ((wrap64 (32 * (ji3))) + t128)))) else (none)) else (none)) = some r := by first | (rw [hji3] at H; exact H) | (simp only [hji3] at H ⊢; exact H)
 have hji3w : (IntKind.i64.wrap ((l0.length : Int) - 1)) = ji3 := (i64_w _).trans hji3
 by_cases c4 : 0 ≤ (ji3)
 ·
  rw [if_pos c4] at H
  have c4b0 : decide (0 ≤ (ji3)) = true := decide_eq_true c4
  clear c4
  by_cases c5 : (ji3) < (l0.length : Int)
  ·
   rw [if_pos c5] at H
   have c5b0 : decide ((ji3) < (l0.length : Int)) = true := decide_eq_true c5
   clear c5
   replace H := Option.bind_eq_some_iff.mp H
   obtain ⟨t128, A60, H⟩ := H
   have A6 := Aside0.mk A60
   clear A60
   obtain rfl := Option.some.inj H
   have p127 : 0 ≤ ((ji3) : Int) := of_decide_eq_true (by first | (with_reducible assumption) | assumption)
   have q127 : (ji3) < (l0.length : Int) := of_decide_eq_true (by first | (with_reducible assumption) | assumption)
   obtain ⟨ad127, e127, hx127_0⟩ := Kd.at_int HR0.out (ji3) p127 q127
   cases e127
   replace p127 := eq_true p127
   replace q127 := eq_true q127
   go_enter Tryd.func51, Tryd.ntmps51
   go_wp2_with (first | ((with_reducible refine gate_callee (f := 85) rfl ?_); refine goesL_ (some 16) rfl rfl Tryd.func85 (by kernel_rfl) rfl #[.int .u32 (rd l0 (ji3))] rfl (by (try simp only [List.map_toArray, List.map_cons, List.map_nil]); first | done | (simp only [hji3]; rfl) | rfl | (simp only [List.length_drop, List.length_take]; rfl)) ?_; (with_reducible refine (Hd.bits_Len32.calls (rd l0 (ji3)) t128 _ A6.out).mono ?_); rintro e w' ⟨rfl, ⟨nd, rfl⟩⟩; refine ⟨_, rfl, ?_⟩))
   go_ret
   exact ⟨by first | rfl | (simp; done) | (simp only [← hji3] <;> (first | rfl | simp)) | (simp [*]; done), by repeat (first | exact Drawn0.refl _ | apply Drawn0.step)⟩
  rw [if_neg c5] at H
  exact absurd H (by simp)
 rw [if_neg c4] at H
 exact absurd H (by simp)
mutual
def num_nearest.j0 : Nat → Int → Int → Int → Bool → Option (Int)
 | 0, _, _, _, _ => none
 | k + 1, x1, x7, x8, x46 => if x46 = true then (num_nearest.j1 k x1 x7 (IntKind.u64.wrap (x8 + 1))) else (num_nearest.j1 k x1 x7 x8)
def num_nearest.j1 : Nat → Int → Int → Int → Option (Int)
 | 0, _, _, _ => none
 | k + 1, x1, x7, x8 => if x8 = 9007199254740992 then (num_nearest.j2 k (wrap64 ((wrap64 (x1 + x7)) + 1)) 4503599627370496) else (num_nearest.j2 k (wrap64 (x1 + x7)) x8)
def num_nearest.j2 : Nat → Int → Int → Option (Int)
 | 0, _, _ => none
 | k + 1, x1, x8 => if x1 > 971 then (some 9218868437227405312) else (if x8 < 4503599627370496 then (some x8) else (some (Go.bits .or .u64 (IntKind.u64.wrap ((IntKind.u64.wrap (wrap64 ((wrap64 (x1 - (-1074))) + 1))) * 4503599627370496)) (Go.bits .and .u64 x8 4503599627370495))))
end
def num_nearest.f (k : Nat) (a0 : Int) (a1 : Int) (a2 : Bool) : Option (Int) := (Hd.bits_Len64.f a0).bind fun t568 => (if (mx (wrap64 ((wrap64 (t568 - 52)) - 1)) (wrap64 ((-1074) - a1))) > 63 then (some 0) else (if 0 ≤ (mx (wrap64 ((wrap64 (t568 - 52)) - 1)) (wrap64 ((-1074) - a1))) then (if 0 ≤ (wrap64 ((mx (wrap64 ((wrap64 (t568 - 52)) - 1)) (wrap64 ((-1074) - a1))) - 1)) then (if (Go.bits .and .u64 a0 (IntKind.u64.wrap ((shl .u64 1 (mx (wrap64 ((wrap64 (t568 - 52)) - 1)) (wrap64 ((-1074) - a1)))) - 1))) > (shl .u64 1 (wrap64 ((mx (wrap64 ((wrap64 (t568 - 52)) - 1)) (wrap64 ((-1074) - a1))) - 1))) then (num_nearest.j0 k a1 (mx (wrap64 ((wrap64 (t568 - 52)) - 1)) (wrap64 ((-1074) - a1))) (shr .u64 a0 (mx (wrap64 ((wrap64 (t568 - 52)) - 1)) (wrap64 ((-1074) - a1)))) true) else (if (Go.bits .and .u64 a0 (IntKind.u64.wrap ((shl .u64 1 (mx (wrap64 ((wrap64 (t568 - 52)) - 1)) (wrap64 ((-1074) - a1)))) - 1))) = (shl .u64 1 (wrap64 ((mx (wrap64 ((wrap64 (t568 - 52)) - 1)) (wrap64 ((-1074) - a1))) - 1))) then (if a2 = true then (num_nearest.j0 k a1 (mx (wrap64 ((wrap64 (t568 - 52)) - 1)) (wrap64 ((-1074) - a1))) (shr .u64 a0 (mx (wrap64 ((wrap64 (t568 - 52)) - 1)) (wrap64 ((-1074) - a1)))) true) else (num_nearest.j0 k a1 (mx (wrap64 ((wrap64 (t568 - 52)) - 1)) (wrap64 ((-1074) - a1))) (shr .u64 a0 (mx (wrap64 ((wrap64 (t568 - 52)) - 1)) (wrap64 ((-1074) - a1)))) ((Int.tmod (shr .u64 a0 (mx (wrap64 ((wrap64 (t568 - 52)) - 1)) (wrap64 ((-1074) - a1)))) 2) == 1))) else (num_nearest.j0 k a1 (mx (wrap64 ((wrap64 (t568 - 52)) - 1)) (wrap64 ((-1074) - a1))) (shr .u64 a0 (mx (wrap64 ((wrap64 (t568 - 52)) - 1)) (wrap64 ((-1074) - a1)))) false))) else (none)) else (none)))
theorem num_nearest.mono_l : ∀ k, (∀ y0 y1 y2 y3, LeO (num_nearest.j0 k y0 y1 y2 y3) (num_nearest.j0 (k + 1) y0 y1 y2 y3)) ∧ (∀ y0 y1 y2, LeO (num_nearest.j1 k y0 y1 y2) (num_nearest.j1 (k + 1) y0 y1 y2)) ∧ (∀ y0 y1, LeO (num_nearest.j2 k y0 y1) (num_nearest.j2 (k + 1) y0 y1))
 | 0 => ⟨fun _ _ _ _ r h => by simp [num_nearest.j0] at h, fun _ _ _ r h => by simp [num_nearest.j1] at h, fun _ _ r h => by simp [num_nearest.j2] at h⟩
 | k + 1 => by
  obtain ⟨ih0, ih1, ih2⟩ := num_nearest.mono_l k
  refine ⟨?_, ?_, ?_⟩
  ·
   intro y0 y1 y2 y3
   unfold num_nearest.j0
   repeat' (with_reducible first | exact ih0 _ _ _ _ | exact ih1 _ _ _ | exact ih2 _ _ | exact LeO.refl _ | exact LeO.none _ | refine LeO.ite ?_ ?_ | refine LeO.bind ?_ (fun _ => ?_))
  ·
   intro y0 y1 y2
   unfold num_nearest.j1
   repeat' (with_reducible first | exact ih0 _ _ _ _ | exact ih1 _ _ _ | exact ih2 _ _ | exact LeO.refl _ | exact LeO.none _ | refine LeO.ite ?_ ?_ | refine LeO.bind ?_ (fun _ => ?_))
  intro y0 y1
  unfold num_nearest.j2
  repeat' (with_reducible first | exact ih0 _ _ _ _ | exact ih1 _ _ _ | exact ih2 _ _ | exact LeO.refl _ | exact LeO.none _ | refine LeO.ite ?_ ?_ | refine LeO.bind ?_ (fun _ => ?_))
theorem num_nearest.mono : ∀ a0 a1 a2 k, LeO (num_nearest.f k a0 a1 a2) (num_nearest.f (k + 1) a0 a1 a2) := by
 intro a0 a1 a2 k
 obtain ⟨ih0, ih1, ih2⟩ := num_nearest.mono_l k
 unfold num_nearest.f
 repeat' (with_reducible first | exact ih0 _ _ _ _ | exact ih1 _ _ _ | exact ih2 _ _ | exact LeO.refl _ | exact LeO.none _ | refine LeO.ite ?_ ?_ | refine LeO.bind ?_ (fun _ => ?_))
set_option maxHeartbeats 8000000 in
set_option maxRecDepth 100000 in
theorem num_nearest.calls (k : Nat) (a0 : Int) (a1 : Int) (a2 : Bool) (r : Int) (w : World) (h : num_nearest.f k a0 a1 a2 = some r) :
  Calls Tryd.prog 102 #[.int .u64 a0, .int .i64 a1, .bool a2] w fun e w' => e = .returned (.int .u64 r) ∧ Below w.heap.size w w' := by
 have HB := Aside0.mk (Below.refl w.heap.size w)
 have H : ((Hd.bits_Len64.f a0).bind fun t568 => (if (mx (wrap64 ((wrap64 (t568 - 52)) - 1)) (wrap64 ((-1074) - a1))) > 63 then (some 0) else (if 0 ≤ (mx (wrap64 ((wrap64 (t568 - 52)) - 1)) (wrap64 ((-1074) - a1))) then (if 0 ≤ (wrap64 ((mx (wrap64 ((wrap64 (t568 - 52)) - 1)) (wrap64 ((-1074) - a1))) - 1)) then (if (Go.bits .and .u64 a0 (IntKind.u64.wrap ((shl .u64 1 (mx (wrap64 ((wrap64 (t568 - 52)) - 1)) (wrap64 ((-1074) - a1)))) - 1))) > (shl .u64 1 (wrap64 ((mx (wrap64 ((wrap64 (t568 - 52)) - 1)) (wrap64 ((-1074) - a1))) - 1))) then (num_nearest.j0 k a1 (mx (wrap64 ((wrap64 (t568 - 52)) - 1)) (wrap64 ((-1074) - a1))) (shr .u64 a0 (mx (wrap64 ((wrap64 (t568 - 52)) - 1)) (wrap64 ((-1074) - a1)))) true) else (if (Go.bits .and .u64 a0 (IntKind.u64.wrap ((shl .u64 1 (mx (wrap64 ((wrap64 (t568 - 52)) - 1)) (wrap64 ((-1074) - a1)))) - 1))) = (shl .u64 1 (wrap64 ((mx (wrap64 ((wrap64 (t568 - 52)) - 1)) (wrap64 ((-1074) - a1))) - 1))) then (if a2 = true then (num_nearest.j0 k a1 (mx (wrap64 ((wrap64 (t568 - 52)) - 1)) (wrap64 ((-1074) - a1))) (shr .u64 a0 (mx (wrap64 ((wrap64 (t568 - 52)) - 1)) (wrap64 ((-1074) - a1)))) true) else (num_nearest.j0 k a1 (mx (wrap64 ((wrap64 (t568 - 52)) - 1)) (wrap64 ((-1074) - a1))) (shr .u64 a0 (mx (wrap64 ((wrap64 (t568 - 52)) - 1)) (wrap64 ((-1074) - a1)))) ((Int.tmod (shr .u64 a0 (mx (wrap64 ((wrap64 (t568 - 52)) - 1)) (wrap64 ((-1074) - a1)))) 2) == 1))) else (num_nearest.j0 k a1 (mx (wrap64 ((wrap64 (t568 - 52)) - 1)) (wrap64 ((-1074) - a1))) (shr .u64 a0 (mx (wrap64 ((wrap64 (t568 - 52)) - 1)) (wrap64 ((-1074) - a1)))) false))) else (none)) else (none)))) = some r := h
 clear h
 replace H := Option.bind_eq_some_iff.mp H
 obtain ⟨t568, A40, H⟩ := H
 have A4 := Aside0.mk A40
 clear A40
 obtain ⟨ji5, hji5⟩ : ∃ j_ : Int, (mx (wrap64 ((wrap64 (t568 - 52)) - 1)) (wrap64 ((-1074) - a1))) = j_ := ⟨_, rfl⟩
 replace H : (if (ji5) > 63 then (some 0) else (if 0 ≤ (ji5) then (if 0 ≤ (wrap64 ((ji5) - 1)) then (if (Go.bits .and .u64 a0 (IntKind.u64.wrap ((shl .u64 1 (ji5)) - 1))) > (shl .u64 1 (wrap64 ((ji5) - 1))) then (num_nearest.j0 k a1 ji5 (shr .u64 a0 (ji5)) true) else (if (Go.bits .and .u64 a0 (IntKind.u64.wrap ((shl .u64 1 (ji5)) - 1))) = (shl .u64 1 (wrap64 ((ji5) - 1))) then (if a2 = true then (num_nearest.j0 k a1 ji5 (shr .u64 a0 (ji5)) true) else (num_nearest.j0 k a1 ji5 (shr .u64 a0 (ji5)) ((Int.tmod (shr .u64 a0 (ji5)) 2) == 1))) else (num_nearest.j0 k a1 ji5 (shr .u64 a0 (ji5)) false))) else (none)) else (none))) = some r := by first | (rw [hji5] at H; exact H) | (simp only [hji5] at H ⊢; exact H)
 (try rw [hji5] at A4)
 have hji5_ : (if (wrap64 ((wrap64 (t568 - 52)) - 1)) < (wrap64 ((-1074) - a1)) then (wrap64 ((-1074) - a1)) else (wrap64 ((wrap64 (t568 - 52)) - 1))) = ji5 := hji5
 by_cases c6 : (ji5) > 63
 ·
  rw [if_pos c6] at H
  have c6b0 : decide (63 < (ji5)) = true := decide_eq_true c6
  clear c6
  obtain rfl := Option.some.inj H
  go_enter Tryd.func102, Tryd.ntmps102
  go_wp2_with (first | (go_at_call 119; (with_reducible refine (Hd.bits_Len64.calls a0 t568 _ A4.out).mono ?_); rintro e w' ⟨rfl, ⟨nd, rfl⟩⟩; (try first | exact ⟨rfl, _, World.drewN_drewN _ _ _⟩ | exact ⟨rfl, _, Eq.trans (World.drewN_drewN _ _ _) (congrArg (World.drewN _) (Nat.add_assoc _ _ _))⟩)))
  repeat (go_quiet (first | (go_at_call 119; (with_reducible refine (Hd.bits_Len64.calls a0 t568 _ A4.out).mono ?_); rintro e w' ⟨rfl, ⟨nd, rfl⟩⟩; (try first | exact ⟨rfl, _, World.drewN_drewN _ _ _⟩ | exact ⟨rfl, _, Eq.trans (World.drewN_drewN _ _ _) (congrArg (World.drewN _) (Nat.add_assoc _ _ _))⟩))); try go_wp2_with (first | (go_at_call 119; (with_reducible refine (Hd.bits_Len64.calls a0 t568 _ A4.out).mono ?_); rintro e w' ⟨rfl, ⟨nd, rfl⟩⟩; (try first | exact ⟨rfl, _, World.drewN_drewN _ _ _⟩ | exact ⟨rfl, _, Eq.trans (World.drewN_drewN _ _ _) (congrArg (World.drewN _) (Nat.add_assoc _ _ _))⟩))))
  go_ret
  exact ex (lk HB)
 rw [if_neg c6] at H
 have c6b0 : decide (63 < (ji5)) = false := decide_eq_false c6
 clear c6
 by_cases c7 : 0 ≤ (ji5)
 ·
  rw [if_pos c7] at H
  have c7b0 := eq_true c7
  have c7b1 : decide (0 ≤ (ji5)) = true := decide_eq_true c7
  clear c7
  obtain ⟨ji8, hji8⟩ : ∃ j_ : Int, (shr .u64 a0 (ji5)) = j_ := ⟨_, rfl⟩
  replace H : (if 0 ≤ (wrap64 ((ji5) - 1)) then (if (Go.bits .and .u64 a0 (IntKind.u64.wrap ((shl .u64 1 (ji5)) - 1))) > (shl .u64 1 (wrap64 ((ji5) - 1))) then (num_nearest.j0 k a1 ji5 ji8 true) else (if (Go.bits .and .u64 a0 (IntKind.u64.wrap ((shl .u64 1 (ji5)) - 1))) = (shl .u64 1 (wrap64 ((ji5) - 1))) then (if a2 = true then (num_nearest.j0 k a1 ji5 ji8 true) else (num_nearest.j0 k a1 ji5 ji8 ((Int.tmod (ji8) 2) == 1))) else (num_nearest.j0 k a1 ji5 ji8 false))) else (none)) = some r := by first | (rw [hji8] at H; exact H) | (simp only [hji8] at H ⊢; exact H)
  (try rw [hji8] at A4)
  have hji8_ : (a0 / 2 ^ min (ji5).toNat 64) = ji8 := hji8
  have hji8z : (ji5) ≤ 64 → (a0 / 2 ^ (ji5).toNat) = ji8 := shr_small hji8
  have c9b0 := eq_true (of_decide_eq_true (by first | (with_reducible assumption) | assumption) : 0 ≤ (ji5))
  obtain ⟨ji10, hji10⟩ : ∃ j_ : Int, (shl .u64 1 (ji5)) = j_ := ⟨_, rfl⟩
  replace H : (if 0 ≤ (wrap64 ((ji5) - 1)) then (if (Go.bits .and .u64 a0 (IntKind.u64.wrap ((ji10) - 1))) > (shl .u64 1 (wrap64 ((ji5) - 1))) then (num_nearest.j0 k a1 ji5 ji8 true) else (if (Go.bits .and .u64 a0 (IntKind.u64.wrap ((ji10) - 1))) = (shl .u64 1 (wrap64 ((ji5) - 1))) then (if a2 = true then (num_nearest.j0 k a1 ji5 ji8 true) else (num_nearest.j0 k a1 ji5 ji8 ((Int.tmod (ji8) 2) == 1))) else (num_nearest.j0 k a1 ji5 ji8 false))) else (none)) = some r := by first | (rw [hji10] at H; exact H) | (simp only [hji10] at H ⊢; exact H)
  (try rw [hji10] at A4)
  have hji10_ : (IntKind.u64.wrap (1 * 2 ^ min (ji5).toNat 64)) = ji10 := hji10
  have hji10z : (ji5) ≤ 64 → (IntKind.u64.wrap (1 * 2 ^ (ji5).toNat)) = ji10 := shl_small hji10
  have hji10u : (IntKind.u64.wrap (2 ^ min (ji5).toNat 64)) = ji10 := by have h_ := hji10_; rw [Int.one_mul] at h_; exact h_
  have hji10v : (ji5) ≤ 64 → (IntKind.u64.wrap (2 ^ (ji5).toNat)) = ji10 := fun hle_ => by have h_ := hji10z hle_; rw [Int.one_mul] at h_; exact h_
  obtain ⟨ji11, hji11⟩ : ∃ j_ : Int, (wrap64 ((ji5) - 1)) = j_ := ⟨_, rfl⟩
  replace H : (if 0 ≤ (ji11) then (if (Go.bits .and .u64 a0 (IntKind.u64.wrap ((ji10) - 1))) > (shl .u64 1 (ji11)) then (num_nearest.j0 k a1 ji5 ji8 true) else (if (Go.bits .and .u64 a0 (IntKind.u64.wrap ((ji10) - 1))) = (shl .u64 1 (ji11)) then (if a2 = true then (num_nearest.j0 k a1 ji5 ji8 true) else (num_nearest.j0 k a1 ji5 ji8 ((Int.tmod (ji8) 2) == 1))) else (num_nearest.j0 k a1 ji5 ji8 false))) else (none)) = some r := by first | (rw [hji11] at H; exact H) | (simp only [hji11] at H ⊢; exact H)
  (try rw [hji11] at A4)
  have hji11w : (IntKind.i64.wrap ((ji5) - 1)) = ji11 := (i64_w _).trans hji11
  by_cases c12 : 0 ≤ (ji11)
  ·
   rw [if_pos c12] at H
   have c12b0 := eq_true c12
   have c12b1 : decide (0 ≤ (ji11)) = true := decide_eq_true c12
   clear c12
   obtain ⟨ji13, hji13⟩ : ∃ j_ : Int, (shl .u64 1 (ji11)) = j_ := ⟨_, rfl⟩
   replace H : (if (Go.bits .and .u64 a0 (IntKind.u64.wrap ((ji10) - 1))) > (ji13) then (num_nearest.j0 k a1 ji5 ji8 true) else (if (Go.bits .and .u64 a0 (IntKind.u64.wrap ((ji10) - 1))) = (ji13) then (if a2 = true then (num_nearest.j0 k a1 ji5 ji8 true) else (num_nearest.j0 k a1 ji5 ji8 ((Int.tmod (ji8) 2) == 1))) else (num_nearest.j0 k a1 ji5 ji8 false))) = some r := by first | (rw [hji13] at H; exact H) | (simp only [hji13] at H ⊢; exact H)
   (try rw [hji13] at A4)
   have hji13_ : (IntKind.u64.wrap (1 * 2 ^ min (ji11).toNat 64)) = ji13 := hji13
   have hji13z : (ji11) ≤ 64 → (IntKind.u64.wrap (1 * 2 ^ (ji11).toNat)) = ji13 := shl_small hji13
   have hji13u : (IntKind.u64.wrap (2 ^ min (ji11).toNat 64)) = ji13 := by have h_ := hji13_; rw [Int.one_mul] at h_; exact h_
   have hji13v : (ji11) ≤ 64 → (IntKind.u64.wrap (2 ^ (ji11).toNat)) = ji13 := fun hle_ => by have h_ := hji13z hle_; rw [Int.one_mul] at h_; exact h_
   have HC14 := Aside0.mk H
   clear H
   go_enter Tryd.func102, Tryd.ntmps102
   go_upto_region 5 with (first | (go_at_call 119; (with_reducible refine (Hd.bits_Len64.calls a0 t568 _ A4.out).mono ?_); rintro e w' ⟨rfl, ⟨nd, rfl⟩⟩; (try first | exact ⟨rfl, _, World.drewN_drewN _ _ _⟩ | exact ⟨rfl, _, Eq.trans (World.drewN_drewN _ _ _) (congrArg (World.drewN _) (Nat.add_assoc _ _ _))⟩)))
   repeat (go_quiet (first | (go_at_call 119; (with_reducible refine (Hd.bits_Len64.calls a0 t568 _ A4.out).mono ?_); rintro e w' ⟨rfl, ⟨nd, rfl⟩⟩; (try first | exact ⟨rfl, _, World.drewN_drewN _ _ _⟩ | exact ⟨rfl, _, Eq.trans (World.drewN_drewN _ _ _) (congrArg (World.drewN _) (Nat.add_assoc _ _ _))⟩))); go_upto_region 5 with (first | (go_at_call 119; (with_reducible refine (Hd.bits_Len64.calls a0 t568 _ A4.out).mono ?_); rintro e w' ⟨rfl, ⟨nd, rfl⟩⟩; (try first | exact ⟨rfl, _, World.drewN_drewN _ _ _⟩ | exact ⟨rfl, _, Eq.trans (World.drewN_drewN _ _ _) (congrArg (World.drewN _) (Nat.add_assoc _ _ _))⟩))))
   (try simp only [Act.put, List.setIfInBounds_toArray, List.set_cons_zero, List.set_cons_succ])
   go_cut [46] (fun v46 wc => ∃ (kq : Nat) (x46_13 : Bool), v46 = .bool x46_13 ∧ Aside0 (num_nearest.j0 kq a1 ji5 ji8 x46_13 = some r) ∧ Aside0 (kq ≤ k) ∧ Aside0 (Below w.heap.size w wc))
   case first =>
    have H := HC14.out
    clear HC14
    by_cases c15 : (Go.bits .and .u64 a0 (IntKind.u64.wrap ((ji10) - 1))) > (ji13)
    ·
     rw [if_pos c15] at H
     have c15b0 : decide ((ji13) < (Go.bits .and .u64 a0 (IntKind.u64.wrap ((ji10) - 1)))) = true := decide_eq_true c15
     clear c15
     (first | rw [c15b0] | (simp only [i64_w, i32_w]; rw [c15b0]) | skip)
     have H' := Aside0.mk H
     clear H
     go_wp2
     repeat (go_quiet (fail); try go_wp2)
     go_meet
     case rel => exact ⟨_, (true), (by first | rfl | (simp; done) | (simp [*]; done)), H', ⟨by first | omega | exact Nat.le_refl _⟩, ⟨lk HB⟩⟩
    rw [if_neg c15] at H
    have c15b0 : decide ((ji13) < (Go.bits .and .u64 a0 (IntKind.u64.wrap ((ji10) - 1)))) = false := decide_eq_false c15
    clear c15
    (first | rw [c15b0] | (simp only [i64_w, i32_w]; rw [c15b0]) | skip)
    by_cases c16 : (Go.bits .and .u64 a0 (IntKind.u64.wrap ((ji10) - 1))) = (ji13)
    ·
     rw [if_pos c16] at H
     have c16b0 : ((Go.bits .and .u64 a0 (IntKind.u64.wrap ((ji10) - 1))) == (ji13)) = true := beq_iff_eq.mpr c16
     have c16b1 : ((Go.bits .and .u64 a0 (IntKind.u64.wrap ((ji10) - 1))) != (ji13)) = false := bne_eq_false_iff_eq.mpr c16
     clear c16
     by_cases c17 : a2 = true
     ·
      subst c17
      rw [if_pos rfl] at H
      have H' := Aside0.mk H
      clear H
      go_wp2
      repeat (go_quiet (fail); try go_wp2)
      go_meet
      case rel => exact ⟨_, (true), (by first | rfl | (simp; done) | (simp [*]; done)), H', ⟨by first | omega | exact Nat.le_refl _⟩, ⟨lk HB⟩⟩
     replace c17 := Bool.eq_false_iff.mpr c17
     subst c17
     rw [if_neg (show ¬ (false = true) by decide)] at H
     have H' := Aside0.mk H
     clear H
     go_wp2
     repeat (go_quiet (fail); try go_wp2)
     go_meet
     case rel => exact ⟨_, (((Int.tmod (ji8) 2) == 1)), (by first | rfl | (simp; done) | (simp only [← hji8] <;> (first | rfl | simp)) | (simp [*]; done)), H', ⟨by first | omega | exact Nat.le_refl _⟩, ⟨lk HB⟩⟩
    rw [if_neg c16] at H
    have c16b0 : ((Go.bits .and .u64 a0 (IntKind.u64.wrap ((ji10) - 1))) == (ji13)) = false := beq_eq_false_iff_ne.mpr c16
    have c16b1 : ((Go.bits .and .u64 a0 (IntKind.u64.wrap ((ji10) - 1))) != (ji13)) = true := bne_iff_ne.mpr c16
    have H' := Aside0.mk H
    clear H
    go_wp2
    repeat (go_quiet (fail); try go_wp2)
    go_meet
    case rel => exact ⟨_, (false), (by first | rfl | (simp; done) | (simp [*]; done)), H', ⟨by first | omega | exact Nat.le_refl _⟩, ⟨lk HB⟩⟩
   case rest =>
    clear HC14
    try clear c1
    try clear p2
    try clear c6
    try clear c6b0
    try clear p6
    try clear c7
    try clear c7b0
    try clear c7b1
    try clear c9
    try clear c9b0
    try clear c10
    try clear c12
    try clear c12b0
    try clear c12b1
    try clear c15
    try clear c15b0
    try clear c16
    try clear c16b0
    try clear c16b1
    try clear c17
    obtain ⟨kq, x46_13, rfl, HA, HJ13, HB⟩ := hcut
    cases kq with
    | zero => exact absurd HA.out (by simp [num_nearest.j0])
    | succ kj13 =>
     have H := HA.out
     clear HA
     simp only [num_nearest.j0] at H
     have HC18 := Aside0.mk H
     clear H
     go_upto_if 46 with (fail)
     repeat (go_quiet (fail); go_upto_if 46 with (fail))
     go_cut [8] (fun v8 wc => ∃ (kq : Nat) (x8_17 : Int), v8 = .int .u64 x8_17 ∧ Aside0 (num_nearest.j1 kq a1 ji5 x8_17 = some r) ∧ Aside0 (kq ≤ kj13) ∧ Aside0 (Below w.heap.size w wc))
     case first =>
      have H := HC18.out
      clear HC18
      by_cases c19 : x46_13 = true
      ·
       subst c19
       rw [if_pos rfl] at H
       have H' := Aside0.mk H
       clear H
       go_wp2
       repeat (go_quiet (fail); try go_wp2)
       go_meet
       case rel => exact ⟨_, (IntKind.u64.wrap (ji8 + 1)), (by first | rfl | (simp; done) | (simp only [← hji8] <;> (first | rfl | simp)) | (simp [*]; done)), H', ⟨by have := HJ13.out; first | omega | exact Nat.le_refl _⟩, ⟨lk HB⟩⟩
      replace c19 := Bool.eq_false_iff.mpr c19
      subst c19
      rw [if_neg (show ¬ (false = true) by decide)] at H
      have H' := Aside0.mk H
      clear H
      go_wp2
      repeat (go_quiet (fail); try go_wp2)
      go_meet
      case rel => exact ⟨_, (ji8), (by first | rfl | (simp; done) | (simp only [← hji8] <;> (first | rfl | simp)) | (simp [*]; done)), H', ⟨by have := HJ13.out; first | omega | exact Nat.le_refl _⟩, ⟨lk HB⟩⟩
     case rest =>
      clear HC18
      try clear c1
      try clear p2
      try clear c6
      try clear c6b0
      try clear p6
      try clear c7
      try clear c7b0
      try clear c7b1
      try clear c9
      try clear c9b0
      try clear c10
      try clear c12
      try clear c12b0
      try clear c12b1
      try clear c15
      try clear c15b0
      try clear c16
      try clear c16b0
      try clear c16b1
      try clear c17
      try clear c19
      try clear p2
      try clear p6
      obtain ⟨kq, x8_17, rfl, HA, HJ17, HB⟩ := hcut
      cases kq with
      | zero => exact absurd HA.out (by simp [num_nearest.j1])
      | succ kj17 =>
       have H := HA.out
       clear HA
       simp only [num_nearest.j1] at H
       have HC20 := Aside0.mk H
       clear H
       go_upto_if 53 with (fail)
       repeat (go_quiet (fail); go_upto_if 53 with (fail))
       go_cut [1, 8] (fun v1 v8 wc => ∃ (kq : Nat) (x1_19 : Int) (x8_19 : Int), v1 = .int .i64 x1_19 ∧ v8 = .int .u64 x8_19 ∧ Aside0 (num_nearest.j2 kq x1_19 x8_19 = some r) ∧ Aside0 (kq ≤ kj17) ∧ Aside0 (Below w.heap.size w wc))
       case first =>
        have H := HC20.out
        clear HC20
        by_cases c21 : x8_17 = 9007199254740992
        ·
         rw [if_pos c21] at H
         have c21b0 : (x8_17 == 9007199254740992) = true := beq_iff_eq.mpr c21
         have c21b1 : (x8_17 != 9007199254740992) = false := bne_eq_false_iff_eq.mpr c21
         clear c21
         (first | rw [c21b0] | (simp only [i64_w, i32_w]; rw [c21b0]) | skip)
         have H' := Aside0.mk H
         clear H
         go_wp2
         repeat (go_quiet (fail); try go_wp2)
         go_meet
         case rel => exact ⟨_, (wrap64 ((wrap64 (a1 + ji5)) + 1)), (4503599627370496), (by first | rfl | (simp; done) | (simp only [← hji5] <;> (first | rfl | simp)) | (simp [*]; done)), (by first | rfl | (simp; done) | (simp [*]; done)), H', ⟨by have := HJ13.out; have := HJ17.out; first | omega | exact Nat.le_refl _⟩, ⟨lk HB⟩⟩
        rw [if_neg c21] at H
        have c21b0 : (x8_17 == 9007199254740992) = false := beq_eq_false_iff_ne.mpr c21
        have c21b1 : (x8_17 != 9007199254740992) = true := bne_iff_ne.mpr c21
        (first | rw [c21b0] | (simp only [i64_w, i32_w]; rw [c21b0]) | skip)
        have H' := Aside0.mk H
        clear H
        go_wp2
        repeat (go_quiet (fail); try go_wp2)
        go_meet
        case rel => exact ⟨_, (wrap64 (a1 + ji5)), (x8_17), (by first | rfl | (simp; done) | (simp only [← hji5] <;> (first | rfl | simp)) | (simp [*]; done)), (by first | rfl | (simp; done) | (simp [*]; done)), H', ⟨by have := HJ13.out; have := HJ17.out; first | omega | exact Nat.le_refl _⟩, ⟨lk HB⟩⟩
       case rest =>
        clear HC20
        try clear c1
        try clear c2
        try clear p2
        try clear c6
        try clear c6b0
        try clear p6
        try clear c7
        try clear c7b0
        try clear c7b1
        try clear c9
        try clear c9b0
        try clear c10
        try clear c12
        try clear c12b0
        try clear c12b1
        try clear c15
        try clear c15b0
        try clear c16
        try clear c16b0
        try clear c16b1
        try clear c17
        try clear c19
        try clear c21
        try clear c21b0
        try clear c21b1
        try clear p2
        try clear p6
        obtain ⟨kq, x1_19, x8_19, rfl, rfl, HA, HJ19, HB⟩ := hcut
        cases kq with
        | zero => exact absurd HA.out (by simp [num_nearest.j2])
        | succ kj19 =>
         have H := HA.out
         clear HA
         simp only [num_nearest.j2] at H
         by_cases c22 : x1_19 > 971
         ·
          rw [if_pos c22] at H
          have c22b0 : decide (971 < x1_19) = true := decide_eq_true c22
          clear c22
          obtain rfl := Option.some.inj H
          go_wp2
          repeat (go_quiet (fail); try go_wp2)
          go_ret
          exact ⟨by first | rfl | (simp [errW_none, errW_some] <;> rfl) | (simp only [← hji5, ← hji8, ← hji10, ← hji11, ← hji13]; first | rfl | (simp [errW_none, errW_some] <;> rfl)) | (simp [*, errW_none, errW_some] <;> rfl), lk HB⟩
         rw [if_neg c22] at H
         have c22b0 : decide (971 < x1_19) = false := decide_eq_false c22
         clear c22
         by_cases c23 : x8_19 < 4503599627370496
         ·
          rw [if_pos c23] at H
          have c23b0 : decide (x8_19 < 4503599627370496) = true := decide_eq_true c23
          clear c23
          obtain rfl := Option.some.inj H
          go_wp2
          repeat (go_quiet (fail); try go_wp2)
          go_ret
          exact ⟨by first | rfl | (simp [errW_none, errW_some] <;> rfl) | (simp only [← hji5, ← hji8, ← hji10, ← hji11, ← hji13]; first | rfl | (simp [errW_none, errW_some] <;> rfl)) | (simp [*, errW_none, errW_some] <;> rfl), lk HB⟩
         rw [if_neg c23] at H
         have c23b0 : decide (x8_19 < 4503599627370496) = false := decide_eq_false c23
         clear c23
         obtain rfl := Option.some.inj H
         go_wp2
         repeat (go_quiet (fail); try go_wp2)
         go_ret
         exact ⟨by first | rfl | (simp [errW_none, errW_some] <;> rfl) | (simp only [← hji5, ← hji8, ← hji10, ← hji11, ← hji13]; first | rfl | (simp [errW_none, errW_some] <;> rfl)) | (simp [*, errW_none, errW_some] <;> rfl), lk HB⟩
  rw [if_neg c12] at H
  exact absurd H (by simp)
 rw [if_neg c7] at H
 exact absurd H (by simp)
mutual
def num_decimal_bits.j0 : Nat → Int → Bool → ByteArray → Int → Option (Int)
 | 0, _, _, _, _ => none
 | k + 1, x3, x17, x570000, x570001 => if x17 = true then (some 0) else (if x3 > 310 then (some 9218868437227405312) else (num_decimal_bits.l0 k ([] : List Int) (x570000.size : Int) 0 x570000 x570001))
def num_decimal_bits.l0 : Nat → List Int → Int → Int → ByteArray → Int → Option (Int)
 | 0, _, _, _, _, _ => none
 | k + 1, x4, x30, x31, x570000, x570001 => if x31 < x30 then (if 0 ≤ x31 then (if x31 < (x570000.size : Int) then ((num_nat_times.f k x4 10 (((bt x570000 x31) - 48) % 256)).bind fun t570 => (num_decimal_bits.l0 k t570 x30 (wrap64 (x31 + 1)) x570000 x570001)) else (none)) else (none)) else ((num_of.f k 1).bind fun t573 => (if x570001 ≥ 0 then ((num_nat_tens.f k x4 x570001).bind fun t576 => (num_decimal_bits.j2 k t576 t573)) else ((num_nat_tens.f k t573 (wrap64 (-x570001))).bind fun t579 => (num_decimal_bits.j2 k x4 t579))))
def num_decimal_bits.j2 : Nat → List Int → List Int → Option (Int)
 | 0, _, _ => none
 | k + 1, x4, x6 => (num_nat_size.f x4).bind fun t582 => ((num_nat_size.f x6).bind fun t583 => (if (wrap64 (56 - (wrap64 (t582 - t583)))) ≥ 0 then ((num_nat_up.f k x4 (wrap64 (56 - (wrap64 (t582 - t583))))).bind fun t584 => (num_decimal_bits.j3 k t584 x6 (wrap64 (56 - (wrap64 (t582 - t583)))))) else ((num_nat_up.f k x6 (wrap64 (-(wrap64 (56 - (wrap64 (t582 - t583))))))).bind fun t587 => (num_decimal_bits.j3 k x4 t587 (wrap64 (56 - (wrap64 (t582 - t583))))))))
def num_decimal_bits.j3 : Nat → List Int → List Int → Int → Option (Int)
 | 0, _, _, _ => none
 | k + 1, x4, x6, x7 => num_decimal_bits.l1 k x4 x6 x7 0 57
def num_decimal_bits.l1 : Nat → List Int → List Int → Int → Int → Int → Option (Int)
 | 0, _, _, _, _, _ => none
 | k + 1, x4, x6, x7, x8, x9 => if x9 ≥ 0 then ((num_nat_up.f k x6 x9).bind fun t591 => ((num_nat_against.f k x4 t591).bind fun t594 => (if t594 ≥ 0 then ((num_nat_less.f k x4 t591).bind fun t595 => (if 0 ≤ x9 then (num_decimal_bits.l1 k t595 x6 x7 (Go.bits .or .u64 x8 (shl .u64 1 x9)) (wrap64 (x9 - 1))) else (none))) else (num_decimal_bits.l1 k x4 x6 x7 x8 (wrap64 (x9 - 1)))))) else ((num_nearest.f k x8 (wrap64 (-x7)) (decide (0 < x4.length))).bind fun t590 => (some t590))
end
def num_decimal_bits.f (k : Nat) (a0_0 : ByteArray) (a0_1 : Int) : Option (Int) := if a0_0.toList = ([] : List UInt8) then (num_decimal_bits.j0 k (wrap64 ((a0_0.size : Int) + a0_1)) true a0_0 a0_1) else (num_decimal_bits.j0 k (wrap64 ((a0_0.size : Int) + a0_1)) (decide ((wrap64 ((a0_0.size : Int) + a0_1)) < (-330))) a0_0 a0_1)
theorem num_decimal_bits.mono_l : ∀ k, (∀ y0 y1 y2 y3, LeO (num_decimal_bits.j0 k y0 y1 y2 y3) (num_decimal_bits.j0 (k + 1) y0 y1 y2 y3)) ∧ (∀ y0 y1 y2 y3 y4, LeO (num_decimal_bits.l0 k y0 y1 y2 y3 y4) (num_decimal_bits.l0 (k + 1) y0 y1 y2 y3 y4)) ∧ (∀ y0 y1, LeO (num_decimal_bits.j2 k y0 y1) (num_decimal_bits.j2 (k + 1) y0 y1)) ∧ (∀ y0 y1 y2, LeO (num_decimal_bits.j3 k y0 y1 y2) (num_decimal_bits.j3 (k + 1) y0 y1 y2)) ∧ (∀ y0 y1 y2 y3 y4, LeO (num_decimal_bits.l1 k y0 y1 y2 y3 y4) (num_decimal_bits.l1 (k + 1) y0 y1 y2 y3 y4))
 | 0 => ⟨fun _ _ _ _ r h => by simp [num_decimal_bits.j0] at h, fun _ _ _ _ _ r h => by simp [num_decimal_bits.l0] at h, fun _ _ r h => by simp [num_decimal_bits.j2] at h, fun _ _ _ r h => by simp [num_decimal_bits.j3] at h, fun _ _ _ _ _ r h => by simp [num_decimal_bits.l1] at h⟩
 | k + 1 => by
  obtain ⟨ih0, ih1, ih2, ih3, ih4⟩ := num_decimal_bits.mono_l k
  refine ⟨?_, ?_, ?_, ?_, ?_⟩
  ·
   intro y0 y1 y2 y3
   unfold num_decimal_bits.j0
   repeat' (with_reducible first | exact ih0 _ _ _ _ | exact ih1 _ _ _ _ _ | exact ih2 _ _ | exact ih3 _ _ _ | exact ih4 _ _ _ _ _ | exact num_nat_against.mono _ _ _ | exact num_nat_less.mono _ _ _ | exact num_nat_tens.mono _ _ _ | exact num_nat_times.mono _ _ _ _ | exact num_nat_up.mono _ _ _ | exact num_nearest.mono _ _ _ _ | exact num_of.mono _ _ | exact LeO.refl _ | exact LeO.none _ | refine LeO.ite ?_ ?_ | refine LeO.bind ?_ (fun _ => ?_))
  ·
   intro y0 y1 y2 y3 y4
   unfold num_decimal_bits.l0
   repeat' (with_reducible first | exact ih0 _ _ _ _ | exact ih1 _ _ _ _ _ | exact ih2 _ _ | exact ih3 _ _ _ | exact ih4 _ _ _ _ _ | exact num_nat_against.mono _ _ _ | exact num_nat_less.mono _ _ _ | exact num_nat_tens.mono _ _ _ | exact num_nat_times.mono _ _ _ _ | exact num_nat_up.mono _ _ _ | exact num_nearest.mono _ _ _ _ | exact num_of.mono _ _ | exact LeO.refl _ | exact LeO.none _ | refine LeO.ite ?_ ?_ | refine LeO.bind ?_ (fun _ => ?_))
  ·
   intro y0 y1
   unfold num_decimal_bits.j2
   repeat' (with_reducible first | exact ih0 _ _ _ _ | exact ih1 _ _ _ _ _ | exact ih2 _ _ | exact ih3 _ _ _ | exact ih4 _ _ _ _ _ | exact num_nat_against.mono _ _ _ | exact num_nat_less.mono _ _ _ | exact num_nat_tens.mono _ _ _ | exact num_nat_times.mono _ _ _ _ | exact num_nat_up.mono _ _ _ | exact num_nearest.mono _ _ _ _ | exact num_of.mono _ _ | exact LeO.refl _ | exact LeO.none _ | refine LeO.ite ?_ ?_ | refine LeO.bind ?_ (fun _ => ?_))
  ·
   intro y0 y1 y2
   unfold num_decimal_bits.j3
   repeat' (with_reducible first | exact ih0 _ _ _ _ | exact ih1 _ _ _ _ _ | exact ih2 _ _ | exact ih3 _ _ _ | exact ih4 _ _ _ _ _ | exact num_nat_against.mono _ _ _ | exact num_nat_less.mono _ _ _ | exact num_nat_tens.mono _ _ _ | exact num_nat_times.mono _ _ _ _ | exact num_nat_up.mono _ _ _ | exact num_nearest.mono _ _ _ _ | exact num_of.mono _ _ | exact LeO.refl _ | exact LeO.none _ | refine LeO.ite ?_ ?_ | refine LeO.bind ?_ (fun _ => ?_))
  intro y0 y1 y2 y3 y4
  unfold num_decimal_bits.l1
  repeat' (with_reducible first | exact ih0 _ _ _ _ | exact ih1 _ _ _ _ _ | exact ih2 _ _ | exact ih3 _ _ _ | exact ih4 _ _ _ _ _ | exact num_nat_against.mono _ _ _ | exact num_nat_less.mono _ _ _ | exact num_nat_tens.mono _ _ _ | exact num_nat_times.mono _ _ _ _ | exact num_nat_up.mono _ _ _ | exact num_nearest.mono _ _ _ _ | exact num_of.mono _ _ | exact LeO.refl _ | exact LeO.none _ | refine LeO.ite ?_ ?_ | refine LeO.bind ?_ (fun _ => ?_))
theorem num_decimal_bits.mono : ∀ a0 a1 k, LeO (num_decimal_bits.f k a0 a1) (num_decimal_bits.f (k + 1) a0 a1) := by
 intro a0 a1 k
 obtain ⟨ih0, ih1, ih2, ih3, ih4⟩ := num_decimal_bits.mono_l k
 unfold num_decimal_bits.f
 repeat' (with_reducible first | exact ih0 _ _ _ _ | exact ih1 _ _ _ _ _ | exact ih2 _ _ | exact ih3 _ _ _ | exact ih4 _ _ _ _ _ | exact num_nat_against.mono _ _ _ | exact num_nat_less.mono _ _ _ | exact num_nat_tens.mono _ _ _ | exact num_nat_times.mono _ _ _ _ | exact num_nat_up.mono _ _ _ | exact num_nearest.mono _ _ _ _ | exact num_of.mono _ _ | exact LeO.refl _ | exact LeO.none _ | refine LeO.ite ?_ ?_ | refine LeO.bind ?_ (fun _ => ?_))
set_option maxHeartbeats 8000000 in
set_option maxRecDepth 100000 in
theorem num_decimal_bits.calls (k : Nat) (a0_0 : ByteArray) (a0_1 : Int) (r : Int) (w : World) (h : num_decimal_bits.f k a0_0 a0_1 = some r) :
  Calls Tryd.prog 67 #[.agg #[.string a0_0, .int .i64 a0_1]] w fun e w' => e = .returned (.int .u64 r) ∧ Below w.heap.size w w' := by
 have hu79 := Tryd.underlying79
 have HB := Aside0.mk (Below.refl w.heap.size w)
 have H : (if a0_0.toList = ([] : List UInt8) then (num_decimal_bits.j0 k (wrap64 ((a0_0.size : Int) + a0_1)) true a0_0 a0_1) else (num_decimal_bits.j0 k (wrap64 ((a0_0.size : Int) + a0_1)) (decide ((wrap64 ((a0_0.size : Int) + a0_1)) < (-330))) a0_0 a0_1)) = some r := h
 clear h
 have HC2 := Aside0.mk H
 clear H
 go_enter Tryd.func67, Tryd.ntmps67
 go_upto_region 2 with (first | ((with_reducible refine gate_dst (N := 1) rfl ?_); refine box_event ?hg (N := 1) ?hd (cs := #[.string a0_0, .int .i64 a0_1]) (t := 79) ?hr ?_; (case hd => rfl); (case hg => rfl); (case hr => first | (go_simp; done) | (go_simp; rfl)); intro gb569 hg w3 hbox hb; have BK569 := Aside0.mk (hbox); have GW569 := Aside0.mk ((by rw [hg]; exact (below_size (lk HB)) : w.heap.size ≤ gb569)); have GE569 := Aside0.mk ((by rw [hg]; exact (below_size (lk HB)) : w.heap.size ≤ gb569)); replace HB := lb HB hb; clear hb hbox hg; have hcz4_0 : w3.cell? ⟨gb569, 0, none⟩ = some (.string a0_0) := (blk_cell BK569.out 0).trans rfl; have hcz4_1 : w3.cell? ⟨gb569, 1, none⟩ = some (.int .i64 a0_1) := (blk_cell BK569.out 1).trans rfl; have hfz4_0 := blk_frozen BK569.out 0; have hfz4_1 := blk_frozen BK569.out 1))
 (try simp only [Act.put, List.setIfInBounds_toArray, List.set_cons_zero, List.set_cons_succ])
 go_cut [17] (fun v17 wc => ∃ (kq : Nat) (x17_1 : Bool), v17 = .bool x17_1 ∧ Aside0 (num_decimal_bits.j0 kq (wrap64 ((a0_0.size : Int) + a0_1)) x17_1 a0_0 a0_1 = some r) ∧ Aside0 (kq ≤ k) ∧ Aside0 (wc.heap[gb569]? = some (.cells #[.string a0_0, .int .i64 a0_1] 79 (0, 0))) ∧ Aside0 (Below w.heap.size w wc))
 case first =>
  have H := HC2.out
  clear HC2
  by_cases c5 : a0_0.toList = ([] : List UInt8)
  ·
   rw [if_pos c5] at H
   have c5b0 : (a0_0.toList == ([] : List UInt8)) = true := beq_iff_eq.mpr c5
   have c5b1 : (a0_0.toList != ([] : List UInt8)) = false := bne_eq_false_iff_eq.mpr c5
   clear c5
   (first | rw [c5b0] | (simp only [i64_w, i32_w]; rw [c5b0]) | skip)
   have H' := Aside0.mk H
   clear H
   have hcz6_0 : w3.cell? ⟨gb569, 0, none⟩ = some (.string a0_0) := (blk_cell BK569.out 0).trans rfl
   have hcz6_1 : w3.cell? ⟨gb569, 1, none⟩ = some (.int .i64 a0_1) := (blk_cell BK569.out 1).trans rfl
   have hfz6_0 := blk_frozen BK569.out 0
   have hfz6_1 := blk_frozen BK569.out 1
   go_wp2
   go_meet
   case rel => exact ⟨_, (true), (by first | rfl | (simp; done) | (simp [*]; done)), H', ⟨by first | omega | exact Nat.le_refl _⟩, ⟨bk BK569⟩, ⟨lk HB⟩⟩
  rw [if_neg c5] at H
  have c5b0 : (a0_0.toList == ([] : List UInt8)) = false := beq_eq_false_iff_ne.mpr c5
  have c5b1 : (a0_0.toList != ([] : List UInt8)) = true := bne_iff_ne.mpr c5
  (first | rw [c5b0] | (simp only [i64_w, i32_w]; rw [c5b0]) | skip)
  have H' := Aside0.mk H
  clear H
  have hcz7_0 : w3.cell? ⟨gb569, 0, none⟩ = some (.string a0_0) := (blk_cell BK569.out 0).trans rfl
  have hcz7_1 : w3.cell? ⟨gb569, 1, none⟩ = some (.int .i64 a0_1) := (blk_cell BK569.out 1).trans rfl
  have hfz7_0 := blk_frozen BK569.out 0
  have hfz7_1 := blk_frozen BK569.out 1
  go_wp2
  go_meet
  case rel => exact ⟨_, (decide ((wrap64 ((a0_0.size : Int) + a0_1)) < (-330))), (by first | rfl | (simp; done) | (simp [*]; done)), H', ⟨by first | omega | exact Nat.le_refl _⟩, ⟨bk BK569⟩, ⟨lk HB⟩⟩
 case rest =>
  clear HC2
  try clear p2
  try clear c5
  try clear c5b0
  try clear c5b1
  try clear c6
  try clear p6
  try clear hcz4_0
  try clear hcz4_1
  try clear hcz6_0
  try clear hcz6_1
  try clear hcz7_0
  try clear hcz7_1
  try clear hfz4_0
  try clear hfz4_1
  try clear hfz6_0
  try clear hfz6_1
  try clear hfz7_0
  try clear hfz7_1
  obtain ⟨kq, x17_1, rfl, HA, HJ1, BK569, HB⟩ := hcut
  cases kq with
  | zero => exact absurd HA.out (by simp [num_decimal_bits.j0])
  | succ kj1 =>
   have H := HA.out
   clear HA
   simp only [num_decimal_bits.j0] at H
   by_cases c8 : x17_1 = true
   ·
    subst c8
    rw [if_pos rfl] at H
    obtain rfl := Option.some.inj H
    go_wp2
    go_ret
    exact ex (lk HB)
   replace c8 := Bool.eq_false_iff.mpr c8
   subst c8
   rw [if_neg (show ¬ (false = true) by decide)] at H
   by_cases c9 : (wrap64 ((a0_0.size : Int) + a0_1)) > 310
   ·
    rw [if_pos c9] at H
    have c9b0 : decide (310 < (wrap64 ((a0_0.size : Int) + a0_1))) = true := decide_eq_true c9
    clear c9
    obtain rfl := Option.some.inj H
    go_wp2
    go_ret
    exact ex (lk HB)
   rw [if_neg c9] at H
   have c9b0 : decide (310 < (wrap64 ((a0_0.size : Int) + a0_1))) = false := decide_eq_false c9
   clear c9
   have H' := Aside0.mk H
   clear H
   have hcz10_0 : wc.cell? ⟨gb569, 0, none⟩ = some (.string a0_0) := (blk_cell BK569.out 0).trans rfl
   have hcz10_1 : wc.cell? ⟨gb569, 1, none⟩ = some (.int .i64 a0_1) := (blk_cell BK569.out 1).trans rfl
   have hfz10_0 := blk_frozen BK569.out 0
   have hfz10_1 := blk_frozen BK569.out 1
   go_wp2
   go_loopg [4, 31] kj1 (fun kq v4 v31 w' => ∃ (x4_2 : List Int) (x31_2 : Int), v31 = .int .i64 x31_2 ∧ Aside0 (num_decimal_bits.l0 kq x4_2 (a0_0.size : Int) x31_2 a0_0 a0_1 = some r) ∧ Aside0 (kq ≤ kj1) ∧ Aside0 (Kd.V (Kd.int .u32) 102 w' w.heap.size (fun k_ => k_ ≠ gb569) v4 x4_2) ∧ Aside0 (w'.heap[gb569]? = some (.cells #[.string a0_0, .int .i64 a0_1] 79 (0, 0))) ∧ Aside0 (Below w.heap.size w w'))
   case atStart => exact ⟨(([] : List Int)), (0), (by first | rfl | (simp; done) | (simp [*]; done)), H', ⟨Nat.le_refl _⟩, ⟨Kd.R_V (Kd.R_nil _ _ _ w.heap.size _)⟩, ⟨bk BK569⟩, ⟨lk HB⟩⟩
   case round =>
    clear H'
    try clear p2
    try clear c5
    try clear c5b0
    try clear c5b1
    try clear c6
    try clear p6
    try clear c8
    try clear c9
    try clear c9b0
    try clear hcz10_0
    try clear hcz10_1
    try clear hcz4_0
    try clear hcz4_1
    try clear hcz6_0
    try clear hcz6_1
    try clear hcz7_0
    try clear hcz7_1
    try clear hfz10_0
    try clear hfz10_1
    try clear hfz4_0
    try clear hfz4_1
    try clear hfz6_0
    try clear hfz6_1
    try clear hfz7_0
    try clear hfz7_1
    try clear p2
    try clear p6
    obtain ⟨x4_2, x31_2, rfl, HA, HK2, HO_4, BK569, HB⟩ := hrel
    cases gk with
    | zero => exact absurd HA.out (by simp [num_decimal_bits.l0])
    | succ k2 =>
     have H := HA.out
     clear HA
     simp only [num_decimal_bits.l0] at H
     by_cases c11 : x31_2 < (a0_0.size : Int)
     ·
      rw [if_pos c11] at H
      have c11b0 : decide (x31_2 < (a0_0.size : Int)) = true := decide_eq_true c11
      clear c11
      by_cases c12 : 0 ≤ x31_2
      ·
       rw [if_pos c12] at H
       have c12b0 : decide (0 ≤ x31_2) = true := decide_eq_true c12
       clear c12
       by_cases c13 : x31_2 < (a0_0.size : Int)
       ·
        rw [if_pos c13] at H
        have c13b0 : decide (x31_2 < (a0_0.size : Int)) = true := decide_eq_true c13
        clear c13
        replace H := Option.bind_eq_some_iff.mp H
        obtain ⟨t570, A150, H⟩ := H
        have A15 := Aside0.mk A150
        clear A150
        have H' := Aside0.mk H
        clear H
        have hcz16_0 : wr.cell? ⟨gb569, 0, none⟩ = some (.string a0_0) := (blk_cell BK569.out 0).trans rfl
        have hcz16_1 : wr.cell? ⟨gb569, 1, none⟩ = some (.int .i64 a0_1) := (blk_cell BK569.out 1).trans rfl
        have hfz16_0 := blk_frozen BK569.out 0
        have hfz16_1 := blk_frozen BK569.out 1
        have p14 : 0 ≤ (x31_2 : Int) := of_decide_eq_true (by first | (with_reducible assumption) | assumption)
        have q14 : x31_2 < (a0_0.size : Int) := of_decide_eq_true (by first | (with_reducible assumption) | assumption)
        have hx14 := bt_at a0_0 x31_2
        replace p14 := eq_true p14
        replace q14 := eq_true q14
        obtain ⟨Ao17, co17, eo17⟩ := Kd.V_slice HO_4.out
        subst eo17
        go_wp2_with (first | ((with_reducible refine gate_callee (f := 86) rfl ?_); refine gL (some 41) Tryd.func86 #[.slice Ao17 x4_2.length co17, .int .u32 10, .int .u32 (((bt a0_0 x31_2) - 48) % 256)] ?_; (with_reducible refine (num_nat_times.calls k2 _ _ x4_2 10 (((bt a0_0 x31_2) - 48) % 256) t570 _ ?side1 ?side2 A15.out).mono ?_); (case side1 => exact ck (Kd.V_reads' HO_4.out).2.2); (case side2 => exact (Kd.V_reads' HO_4.out).2.1); rintro e w18 ⟨v571, rfl, ho0, hb⟩; refine ⟨_, rfl, ?_⟩; replace HO_4 := vb HO_4 hb; have HO572 := Aside0.mk (Kd.V_lower (Kd.V_mono (ok' := fun k_ => k_ ≠ gb569) ho0 (fun k_ hk_ => (Kd.freshB (bk BK569) k_ hk_))) (below_size (lk HB))); replace BK569 := bb BK569 hb; replace HB := lb HB hb; (try clear hb); (try clear hb2); (try clear hk); (try clear hi); (try clear ho0)))
        go_roundg k2
        case measure => have := HJ1.out; have := HK2.out; omega
        case rel => exact ⟨(t570), (wrap64 (x31_2 + 1)), (by first | rfl | (simp; done) | (simp [*]; done)), H', ⟨by have := HJ1.out; have := HK2.out; omega⟩, ⟨vk HO572⟩, ⟨bk BK569⟩, ⟨lk HB⟩⟩
       rw [if_neg c13] at H
       exact absurd H (by simp)
      rw [if_neg c12] at H
      exact absurd H (by simp)
     rw [if_neg c11] at H
     have c11b0 : decide (x31_2 < (a0_0.size : Int)) = false := decide_eq_false c11
     clear c11
     replace H := Option.bind_eq_some_iff.mp H
     obtain ⟨t573, A190, H⟩ := H
     have A19 := Aside0.mk A190
     clear A190
     have HC20 := Aside0.mk H
     clear H
     go_upto_if 46 with (first | ((with_reducible refine gate_callee (f := 45) rfl ?_); refine gL (some 43) Tryd.func45 #[.int .u64 1] ?_; (with_reducible refine (num_of.calls k2 1 t573 _ A19.out).mono ?_); rintro e w21 ⟨v574, rfl, ho0, hb⟩; refine ⟨_, rfl, ?_⟩; replace HO_4 := vb HO_4 hb; have HO575 := Aside0.mk (Kd.V_lower (Kd.V_mono (ok' := fun k_ => k_ ≠ gb569) ho0 (fun k_ hk_ => (Kd.freshB (bk BK569) k_ hk_))) (below_size (lk HB))); replace BK569 := bb BK569 hb; replace HB := lb HB hb; (try clear hb); (try clear hb2); (try clear hk); (try clear hi); (try clear ho0); have hcz22_0 : w21.cell? ⟨gb569, 0, none⟩ = some (.string a0_0) := (blk_cell BK569.out 0).trans rfl; have hcz22_1 : w21.cell? ⟨gb569, 1, none⟩ = some (.int .i64 a0_1) := (blk_cell BK569.out 1).trans rfl; have hfz22_0 := blk_frozen BK569.out 0; have hfz22_1 := blk_frozen BK569.out 1))
     (try simp only [Act.put, List.setIfInBounds_toArray, List.set_cons_zero, List.set_cons_succ])
     go_cut [4, 6] (fun v4 v6 wc => ∃ (kq : Nat) (x4_19 : List Int) (x6_19 : List Int), Aside0 (num_decimal_bits.j2 kq x4_19 x6_19 = some r) ∧ Aside0 (kq ≤ k2) ∧ Aside0 (Kd.V (Kd.int .u32) 102 wc w.heap.size (fun k_ => k_ ≠ gb569) v4 x4_19) ∧ Aside0 (Kd.V (Kd.int .u32) 102 wc w.heap.size (fun k_ => k_ ≠ gb569) v6 x6_19) ∧ Aside0 (wc.heap[gb569]? = some (.cells #[.string a0_0, .int .i64 a0_1] 79 (0, 0))) ∧ Aside0 (Below w.heap.size w wc))
     case first =>
      have H := HC20.out
      clear HC20
      by_cases c23 : a0_1 ≥ 0
      ·
       rw [if_pos c23] at H
       have c23b0 : decide (0 ≤ a0_1) = true := decide_eq_true c23
       clear c23
       (first | rw [c23b0] | (simp only [i64_w, i32_w]; rw [c23b0]) | skip)
       replace H := Option.bind_eq_some_iff.mp H
       obtain ⟨t576, A240, H⟩ := H
       have A24 := Aside0.mk A240
       clear A240
       have H' := Aside0.mk H
       clear H
       have hcz25_0 : w21.cell? ⟨gb569, 0, none⟩ = some (.string a0_0) := (blk_cell BK569.out 0).trans rfl
       have hcz25_1 : w21.cell? ⟨gb569, 1, none⟩ = some (.int .i64 a0_1) := (blk_cell BK569.out 1).trans rfl
       have hfz25_0 := blk_frozen BK569.out 0
       have hfz25_1 := blk_frozen BK569.out 1
       obtain ⟨Ao26, co26, eo26⟩ := Kd.V_slice HO_4.out
       subst eo26
       go_wp2_with (first | ((with_reducible refine gate_callee (f := 52) rfl ?_); refine gL (some 50) Tryd.func52 #[.slice Ao26 x4_2.length co26, .int .i64 a0_1] ?_; (with_reducible refine (num_nat_tens.calls k2 (fun k_ => k_ ≠ gb569) _ _ x4_2 a0_1 t576 _ ?side1 A24.out).mono ?_); (case side1 => exact HO_4.out); rintro e w27 ⟨v577, rfl, ho0, hb⟩; refine ⟨_, rfl, ?_⟩; replace HO_4 := vb HO_4 hb; replace HO575 := vb HO575 hb; have HO578 := Aside0.mk (Kd.V_lower (Kd.V_mono (ok' := fun k_ => k_ ≠ gb569) ho0 (fun k_ hk_ => Or.elim hk_ (fun hs_ => hs_) (fun hn_ => (Kd.freshB (bk BK569) k_ hn_)))) (below_size (lk HB))); replace BK569 := bb BK569 hb; replace HB := lb HB hb; (try clear hb); (try clear hb2); (try clear hk); (try clear hi); (try clear ho0)))
       go_meet
       case rel => exact ⟨_, (t576), (t573), H', ⟨by have := HJ1.out; have := HK2.out; first | omega | exact Nat.le_refl _⟩, ⟨vk HO578⟩, ⟨vk HO575⟩, ⟨bk BK569⟩, ⟨lk HB⟩⟩
      rw [if_neg c23] at H
      have c23b0 : decide (0 ≤ a0_1) = false := decide_eq_false c23
      clear c23
      (first | rw [c23b0] | (simp only [i64_w, i32_w]; rw [c23b0]) | skip)
      replace H := Option.bind_eq_some_iff.mp H
      obtain ⟨t579, A280, H⟩ := H
      have A28 := Aside0.mk A280
      clear A280
      have H' := Aside0.mk H
      clear H
      have hcz29_0 : w21.cell? ⟨gb569, 0, none⟩ = some (.string a0_0) := (blk_cell BK569.out 0).trans rfl
      have hcz29_1 : w21.cell? ⟨gb569, 1, none⟩ = some (.int .i64 a0_1) := (blk_cell BK569.out 1).trans rfl
      have hfz29_0 := blk_frozen BK569.out 0
      have hfz29_1 := blk_frozen BK569.out 1
      obtain ⟨Ao30, co30, eo30⟩ := Kd.V_slice HO575.out
      subst eo30
      go_wp2_with (first | ((with_reducible refine gate_callee (f := 52) rfl ?_); refine gL (some 55) Tryd.func52 #[.slice Ao30 t573.length co30, .int .i64 (wrap64 (-a0_1))] ?_; (with_reducible refine (num_nat_tens.calls k2 (fun k_ => k_ ≠ gb569) _ _ t573 (wrap64 (-a0_1)) t579 _ ?side1 A28.out).mono ?_); (case side1 => exact HO575.out); rintro e w31 ⟨v580, rfl, ho0, hb⟩; refine ⟨_, rfl, ?_⟩; replace HO_4 := vb HO_4 hb; replace HO575 := vb HO575 hb; have HO581 := Aside0.mk (Kd.V_lower (Kd.V_mono (ok' := fun k_ => k_ ≠ gb569) ho0 (fun k_ hk_ => Or.elim hk_ (fun hs_ => hs_) (fun hn_ => (Kd.freshB (bk BK569) k_ hn_)))) (below_size (lk HB))); replace BK569 := bb BK569 hb; replace HB := lb HB hb; (try clear hb); (try clear hb2); (try clear hk); (try clear hi); (try clear ho0)))
      go_meet
      case rel => exact ⟨_, (x4_2), (t579), H', ⟨by have := HJ1.out; have := HK2.out; first | omega | exact Nat.le_refl _⟩, ⟨vk HO_4⟩, ⟨vk HO581⟩, ⟨bk BK569⟩, ⟨lk HB⟩⟩
     case rest =>
      clear HC20
      try clear c1
      try clear p1
      try clear q1
      try clear hx1
      try clear c2
      try clear p2
      try clear c4
      try clear c5
      try clear c5b0
      try clear c5b1
      try clear c6
      try clear p6
      try clear c8
      try clear c9
      try clear c9b0
      try clear c11
      try clear c11b0
      try clear c12
      try clear c12b0
      try clear c13
      try clear c13b0
      try clear p14
      try clear q14
      try clear hx14
      try clear c23
      try clear c23b0
      try clear hcz10_0
      try clear hcz10_1
      try clear hcz16_0
      try clear hcz16_1
      try clear hcz22_0
      try clear hcz22_1
      try clear hcz25_0
      try clear hcz25_1
      try clear hcz29_0
      try clear hcz29_1
      try clear hcz4_0
      try clear hcz4_1
      try clear hcz6_0
      try clear hcz6_1
      try clear hcz7_0
      try clear hcz7_1
      try clear hfz10_0
      try clear hfz10_1
      try clear hfz16_0
      try clear hfz16_1
      try clear hfz22_0
      try clear hfz22_1
      try clear hfz25_0
      try clear hfz25_1
      try clear hfz29_0
      try clear hfz29_1
      try clear hfz4_0
      try clear hfz4_1
      try clear hfz6_0
      try clear hfz6_1
      try clear hfz7_0
      try clear hfz7_1
      try clear p14
      try clear p2
      try clear p6
      try clear q14
      obtain ⟨kq, x4_19, x6_19, HA, HJ19, HO_4, HO_6, BK569, HB⟩ := hcut
      cases kq with
      | zero => exact absurd HA.out (by simp [num_decimal_bits.j2])
      | succ kj19 =>
       have H := HA.out
       clear HA
       simp only [num_decimal_bits.j2] at H
       replace H := Option.bind_eq_some_iff.mp H
       obtain ⟨t582, A320, H⟩ := H
       have A32 := Aside0.mk A320
       clear A320
       replace H := Option.bind_eq_some_iff.mp H
       obtain ⟨t583, A330, H⟩ := H
       have A33 := Aside0.mk A330
       clear A330
       have HC34 := Aside0.mk H
       clear H
       obtain ⟨Ao35, co35, eo35⟩ := Kd.V_slice HO_4.out
       subst eo35
       go_upto_if 63 with (first | ((with_reducible refine gate_callee (f := 51) rfl ?_); refine gL (some 57) Tryd.func51 #[.slice Ao35 x4_19.length co35] ?_; (with_reducible refine (num_nat_size.calls _ _ x4_19 t582 _ ?side1 ?side2 A32.out).mono ?_); (case side1 => exact ck (Kd.V_reads' HO_4.out).2.2); (case side2 => exact (Kd.V_reads' HO_4.out).2.1); rintro e w' ⟨rfl, ⟨nd, rfl⟩⟩; refine ⟨_, rfl, ?_⟩; obtain ⟨Ao36, co36, eo36⟩ := Kd.V_slice HO_6.out; subst eo36) | ((with_reducible refine gate_callee (f := 51) rfl ?_); refine gL (some 59) Tryd.func51 #[.slice Ao36 x6_19.length co36] ?_; (with_reducible refine (num_nat_size.calls _ _ x6_19 t583 _ ?side1 ?side2 A33.out).mono ?_); (case side1 => exact ck (Kd.V_reads' HO_6.out).2.2); (case side2 => exact (Kd.V_reads' HO_6.out).2.1); rintro e w' ⟨rfl, ⟨nd, rfl⟩⟩; refine ⟨_, rfl, ?_⟩))
       (try simp only [Act.put, List.setIfInBounds_toArray, List.set_cons_zero, List.set_cons_succ])
       go_cut [4, 6] (fun v4 v6 wc => ∃ (kq : Nat) (x4_33 : List Int) (x6_33 : List Int), Aside0 (num_decimal_bits.j3 kq x4_33 x6_33 (wrap64 (56 - (wrap64 (t582 - t583)))) = some r) ∧ Aside0 (kq ≤ kj19) ∧ Aside0 (Kd.V (Kd.int .u32) 102 wc w.heap.size (fun k_ => k_ ≠ gb569) v4 x4_33) ∧ Aside0 (Kd.V (Kd.int .u32) 102 wc w.heap.size (fun k_ => k_ ≠ gb569) v6 x6_33) ∧ Aside0 (wc.heap[gb569]? = some (.cells #[.string a0_0, .int .i64 a0_1] 79 (0, 0))) ∧ Aside0 (Below w.heap.size w wc))
       case first =>
        have H := HC34.out
        clear HC34
        by_cases c37 : (wrap64 (56 - (wrap64 (t582 - t583)))) ≥ 0
        ·
         rw [if_pos c37] at H
         have c37b0 : decide (0 ≤ (wrap64 (56 - (wrap64 (t582 - t583))))) = true := decide_eq_true c37
         clear c37
         (first | rw [c37b0] | (simp only [i64_w, i32_w]; rw [c37b0]) | skip)
         replace H := Option.bind_eq_some_iff.mp H
         obtain ⟨t584, A380, H⟩ := H
         have A38 := Aside0.mk A380
         clear A380
         have H' := Aside0.mk H
         clear H
         go_wp2_with (first | ((with_reducible refine gate_callee (f := 46) rfl ?_); refine gL (some 66) Tryd.func46 #[.slice Ao35 x4_19.length co35, .int .i64 (wrap64 (56 - (wrap64 (t582 - t583))))] ?_; (with_reducible refine (num_nat_up.calls kj19 _ _ x4_19 (wrap64 (56 - (wrap64 (t582 - t583)))) t584 _ ?side1 ?side2 A38.out).mono ?_); (case side1 => exact ck (Kd.V_reads' HO_4.out).2.2); (case side2 => exact (Kd.V_reads' HO_4.out).2.1); rintro e w39 ⟨v585, rfl, ho0, hb⟩; refine ⟨_, rfl, ?_⟩; replace HO_4 := vb HO_4 hb; replace HO_6 := vb HO_6 hb; have HO586 := Aside0.mk (Kd.V_lower (Kd.V_mono (ok' := fun k_ => k_ ≠ gb569) ho0 (fun k_ hk_ => (Kd.freshB (bk BK569) k_ hk_))) (below_size (lk HB))); replace BK569 := bb BK569 hb; replace HB := lb HB hb; (try clear hb); (try clear hb2); (try clear hk); (try clear hi); (try clear ho0)))
         go_meet
         case rel => exact ⟨_, (t584), (x6_19), H', ⟨by have := HJ1.out; have := HK2.out; have := HJ19.out; first | omega | exact Nat.le_refl _⟩, ⟨vk HO586⟩, ⟨vk HO_6⟩, ⟨bk BK569⟩, ⟨lk HB⟩⟩
        rw [if_neg c37] at H
        have c37b0 : decide (0 ≤ (wrap64 (56 - (wrap64 (t582 - t583))))) = false := decide_eq_false c37
        clear c37
        (first | rw [c37b0] | (simp only [i64_w, i32_w]; rw [c37b0]) | skip)
        replace H := Option.bind_eq_some_iff.mp H
        obtain ⟨t587, A400, H⟩ := H
        have A40 := Aside0.mk A400
        clear A400
        have H' := Aside0.mk H
        clear H
        go_wp2_with (first | ((with_reducible refine gate_callee (f := 46) rfl ?_); refine gL (some 70) Tryd.func46 #[.slice Ao36 x6_19.length co36, .int .i64 (wrap64 (-(wrap64 (56 - (wrap64 (t582 - t583))))))] ?_; (with_reducible refine (num_nat_up.calls kj19 _ _ x6_19 (wrap64 (-(wrap64 (56 - (wrap64 (t582 - t583)))))) t587 _ ?side1 ?side2 A40.out).mono ?_); (case side1 => exact ck (Kd.V_reads' HO_6.out).2.2); (case side2 => exact (Kd.V_reads' HO_6.out).2.1); rintro e w41 ⟨v588, rfl, ho0, hb⟩; refine ⟨_, rfl, ?_⟩; replace HO_4 := vb HO_4 hb; replace HO_6 := vb HO_6 hb; have HO589 := Aside0.mk (Kd.V_lower (Kd.V_mono (ok' := fun k_ => k_ ≠ gb569) ho0 (fun k_ hk_ => (Kd.freshB (bk BK569) k_ hk_))) (below_size (lk HB))); replace BK569 := bb BK569 hb; replace HB := lb HB hb; (try clear hb); (try clear hb2); (try clear hk); (try clear hi); (try clear ho0)))
        go_meet
        case rel => exact ⟨_, (x4_19), (t587), H', ⟨by have := HJ1.out; have := HK2.out; have := HJ19.out; first | omega | exact Nat.le_refl _⟩, ⟨vk HO_4⟩, ⟨vk HO589⟩, ⟨bk BK569⟩, ⟨lk HB⟩⟩
       case rest =>
        clear HC34
        try clear c1
        try clear p1
        try clear q1
        try clear hx1
        try clear c2
        try clear p2
        try clear c3
        try clear c4
        try clear c5
        try clear c5b0
        try clear c5b1
        try clear c6
        try clear p6
        try clear c8
        try clear c9
        try clear c9b0
        try clear c11
        try clear c11b0
        try clear c12
        try clear c12b0
        try clear c13
        try clear c13b0
        try clear p14
        try clear q14
        try clear hx14
        try clear c23
        try clear c23b0
        try clear c37
        try clear c37b0
        try clear hcz10_0
        try clear hcz10_1
        try clear hcz16_0
        try clear hcz16_1
        try clear hcz22_0
        try clear hcz22_1
        try clear hcz25_0
        try clear hcz25_1
        try clear hcz29_0
        try clear hcz29_1
        try clear hcz4_0
        try clear hcz4_1
        try clear hcz6_0
        try clear hcz6_1
        try clear hcz7_0
        try clear hcz7_1
        try clear hfz10_0
        try clear hfz10_1
        try clear hfz16_0
        try clear hfz16_1
        try clear hfz22_0
        try clear hfz22_1
        try clear hfz25_0
        try clear hfz25_1
        try clear hfz29_0
        try clear hfz29_1
        try clear hfz4_0
        try clear hfz4_1
        try clear hfz6_0
        try clear hfz6_1
        try clear hfz7_0
        try clear hfz7_1
        try clear p1
        try clear p14
        try clear p2
        try clear p6
        try clear q1
        try clear q14
        obtain ⟨kq, x4_33, x6_33, HA, HJ33, HO_4, HO_6, BK569, HB⟩ := hcut
        cases kq with
        | zero => exact absurd HA.out (by simp [num_decimal_bits.j3])
        | succ kj33 =>
         have H := HA.out
         clear HA
         simp only [num_decimal_bits.j3] at H
         have H' := Aside0.mk H
         clear H
         go_wp2
         go_loopg [4, 8, 9] kj33 (fun kq v4 v8 v9 w' => ∃ (x4_5 : List Int) (x8_5 : Int) (x9_5 : Int), v8 = .int .u64 x8_5 ∧ v9 = .int .i64 x9_5 ∧ Aside0 (num_decimal_bits.l1 kq x4_5 x6_33 (wrap64 (56 - (wrap64 (t582 - t583)))) x8_5 x9_5 = some r) ∧ Aside0 (kq ≤ kj33) ∧ Aside0 (Kd.V (Kd.int .u32) 102 w' w.heap.size (fun k_ => k_ ≠ gb569) v4 x4_5) ∧ Aside0 (Kd.V (Kd.int .u32) 102 w' w.heap.size (fun k_ => k_ ≠ gb569) u6 x6_33) ∧ Aside0 (w'.heap[gb569]? = some (.cells #[.string a0_0, .int .i64 a0_1] 79 (0, 0))) ∧ Aside0 (Below w.heap.size w w'))
         case atStart => exact ⟨(x4_33), (0), (57), (by first | rfl | (simp; done) | (simp [*]; done)), (by first | rfl | (simp; done) | (simp [*]; done)), H', ⟨Nat.le_refl _⟩, ⟨vk HO_4⟩, ⟨vk HO_6⟩, ⟨bk BK569⟩, ⟨lk HB⟩⟩
         case round =>
          clear H'
          try clear c1
          try clear p1
          try clear q1
          try clear hx1
          try clear c2
          try clear p2
          try clear c3
          try clear c4
          try clear c5
          try clear c5b0
          try clear c5b1
          try clear c6
          try clear p6
          try clear c8
          try clear c9
          try clear c9b0
          try clear c11
          try clear c11b0
          try clear c12
          try clear c12b0
          try clear c13
          try clear c13b0
          try clear p14
          try clear q14
          try clear hx14
          try clear c23
          try clear c23b0
          try clear c37
          try clear c37b0
          try clear hcz10_0
          try clear hcz10_1
          try clear hcz16_0
          try clear hcz16_1
          try clear hcz22_0
          try clear hcz22_1
          try clear hcz25_0
          try clear hcz25_1
          try clear hcz29_0
          try clear hcz29_1
          try clear hcz4_0
          try clear hcz4_1
          try clear hcz6_0
          try clear hcz6_1
          try clear hcz7_0
          try clear hcz7_1
          try clear hfz10_0
          try clear hfz10_1
          try clear hfz16_0
          try clear hfz16_1
          try clear hfz22_0
          try clear hfz22_1
          try clear hfz25_0
          try clear hfz25_1
          try clear hfz29_0
          try clear hfz29_1
          try clear hfz4_0
          try clear hfz4_1
          try clear hfz6_0
          try clear hfz6_1
          try clear hfz7_0
          try clear hfz7_1
          try clear p1
          try clear p14
          try clear p2
          try clear p6
          try clear q1
          try clear q14
          obtain ⟨x4_5, x8_5, x9_5, rfl, rfl, HA, HK5, HO_4, HO_6, BK569, HB⟩ := hrel
          cases gk with
          | zero => exact absurd HA.out (by simp [num_decimal_bits.l1])
          | succ k5 =>
           have H := HA.out
           clear HA
           simp only [num_decimal_bits.l1] at H
           by_cases c42 : x9_5 ≥ 0
           ·
            rw [if_pos c42] at H
            have c42b0 : decide (0 ≤ x9_5) = true := decide_eq_true c42
            clear c42
            replace H := Option.bind_eq_some_iff.mp H
            obtain ⟨t591, A430, H⟩ := H
            have A43 := Aside0.mk A430
            clear A430
            replace H := Option.bind_eq_some_iff.mp H
            obtain ⟨t594, A440, H⟩ := H
            have A44 := Aside0.mk A440
            clear A440
            by_cases c45 : t594 ≥ 0
            ·
             rw [if_pos c45] at H
             have c45b0 : decide (0 ≤ t594) = true := decide_eq_true c45
             clear c45
             replace H := Option.bind_eq_some_iff.mp H
             obtain ⟨t595, A460, H⟩ := H
             have A46 := Aside0.mk A460
             clear A460
             by_cases c47 : 0 ≤ x9_5
             ·
              rw [if_pos c47] at H
              have c47b0 := eq_true c47
              have c47b1 : decide (0 ≤ x9_5) = true := decide_eq_true c47
              clear c47
              obtain ⟨ji48, hji48⟩ : ∃ j_ : Int, (shl .u64 1 x9_5) = j_ := ⟨_, rfl⟩
              replace H : (num_decimal_bits.l1 k5 t595 x6_33 (wrap64 (56 - (wrap64 (t582 - t583)))) (Go.bits .or .u64 x8_5 (ji48)) (wrap64 (x9_5 - 1))) = some r := by first | (rw [hji48] at H; exact H) | (simp only [hji48] at H ⊢; exact H)
              (try rw [hji48] at A43)
              (try rw [hji48] at A44)
              (try rw [hji48] at A46)
              have hji48_ : (IntKind.u64.wrap (1 * 2 ^ min x9_5.toNat 64)) = ji48 := hji48
              have hji48z : x9_5 ≤ 64 → (IntKind.u64.wrap (1 * 2 ^ x9_5.toNat)) = ji48 := shl_small hji48
              have hji48u : (IntKind.u64.wrap (2 ^ min x9_5.toNat 64)) = ji48 := by have h_ := hji48_; rw [Int.one_mul] at h_; exact h_
              have hji48v : x9_5 ≤ 64 → (IntKind.u64.wrap (2 ^ x9_5.toNat)) = ji48 := fun hle_ => by have h_ := hji48z hle_; rw [Int.one_mul] at h_; exact h_
              have H' := Aside0.mk H
              clear H
              obtain ⟨Ao49, co49, eo49⟩ := Kd.V_slice HO_6.out
              subst eo49
              go_wp2_with (first | ((with_reducible refine gate_callee (f := 46) rfl ?_); refine gL (some 77) Tryd.func46 #[.slice Ao49 x6_33.length co49, .int .i64 x9_5] ?_; (with_reducible refine (num_nat_up.calls k5 _ _ x6_33 x9_5 t591 _ ?side1 ?side2 A43.out).mono ?_); (case side1 => exact ck (Kd.V_reads' HO_6.out).2.2); (case side2 => exact (Kd.V_reads' HO_6.out).2.1); rintro e w50 ⟨v592, rfl, ho0, hb⟩; refine ⟨_, rfl, ?_⟩; replace HO_4 := vb HO_4 hb; replace HO_6 := vb HO_6 hb; have HO593 := Aside0.mk (Kd.V_lower (Kd.V_mono (ok' := fun k_ => k_ ≠ gb569) ho0 (fun k_ hk_ => (Kd.freshB (bk BK569) k_ hk_))) (below_size (lk HB))); replace BK569 := bb BK569 hb; replace HB := lb HB hb; (try clear hb); (try clear hb2); (try clear hk); (try clear hi); (try clear ho0); obtain ⟨Ao51, co51, eo51⟩ := Kd.V_slice HO_4.out; subst eo51; obtain ⟨Ao52, co52, eo52⟩ := Kd.V_slice HO593.out; subst eo52) | ((with_reducible refine gate_callee (f := 49) rfl ?_); refine gL (some 80) Tryd.func49 #[.slice Ao51 x4_5.length co51, .slice Ao52 t591.length co52] ?_; (with_reducible refine (num_nat_against.calls k5 _ _ x4_5 _ _ t591 t594 _ ?side1 ?side2 ?side3 ?side4 A44.out).mono ?_); (case side1 => exact ck (Kd.V_reads' HO_4.out).2.2); (case side2 => exact (Kd.V_reads' HO_4.out).2.1); (case side3 => exact ck (Kd.V_reads' HO593.out).2.2); (case side4 => exact (Kd.V_reads' HO593.out).2.1); rintro e w' ⟨rfl, ⟨nd, rfl⟩⟩; refine ⟨_, rfl, ?_⟩) | ((with_reducible refine gate_callee (f := 87) rfl ?_); refine gL (some 84) Tryd.func87 #[.slice Ao51 x4_5.length co51, .slice Ao52 t591.length co52] ?_; (with_reducible refine (num_nat_less.calls k5 _ _ x4_5 _ _ t591 t595 _ ?side1 ?side2 ?side3 ?side4 A46.out).mono ?_); (case side1 => exact ck (Kd.V_reads' HO_4.out).2.2); (case side2 => exact (Kd.V_reads' HO_4.out).2.1); (case side3 => exact ck (Kd.V_reads' HO593.out).2.2); (case side4 => exact (Kd.V_reads' HO593.out).2.1); rintro e w53 ⟨v596, rfl, ho0, hb⟩; refine ⟨_, rfl, ?_⟩; replace HO_4 := vb HO_4 hb; replace HO_6 := vb HO_6 hb; replace HO593 := vb HO593 hb; have HO597 := Aside0.mk (Kd.V_lower (Kd.V_mono (ok' := fun k_ => k_ ≠ gb569) ho0 (fun k_ hk_ => (Kd.freshB (bk BK569) k_ hk_))) (below_size (lk HB))); replace BK569 := bb BK569 hb; replace HB := lb HB hb; (try clear hb); (try clear hb2); (try clear hk); (try clear hi); (try clear ho0)))
              go_roundg k5
              case measure => have := HJ1.out; have := HK2.out; have := HJ19.out; have := HJ33.out; have := HK5.out; omega
              case rel => exact ⟨(t595), (Go.bits .or .u64 x8_5 (ji48)), (wrap64 (x9_5 - 1)), (by first | rfl | (simp; done) | (simp only [← hji48] <;> (first | rfl | simp)) | (simp [*]; done)), (by first | rfl | (simp; done) | (simp [*]; done)), H', ⟨by have := HJ1.out; have := HK2.out; have := HJ19.out; have := HJ33.out; have := HK5.out; omega⟩, ⟨vk HO597⟩, ⟨vk HO_6⟩, ⟨bk BK569⟩, ⟨lk HB⟩⟩
             rw [if_neg c47] at H
             exact absurd H (by simp)
            rw [if_neg c45] at H
            have c45b0 : decide (0 ≤ t594) = false := decide_eq_false c45
            clear c45
            have H' := Aside0.mk H
            clear H
            obtain ⟨Ao54, co54, eo54⟩ := Kd.V_slice HO_6.out
            subst eo54
            go_wp2_with (first | ((with_reducible refine gate_callee (f := 46) rfl ?_); refine gL (some 77) Tryd.func46 #[.slice Ao54 x6_33.length co54, .int .i64 x9_5] ?_; (with_reducible refine (num_nat_up.calls k5 _ _ x6_33 x9_5 t591 _ ?side1 ?side2 A43.out).mono ?_); (case side1 => exact ck (Kd.V_reads' HO_6.out).2.2); (case side2 => exact (Kd.V_reads' HO_6.out).2.1); rintro e w55 ⟨v592, rfl, ho0, hb⟩; refine ⟨_, rfl, ?_⟩; replace HO_4 := vb HO_4 hb; replace HO_6 := vb HO_6 hb; have HO593 := Aside0.mk (Kd.V_lower (Kd.V_mono (ok' := fun k_ => k_ ≠ gb569) ho0 (fun k_ hk_ => (Kd.freshB (bk BK569) k_ hk_))) (below_size (lk HB))); replace BK569 := bb BK569 hb; replace HB := lb HB hb; (try clear hb); (try clear hb2); (try clear hk); (try clear hi); (try clear ho0); obtain ⟨Ao56, co56, eo56⟩ := Kd.V_slice HO_4.out; subst eo56; obtain ⟨Ao57, co57, eo57⟩ := Kd.V_slice HO593.out; subst eo57) | ((with_reducible refine gate_callee (f := 49) rfl ?_); refine gL (some 80) Tryd.func49 #[.slice Ao56 x4_5.length co56, .slice Ao57 t591.length co57] ?_; (with_reducible refine (num_nat_against.calls k5 _ _ x4_5 _ _ t591 t594 _ ?side1 ?side2 ?side3 ?side4 A44.out).mono ?_); (case side1 => exact ck (Kd.V_reads' HO_4.out).2.2); (case side2 => exact (Kd.V_reads' HO_4.out).2.1); (case side3 => exact ck (Kd.V_reads' HO593.out).2.2); (case side4 => exact (Kd.V_reads' HO593.out).2.1); rintro e w' ⟨rfl, ⟨nd, rfl⟩⟩; refine ⟨_, rfl, ?_⟩))
            go_roundg k5
            case measure => have := HJ1.out; have := HK2.out; have := HJ19.out; have := HJ33.out; have := HK5.out; omega
            case rel => exact ⟨(x4_5), (x8_5), (wrap64 (x9_5 - 1)), (by first | rfl | (simp; done) | (simp [*]; done)), (by first | rfl | (simp; done) | (simp [*]; done)), H', ⟨by have := HJ1.out; have := HK2.out; have := HJ19.out; have := HJ33.out; have := HK5.out; omega⟩, ⟨vk HO_4⟩, ⟨vk HO_6⟩, ⟨bk BK569⟩, ⟨lk HB⟩⟩
           rw [if_neg c42] at H
           have c42b0 : decide (0 ≤ x9_5) = false := decide_eq_false c42
           clear c42
           replace H := Option.bind_eq_some_iff.mp H
           obtain ⟨t590, A580, H⟩ := H
           replace H : (some t590) = some r := H
           have A58 := Aside0.mk A580
           clear A580
           obtain rfl := Option.some.inj H
           obtain ⟨Ao59, co59, eo59⟩ := Kd.V_slice HO_4.out
           subst eo59
           go_wp2_with (first | ((with_reducible refine gate_callee (f := 102) rfl ?_); refine gL (some 95) Tryd.func102 #[.int .u64 x8_5, .int .i64 (wrap64 (-(wrap64 (56 - (wrap64 (t582 - t583)))))), .bool (decide (0 < x4_5.length))] ?_; (with_reducible refine (num_nearest.calls k5 x8_5 (wrap64 (-(wrap64 (56 - (wrap64 (t582 - t583)))))) (decide (0 < x4_5.length)) t590 _ A58.out).mono ?_); rintro e w60 ⟨rfl, hb⟩; refine ⟨_, rfl, ?_⟩; replace HO_4 := vb HO_4 hb; replace HO_6 := vb HO_6 hb; replace BK569 := bb BK569 hb; replace HB := lb HB hb; (try clear hb); (try clear hb2); (try clear hk); (try clear hi)))
           go_ret
           exact ex (lk HB)
end Go.Proofs.YtjlnfnfdibfniaaDoor.F

