/- Words and walked functions of the proof (part 3). -/
import Derived.Test.YtjlnfnfdibfniaaDoorCMono2
import Derived.Laws.IdiomStrings
import Derived.Outline
-- Written by a program of this session (wip/vprint.py): Lean checks it.
namespace Go.Proofs.YtjlnfnfdibfniaaDoor.F
open Go.RowKit Go.Proofs.YtjlnfnfdibfniaaDoorW.PrintWords Go.Proofs.YtjlnfnfdibfniaaDoorW.PrintLast Go.Proofs.YtjlnfnfdibfniaaDoorW.PrintMore
attribute [local go_sem] max2_int min2_int max_two min_two max_three min_three max_four min_four   -- for this text's walks alone
set_option linter.unusedVariables false
set_option linter.unusedSimpArgs false

/-! ### strings_TrimLeft: function 101 -/
mutual
def strings_TrimLeft.j0 : Nat → ByteArray → ByteArray → Bool → Option (ByteArray)
 | 0, _, _, _ => none
 | k + 1, x0, x1, x12 => if x12 = true then (some x0) else (if (x1.size : Int) = 1 then (if 0 < (x1.size : Int) then (strings_TrimLeft.j1 k x0 x1 (decide ((bt x1 0) < 128))) else (none)) else (strings_TrimLeft.j1 k x0 x1 false))
def strings_TrimLeft.j1 : Nat → ByteArray → ByteArray → Bool → Option (ByteArray)
 | 0, _, _, _ => none
 | k + 1, x0, x1, x21 => if x21 = true then (if 0 < (x1.size : Int) then ((strings_trimLeftByte.f k x0 (bt x1 0)).bind fun t551 => (some t551)) else (none)) else (none)
end
def strings_TrimLeft.f (k : Nat) (a0 : ByteArray) (a1 : ByteArray) : Option (ByteArray) := if a0.toList = ([] : List UInt8) then (strings_TrimLeft.j0 k a0 a1 true) else (strings_TrimLeft.j0 k a0 a1 (a1.toList == ([] : List UInt8)))
theorem strings_TrimLeft.mono_l : ∀ k, (∀ y0 y1 y2, LeO (strings_TrimLeft.j0 k y0 y1 y2) (strings_TrimLeft.j0 (k + 1) y0 y1 y2)) ∧ (∀ y0 y1 y2, LeO (strings_TrimLeft.j1 k y0 y1 y2) (strings_TrimLeft.j1 (k + 1) y0 y1 y2))
 | 0 => ⟨fun _ _ _ r h => by simp [strings_TrimLeft.j0] at h, fun _ _ _ r h => by simp [strings_TrimLeft.j1] at h⟩
 | k + 1 => by
  obtain ⟨ih0, ih1⟩ := strings_TrimLeft.mono_l k
  refine ⟨?_, ?_⟩
  ·
   intro y0 y1 y2
   unfold strings_TrimLeft.j0
   repeat' first | (with_reducible exact ih0 _ _ _) | (with_reducible exact ih1 _ _ _) | (with_reducible exact strings_trimLeftByte.mono _ _ _) | (with_reducible exact LeO.refl _) | (with_reducible exact LeO.none _) | (with_reducible refine LeO.ite ?_ ?_) | (with_reducible refine LeO.bind ?_ (fun _ => ?_))
  ·
   intro y0 y1 y2
   unfold strings_TrimLeft.j1
   repeat' first | (with_reducible exact ih0 _ _ _) | (with_reducible exact ih1 _ _ _) | (with_reducible exact strings_trimLeftByte.mono _ _ _) | (with_reducible exact LeO.refl _) | (with_reducible exact LeO.none _) | (with_reducible refine LeO.ite ?_ ?_) | (with_reducible refine LeO.bind ?_ (fun _ => ?_))
theorem strings_TrimLeft.mono : ∀ a0 a1 k, LeO (strings_TrimLeft.f k a0 a1) (strings_TrimLeft.f (k + 1) a0 a1) := by
 intro a0 a1 k
 obtain ⟨ih0, ih1⟩ := strings_TrimLeft.mono_l k
 unfold strings_TrimLeft.f
 repeat' first | (with_reducible exact ih0 _ _ _) | (with_reducible exact ih1 _ _ _) | (with_reducible exact strings_trimLeftByte.mono _ _ _) | (with_reducible exact LeO.refl _) | (with_reducible exact LeO.none _) | (with_reducible refine LeO.ite ?_ ?_) | (with_reducible refine LeO.bind ?_ (fun _ => ?_))
set_option maxHeartbeats 8000000 in
set_option maxRecDepth 100000 in
theorem strings_TrimLeft.calls (k : Nat) (a0 : ByteArray) (a1 : ByteArray) (r : ByteArray) (w : World) (h : strings_TrimLeft.f k a0 a1 = some r) :
  Calls Tryd.prog 101 #[.string a0, .string a1] w fun e w' => e = .returned (.string r) ∧ Below w.heap.size w w' := by
 have HB := Aside0.mk (Below.refl w.heap.size w)
 have H : (if a0.toList = ([] : List UInt8) then (strings_TrimLeft.j0 k a0 a1 true) else (strings_TrimLeft.j0 k a0 a1 (a1.toList == ([] : List UInt8)))) = some r := h
 clear h
 have HC3 := Aside0.mk H
 clear H
 go_enter Tryd.func101, Tryd.ntmps101
 go_upto_region 1 with (fail)
 go_cut [12] (fun v12 wc => ∃ (kq : Nat) (x12_2 : Bool), v12 = .bool x12_2 ∧ Aside0 (strings_TrimLeft.j0 kq a0 a1 x12_2 = some r) ∧ Aside0 (kq ≤ k) ∧ Aside0 (Below w.heap.size w wc))
 case first =>
  have H := HC3.out
  clear HC3
  by_cases c4 : a0.toList = ([] : List UInt8)
  ·
   rw [if_pos c4] at H
   have c4b0 : (a0.toList == ([] : List UInt8)) = true := beq_iff_eq.mpr c4
   have c4b1 : (a0.toList != ([] : List UInt8)) = false := bne_eq_false_iff_eq.mpr c4
   clear c4
   (first | rw [c4b0] | (simp only [i64_w, i32_w]; rw [c4b0]) | skip)
   have H' := Aside0.mk H
   clear H
   go_wp2
   go_meet
   case rel => exact ⟨_, (true), (by first | rfl | (simp; done) | (simp [*]; done)), H', ⟨by first | omega | exact Nat.le_refl _⟩, ⟨lk HB⟩⟩
  ·
   rw [if_neg c4] at H
   have c4b0 : (a0.toList == ([] : List UInt8)) = false := beq_eq_false_iff_ne.mpr c4
   have c4b1 : (a0.toList != ([] : List UInt8)) = true := bne_iff_ne.mpr c4
   (first | rw [c4b0] | (simp only [i64_w, i32_w]; rw [c4b0]) | skip)
   have H' := Aside0.mk H
   clear H
   go_wp2
   go_meet
   case rel => exact ⟨_, ((a1.toList == ([] : List UInt8))), (by first | rfl | (simp; done) | (simp [*]; done)), H', ⟨by first | omega | exact Nat.le_refl _⟩, ⟨lk HB⟩⟩
 case rest =>
  clear HC3
  try clear c1
  try clear p2
  try clear c4
  try clear c4b0
  try clear c4b1
  obtain ⟨kq, x12_2, rfl, HA, HJ2, HB⟩ := hcut
  cases kq with
  | zero => exact absurd HA.out (by simp [strings_TrimLeft.j0])
  | succ kj2 =>
   have H := HA.out
   clear HA
   simp only [strings_TrimLeft.j0] at H
   by_cases c5 : x12_2 = true
   ·
    subst c5
    have H1 : (some a0) = some r := by rw [if_pos rfl] at H; exact H
    clear H
    have H := H1
    clear H1
    obtain rfl := Option.some.inj H
    go_wp2
    go_ret
    exact ex (lk HB)
   ·
    replace c5 := Bool.eq_false_iff.mpr c5
    subst c5
    have H1 : (if (a1.size : Int) = 1 then (if 0 < (a1.size : Int) then (strings_TrimLeft.j1 kj2 a0 a1 (decide ((bt a1 0) < 128))) else (none)) else (strings_TrimLeft.j1 kj2 a0 a1 false)) = some r := by rw [if_neg (show ¬ (false = true) by decide)] at H; exact H
    clear H
    have H := H1
    clear H1
    have HC6 := Aside0.mk H
    clear H
    go_upto_region 3 with (fail)
    go_cut [21] (fun v21 wc => ∃ (kq : Nat) (x21_5 : Bool), v21 = .bool x21_5 ∧ Aside0 (strings_TrimLeft.j1 kq a0 a1 x21_5 = some r) ∧ Aside0 (kq ≤ kj2) ∧ Aside0 (Below w.heap.size w wc))
    case first =>
     have H := HC6.out
     clear HC6
     by_cases c7 : (a1.size : Int) = 1
     ·
      rw [if_pos c7] at H
      have c7b0 : ((a1.size : Int) == 1) = true := beq_iff_eq.mpr c7
      have c7b1 : ((a1.size : Int) != 1) = false := bne_eq_false_iff_eq.mpr c7
      clear c7
      (first | rw [c7b0] | (simp only [i64_w, i32_w]; rw [c7b0]) | skip)
      by_cases c8 : 0 < (a1.size : Int)
      ·
       rw [if_pos c8] at H
       have c8b0 : decide (0 < (a1.size : Int)) = true := decide_eq_true c8
       have c8b1 : decide (0 < a1.size) = true := decide_eq_true (by omega)
       clear c8
       have H' := Aside0.mk H
       clear H
       have p9 : 0 ≤ (0 : Int) := (by omega)
       have q9 : 0 < a1.size := (by have : (0 : Int) < (a1.size : Int) := of_decide_eq_true (by first | (with_reducible assumption) | assumption); omega)
       have hx9 : ∀ h : 0 < a1.size, ((a1[0]'h).toNat : Int) = bt a1 0 := bt_at a1 0
       clear p9
       have qi9 : (0 < (a1.size : Int)) = True := eq_true (of_decide_eq_true (by first | (with_reducible assumption) | assumption))
       replace q9 := eq_true q9
       go_wp2
       go_meet
       case rel => exact ⟨_, (decide ((bt a1 0) < 128)), (by first | rfl | (simp; done) | (simp [*]; done)), H', ⟨by have := HJ2.out; first | omega | exact Nat.le_refl _⟩, ⟨lk HB⟩⟩
      ·
       rw [if_neg c8] at H
       exact absurd H (by simp)
     ·
      rw [if_neg c7] at H
      have c7b0 : ((a1.size : Int) == 1) = false := beq_eq_false_iff_ne.mpr c7
      have c7b1 : ((a1.size : Int) != 1) = true := bne_iff_ne.mpr c7
      (first | rw [c7b0] | (simp only [i64_w, i32_w]; rw [c7b0]) | skip)
      have H' := Aside0.mk H
      clear H
      go_wp2
      go_meet
      case rel => exact ⟨_, (false), (by first | rfl | (simp; done) | (simp [*]; done)), H', ⟨by have := HJ2.out; first | omega | exact Nat.le_refl _⟩, ⟨lk HB⟩⟩
    case rest =>
     clear HC6
     try clear c1
     try clear p2
     try clear c4
     try clear c4b0
     try clear c4b1
     try clear c5
     try clear c7
     try clear c7b0
     try clear c7b1
     try clear c8
     try clear c8b0
     try clear c8b1
     try clear p9
     try clear q9
     try clear hx9
     try clear qi9
     try clear p2
     try clear p9
     try clear q9
     obtain ⟨kq, x21_5, rfl, HA, HJ5, HB⟩ := hcut
     cases kq with
     | zero => exact absurd HA.out (by simp [strings_TrimLeft.j1])
     | succ kj5 =>
      have H := HA.out
      clear HA
      simp only [strings_TrimLeft.j1] at H
      by_cases c10 : x21_5 = true
      ·
       subst c10
       have H1 : (if 0 < (a1.size : Int) then ((strings_trimLeftByte.f kj5 a0 (bt a1 0)).bind fun t551 => (some t551)) else (none)) = some r := by rw [if_pos rfl] at H; exact H
       clear H
       have H := H1
       clear H1
       by_cases c11 : 0 < (a1.size : Int)
       ·
        rw [if_pos c11] at H
        have c11b0 : decide (0 < (a1.size : Int)) = true := decide_eq_true c11
        have c11b1 : decide (0 < a1.size) = true := decide_eq_true (by omega)
        clear c11
        replace H := Option.bind_eq_some_iff.mp H
        obtain ⟨t551, A130, H⟩ := H
        replace H : (some t551) = some r := H
        have A13 := Aside0.mk A130
        clear A130
        obtain rfl := Option.some.inj H
        have p12 : 0 ≤ (0 : Int) := (by omega)
        have q12 : 0 < a1.size := (by have : (0 : Int) < (a1.size : Int) := of_decide_eq_true (by first | (with_reducible assumption) | assumption); omega)
        have hx12 : ∀ h : 0 < a1.size, ((a1[0]'h).toNat : Int) = bt a1 0 := bt_at a1 0
        clear p12
        have qi12 : (0 < (a1.size : Int)) = True := eq_true (of_decide_eq_true (by first | (with_reducible assumption) | assumption))
        replace q12 := eq_true q12
        go_wp2_with (first | ((with_reducible refine gate_callee (f := 116) rfl ?_); refine gL (some 25) Tryd.func116 #[.string a0, .int .u8 (bt a1 0)] ?_; (with_reducible refine (strings_trimLeftByte.calls kj5 a0 (bt a1 0) t551 _ A13.out).mono ?_); rintro e w' ⟨rfl, ⟨nd, rfl⟩⟩; refine ⟨_, rfl, ?_⟩))
        go_ret
        exact ex (lk HB)
       ·
        rw [if_neg c11] at H
        exact absurd H (by simp)
      ·
       replace c10 := Bool.eq_false_iff.mpr c10
       subst c10
       have H1 : (none) = some r := by rw [if_neg (show ¬ (false = true) by decide)] at H; exact H
       clear H
       have H := H1
       clear H1
       exact absurd H (by simp)


/-! ### num_read: function 66 -/
mutual
def num_read.j0 : Nat → ByteArray → ByteArray → Int → Option (ByteArray × Int × Bool)
 | 0, _, _, _ => none
 | k + 1, x0, x556000, x556001 => if x556000.toList = ([] : List UInt8) then (some (x556000, x556001, false)) else ((strings_TrimLeft.f k x556000 (⟨#[48]⟩ : ByteArray)).bind fun t563 => (if x0.toList = ([] : List UInt8) then (some (t563, x556001, true)) else (if 0 < (x0.size : Int) then (if (bt x0 0) = 101 then (num_read.j1 k x0 false t563 x556001) else (num_read.j1 k x0 ((bt x0 0) != 69) t563 x556001)) else (none))))
def num_read.j1 : Nat → ByteArray → Bool → ByteArray → Int → Option (ByteArray × Int × Bool)
 | 0, _, _, _, _ => none
 | k + 1, x0, x56, x556000, x556001 => if x56 = true then (some (x556000, x556001, false)) else (if 1 ≤ (x0.size : Int) then ((some (x0.extract 1 x0.size : ByteArray)).bind fun y564 => (if y564.toList = ([] : List UInt8) then (num_read.j2 k y564 1 false x556000 x556001) else (if 0 < (y564.size : Int) then (if (bt y564 0) = 43 then (num_read.j2 k y564 1 true x556000 x556001) else (num_read.j2 k y564 1 ((bt y564 0) == 45) x556000 x556001)) else (none)))) else (none))
def num_read.j2 : Nat → ByteArray → Int → Bool → ByteArray → Int → Option (ByteArray × Int × Bool)
 | 0, _, _, _, _, _ => none
 | k + 1, x0, x6, x71, x556000, x556001 => if x71 = true then (if 0 < (x0.size : Int) then (if (bt x0 0) = 45 then (if 1 ≤ (x0.size : Int) then (num_read.j3 k (x0.extract 1 x0.size) (-1) x556000 x556001) else (none)) else (if 1 ≤ (x0.size : Int) then (num_read.j3 k (x0.extract 1 x0.size) x6 x556000 x556001) else (none))) else (none)) else (num_read.j3 k x0 x6 x556000 x556001)
def num_read.j3 : Nat → ByteArray → Int → ByteArray → Int → Option (ByteArray × Int × Bool)
 | 0, _, _, _, _ => none
 | k + 1, x0, x6, x556000, x556001 => if x0.toList = ([] : List UInt8) then (num_read.j4 k x0 x6 true x556000 x556001) else ((num_run.f k x0).bind fun t567 => (num_read.j4 k x0 x6 (t567 != (x0.size : Int)) x556000 x556001))
def num_read.j4 : Nat → ByteArray → Int → Bool → ByteArray → Int → Option (ByteArray × Int × Bool)
 | 0, _, _, _, _, _ => none
 | k + 1, x0, x6, x85, x556000, x556001 => if x85 = true then (some (x556000, x556001, false)) else (num_read.l0 k x0 x6 0 (x0.size : Int) 0 x556000 x556001)
def num_read.l0 : Nat → ByteArray → Int → Int → Int → Int → ByteArray → Int → Option (ByteArray × Int × Bool)
 | 0, _, _, _, _, _, _, _ => none
 | k + 1, x0, x6, x7, x88, x89, x556000, x556001 => if x89 < x88 then (if 0 ≤ x89 then (if x89 < (x0.size : Int) then (num_read.l0 k x0 x6 (mn (wrap64 ((wrap64 (10 * x7)) + (((bt x0 x89) - 48) % 256))) 100000) x88 (wrap64 (x89 + 1)) x556000 x556001) else (none)) else (none)) else (some (x556000, wrap64 (x556001 + (wrap64 (x6 * x7))), true))
end
def num_read.f (k : Nat) (a0 : ByteArray) : Option (ByteArray × Int × Bool) := (num_run.f k a0).bind fun t553 => (if 0 ≤ t553 then (if t553 ≤ (a0.size : Int) then ((some (a0.extract 0 (t553 : Int).toNat : ByteArray)).bind fun y554 => ((some (a0.extract (t553 : Int).toNat a0.size : ByteArray)).bind fun y556 => ((strings_HasPrefix.f y556 (⟨#[46]⟩ : ByteArray)).bind fun t557 => (if t557 = true then (if 1 ≤ (y556.size : Int) then ((num_run.f k (y556.extract 1 y556.size)).bind fun t559 => (if 1 ≤ (wrap64 (1 + t559)) then (if (wrap64 (1 + t559)) ≤ (y556.size : Int) then ((some (y556.extract 1 ((wrap64 (1 + t559)) : Int).toNat : ByteArray)).bind fun y560 => (if y554.size + y560.size ≤ 9223372036854775807 then (if 0 ≤ (wrap64 (1 + t559)) then (num_read.j0 k (y556.extract ((wrap64 (1 + t559)) : Int).toNat y556.size) (y554 ++ y560) (wrap64 (-t559))) else (none)) else (none))) else (none)) else (none))) else (none)) else (num_read.j0 k y556 y554 0))))) else (none)) else (none))
theorem num_read.mono_l : ∀ k, (∀ y0 y1 y2, LeO (num_read.j0 k y0 y1 y2) (num_read.j0 (k + 1) y0 y1 y2)) ∧ (∀ y0 y1 y2 y3, LeO (num_read.j1 k y0 y1 y2 y3) (num_read.j1 (k + 1) y0 y1 y2 y3)) ∧ (∀ y0 y1 y2 y3 y4, LeO (num_read.j2 k y0 y1 y2 y3 y4) (num_read.j2 (k + 1) y0 y1 y2 y3 y4)) ∧ (∀ y0 y1 y2 y3, LeO (num_read.j3 k y0 y1 y2 y3) (num_read.j3 (k + 1) y0 y1 y2 y3)) ∧ (∀ y0 y1 y2 y3 y4, LeO (num_read.j4 k y0 y1 y2 y3 y4) (num_read.j4 (k + 1) y0 y1 y2 y3 y4)) ∧ (∀ y0 y1 y2 y3 y4 y5 y6, LeO (num_read.l0 k y0 y1 y2 y3 y4 y5 y6) (num_read.l0 (k + 1) y0 y1 y2 y3 y4 y5 y6))
 | 0 => ⟨fun _ _ _ r h => by simp [num_read.j0] at h, fun _ _ _ _ r h => by simp [num_read.j1] at h, fun _ _ _ _ _ r h => by simp [num_read.j2] at h, fun _ _ _ _ r h => by simp [num_read.j3] at h, fun _ _ _ _ _ r h => by simp [num_read.j4] at h, fun _ _ _ _ _ _ _ r h => by simp [num_read.l0] at h⟩
 | k + 1 => by
  obtain ⟨ih0, ih1, ih2, ih3, ih4, ih5⟩ := num_read.mono_l k
  refine ⟨?_, ?_, ?_, ?_, ?_, ?_⟩
  ·
   intro y0 y1 y2
   unfold num_read.j0
   repeat' first | (with_reducible exact ih0 _ _ _) | (with_reducible exact ih1 _ _ _ _) | (with_reducible exact ih2 _ _ _ _ _) | (with_reducible exact ih3 _ _ _ _) | (with_reducible exact ih4 _ _ _ _ _) | (with_reducible exact ih5 _ _ _ _ _ _ _) | (with_reducible exact num_run.mono _ _) | (with_reducible exact strings_TrimLeft.mono _ _ _) | (with_reducible exact LeO.refl _) | (with_reducible exact LeO.none _) | (with_reducible refine LeO.ite ?_ ?_) | (with_reducible refine LeO.bind ?_ (fun _ => ?_))
  ·
   intro y0 y1 y2 y3
   unfold num_read.j1
   repeat' first | (with_reducible exact ih0 _ _ _) | (with_reducible exact ih1 _ _ _ _) | (with_reducible exact ih2 _ _ _ _ _) | (with_reducible exact ih3 _ _ _ _) | (with_reducible exact ih4 _ _ _ _ _) | (with_reducible exact ih5 _ _ _ _ _ _ _) | (with_reducible exact num_run.mono _ _) | (with_reducible exact strings_TrimLeft.mono _ _ _) | (with_reducible exact LeO.refl _) | (with_reducible exact LeO.none _) | (with_reducible refine LeO.ite ?_ ?_) | (with_reducible refine LeO.bind ?_ (fun _ => ?_))
  ·
   intro y0 y1 y2 y3 y4
   unfold num_read.j2
   repeat' first | (with_reducible exact ih0 _ _ _) | (with_reducible exact ih1 _ _ _ _) | (with_reducible exact ih2 _ _ _ _ _) | (with_reducible exact ih3 _ _ _ _) | (with_reducible exact ih4 _ _ _ _ _) | (with_reducible exact ih5 _ _ _ _ _ _ _) | (with_reducible exact num_run.mono _ _) | (with_reducible exact strings_TrimLeft.mono _ _ _) | (with_reducible exact LeO.refl _) | (with_reducible exact LeO.none _) | (with_reducible refine LeO.ite ?_ ?_) | (with_reducible refine LeO.bind ?_ (fun _ => ?_))
  ·
   intro y0 y1 y2 y3
   unfold num_read.j3
   repeat' first | (with_reducible exact ih0 _ _ _) | (with_reducible exact ih1 _ _ _ _) | (with_reducible exact ih2 _ _ _ _ _) | (with_reducible exact ih3 _ _ _ _) | (with_reducible exact ih4 _ _ _ _ _) | (with_reducible exact ih5 _ _ _ _ _ _ _) | (with_reducible exact num_run.mono _ _) | (with_reducible exact strings_TrimLeft.mono _ _ _) | (with_reducible exact LeO.refl _) | (with_reducible exact LeO.none _) | (with_reducible refine LeO.ite ?_ ?_) | (with_reducible refine LeO.bind ?_ (fun _ => ?_))
  ·
   intro y0 y1 y2 y3 y4
   unfold num_read.j4
   repeat' first | (with_reducible exact ih0 _ _ _) | (with_reducible exact ih1 _ _ _ _) | (with_reducible exact ih2 _ _ _ _ _) | (with_reducible exact ih3 _ _ _ _) | (with_reducible exact ih4 _ _ _ _ _) | (with_reducible exact ih5 _ _ _ _ _ _ _) | (with_reducible exact num_run.mono _ _) | (with_reducible exact strings_TrimLeft.mono _ _ _) | (with_reducible exact LeO.refl _) | (with_reducible exact LeO.none _) | (with_reducible refine LeO.ite ?_ ?_) | (with_reducible refine LeO.bind ?_ (fun _ => ?_))
  ·
   intro y0 y1 y2 y3 y4 y5 y6
   unfold num_read.l0
   repeat' first | (with_reducible exact ih0 _ _ _) | (with_reducible exact ih1 _ _ _ _) | (with_reducible exact ih2 _ _ _ _ _) | (with_reducible exact ih3 _ _ _ _) | (with_reducible exact ih4 _ _ _ _ _) | (with_reducible exact ih5 _ _ _ _ _ _ _) | (with_reducible exact num_run.mono _ _) | (with_reducible exact strings_TrimLeft.mono _ _ _) | (with_reducible exact LeO.refl _) | (with_reducible exact LeO.none _) | (with_reducible refine LeO.ite ?_ ?_) | (with_reducible refine LeO.bind ?_ (fun _ => ?_))
theorem num_read.mono : ∀ a0 k, LeO (num_read.f k a0) (num_read.f (k + 1) a0) := by
 intro a0 k
 obtain ⟨ih0, ih1, ih2, ih3, ih4, ih5⟩ := num_read.mono_l k
 unfold num_read.f
 repeat' first | (with_reducible exact ih0 _ _ _) | (with_reducible exact ih1 _ _ _ _) | (with_reducible exact ih2 _ _ _ _ _) | (with_reducible exact ih3 _ _ _ _) | (with_reducible exact ih4 _ _ _ _ _) | (with_reducible exact ih5 _ _ _ _ _ _ _) | (with_reducible exact num_run.mono _ _) | (with_reducible exact strings_TrimLeft.mono _ _ _) | (with_reducible exact LeO.refl _) | (with_reducible exact LeO.none _) | (with_reducible refine LeO.ite ?_ ?_) | (with_reducible refine LeO.bind ?_ (fun _ => ?_))
def num_read.T6 : Bool × List (List Nat × List Nat) := (true, [([], []), ([0], [0]), ([], []), ([], []), ([3], [3]), ([2, 4], [2, 4]), ([1, 5], [1, 5]), ([0, 1, 2, 3, 4, 5, 6], []), ([7, 6, 0, 1, 2, 3, 4, 5, 6], [6, 7])])
def num_read.B6 : List Nat := [0, 1, 0, 0, 8, 28, 63, 127, 255]
theorem num_read.tab6 : rtab .any (opsOf Tryd.f66 6) = num_read.T6 := by kernel_rfl
theorem num_read.bits6 : waitsOk num_read.T6.2 num_read.B6 = true := by kernel_rfl
set_option maxHeartbeats 8000000 in
set_option maxRecDepth 100000 in
theorem num_read.calls (k : Nat) (a0 : ByteArray) (r1 : ByteArray) (r2 : Int) (r3 : Bool) (w : World) (h : num_read.f k a0 = some (r1, r2, r3)) :
  Calls Tryd.prog 66 #[.string a0] w fun e w' => e = .returned (.tuple #[.agg #[.string r1, .int .i64 r2], .bool r3]) ∧ Below w.heap.size w w' := by
 have hu79 := Tryd.underlying79
 have HB := Aside0.mk (Below.refl w.heap.size w)
 have H : ((num_run.f k a0).bind fun t553 => (if 0 ≤ t553 then (if t553 ≤ (a0.size : Int) then ((some (a0.extract 0 (t553 : Int).toNat : ByteArray)).bind fun y554 => ((some (a0.extract (t553 : Int).toNat a0.size : ByteArray)).bind fun y556 => ((strings_HasPrefix.f y556 (⟨#[46]⟩ : ByteArray)).bind fun t557 => (if t557 = true then (if 1 ≤ (y556.size : Int) then ((num_run.f k (y556.extract 1 y556.size)).bind fun t559 => (if 1 ≤ (wrap64 (1 + t559)) then (if (wrap64 (1 + t559)) ≤ (y556.size : Int) then ((some (y556.extract 1 ((wrap64 (1 + t559)) : Int).toNat : ByteArray)).bind fun y560 => (if y554.size + y560.size ≤ 9223372036854775807 then (if 0 ≤ (wrap64 (1 + t559)) then (num_read.j0 k (y556.extract ((wrap64 (1 + t559)) : Int).toNat y556.size) (y554 ++ y560) (wrap64 (-t559))) else (none)) else (none))) else (none)) else (none))) else (none)) else (num_read.j0 k y556 y554 0))))) else (none)) else (none))) = some (r1, r2, r3) := h
 clear h
 replace H := Option.bind_eq_some_iff.mp H
 obtain ⟨t553, A20, H⟩ := H
 replace H : (if 0 ≤ t553 then (if t553 ≤ (a0.size : Int) then ((some (a0.extract 0 (t553 : Int).toNat : ByteArray)).bind fun y554 => ((some (a0.extract (t553 : Int).toNat a0.size : ByteArray)).bind fun y556 => ((strings_HasPrefix.f y556 (⟨#[46]⟩ : ByteArray)).bind fun t557 => (if t557 = true then (if 1 ≤ (y556.size : Int) then ((num_run.f k (y556.extract 1 y556.size)).bind fun t559 => (if 1 ≤ (wrap64 (1 + t559)) then (if (wrap64 (1 + t559)) ≤ (y556.size : Int) then ((some (y556.extract 1 ((wrap64 (1 + t559)) : Int).toNat : ByteArray)).bind fun y560 => (if y554.size + y560.size ≤ 9223372036854775807 then (if 0 ≤ (wrap64 (1 + t559)) then (num_read.j0 k (y556.extract ((wrap64 (1 + t559)) : Int).toNat y556.size) (y554 ++ y560) (wrap64 (-t559))) else (none)) else (none))) else (none)) else (none))) else (none)) else (num_read.j0 k y556 y554 0))))) else (none)) else (none)) = some (r1, r2, r3) := H
 have A2 := Aside0.mk A20
 clear A20
 by_cases c3 : 0 ≤ t553
 ·
  rw [if_pos c3] at H
  have c3b0 := eq_true c3
  have c3b1 : decide (0 ≤ t553) = true := decide_eq_true c3
  clear c3
  by_cases c4 : t553 ≤ (a0.size : Int)
  ·
   rw [if_pos c4] at H
   have c4b0 := eq_true c4
   have c4b1 : decide (t553 ≤ (a0.size : Int)) = true := decide_eq_true c4
   clear c4
   obtain ⟨y554, hy554⟩ : ∃ y_ : ByteArray, y_ = (a0.extract 0 (t553 : Int).toNat) := ⟨_, rfl⟩
   replace H : ((some (a0.extract (t553 : Int).toNat a0.size : ByteArray)).bind fun y556 => ((strings_HasPrefix.f y556 (⟨#[46]⟩ : ByteArray)).bind fun t557 => (if t557 = true then (if 1 ≤ (y556.size : Int) then ((num_run.f k (y556.extract 1 y556.size)).bind fun t559 => (if 1 ≤ (wrap64 (1 + t559)) then (if (wrap64 (1 + t559)) ≤ (y556.size : Int) then ((some (y556.extract 1 ((wrap64 (1 + t559)) : Int).toNat : ByteArray)).bind fun y560 => (if y554.size + y560.size ≤ 9223372036854775807 then (if 0 ≤ (wrap64 (1 + t559)) then (num_read.j0 k (y556.extract ((wrap64 (1 + t559)) : Int).toNat y556.size) (y554 ++ y560) (wrap64 (-t559))) else (none)) else (none))) else (none)) else (none))) else (none)) else (num_read.j0 k y556 y554 0)))) = some (r1, r2, r3) := by first | (rw [hy554]; with_reducible exact H) | (have H2_ := (Option.bind_some _ _).symm.trans H; rw [hy554]; with_reducible exact H2_) | (have H2_ := (Option.bind_some _ _).symm.trans H; with_reducible exact H2_) | with_reducible exact H | (rw [hy554]; exact H) | exact H
   have Ny554 := Aside0.mk hy554
   clear hy554
   have c5b0 := eq_true (of_decide_eq_true (by first | (with_reducible assumption) | assumption) : 0 ≤ t553)
   have c6b0 := eq_true (of_decide_eq_true (by first | (with_reducible assumption) | assumption) : t553 ≤ (a0.size : Int))
   obtain ⟨y556, hy556⟩ : ∃ y_ : ByteArray, y_ = (a0.extract (t553 : Int).toNat a0.size) := ⟨_, rfl⟩
   replace H : ((strings_HasPrefix.f y556 (⟨#[46]⟩ : ByteArray)).bind fun t557 => (if t557 = true then (if 1 ≤ (y556.size : Int) then ((num_run.f k (y556.extract 1 y556.size)).bind fun t559 => (if 1 ≤ (wrap64 (1 + t559)) then (if (wrap64 (1 + t559)) ≤ (y556.size : Int) then ((some (y556.extract 1 ((wrap64 (1 + t559)) : Int).toNat : ByteArray)).bind fun y560 => (if y554.size + y560.size ≤ 9223372036854775807 then (if 0 ≤ (wrap64 (1 + t559)) then (num_read.j0 k (y556.extract ((wrap64 (1 + t559)) : Int).toNat y556.size) (y554 ++ y560) (wrap64 (-t559))) else (none)) else (none))) else (none)) else (none))) else (none)) else (num_read.j0 k y556 y554 0))) = some (r1, r2, r3) := by first | (rw [hy556]; with_reducible exact H) | (have H2_ := (Option.bind_some _ _).symm.trans H; rw [hy556]; with_reducible exact H2_) | (have H2_ := (Option.bind_some _ _).symm.trans H; with_reducible exact H2_) | with_reducible exact H | (rw [hy556]; exact H) | exact H
   have Ny556 := Aside0.mk hy556
   clear hy556
   replace H := Option.bind_eq_some_iff.mp H
   obtain ⟨t557, A70, H⟩ := H
   replace H : (if t557 = true then (if 1 ≤ (y556.size : Int) then ((num_run.f k (y556.extract 1 y556.size)).bind fun t559 => (if 1 ≤ (wrap64 (1 + t559)) then (if (wrap64 (1 + t559)) ≤ (y556.size : Int) then ((some (y556.extract 1 ((wrap64 (1 + t559)) : Int).toNat : ByteArray)).bind fun y560 => (if y554.size + y560.size ≤ 9223372036854775807 then (if 0 ≤ (wrap64 (1 + t559)) then (num_read.j0 k (y556.extract ((wrap64 (1 + t559)) : Int).toNat y556.size) (y554 ++ y560) (wrap64 (-t559))) else (none)) else (none))) else (none)) else (none))) else (none)) else (num_read.j0 k y556 y554 0)) = some (r1, r2, r3) := H
   have A7 := Aside0.mk A70
   clear A70
   have HC8 := Aside0.mk H
   clear H
   go_enter Tryd.func66, Tryd.ntmps66
   go_upto_if 19 with (first | ((with_reducible refine gate_dst (N := 2) rfl ?_); (try (refine gate_guard (by rfl) ?_; dsimp only)); refine box_event ?hg (N := 2) ?hd (cs := #[.string (⟨#[]⟩ : ByteArray), .int .i64 0]) (t := 79) ?hr ?_; (case hd => rfl); (case hg => rfl); (case hr => first | (go_simp; done) | (go_simp; rfl)); intro gb552 hg w9 hbox hb; have BK552 := Aside0.mk (hbox); have GW552 := Aside0.mk ((by rw [hg]; exact (below_size (lk HB)) : w.heap.size ≤ gb552)); have GE552 := Aside0.mk ((by rw [hg]; exact (below_size (lk HB)) : w.heap.size ≤ gb552)); replace HB := lb HB hb; clear hb hbox hg) | ((with_reducible refine gate_callee (f := 76) rfl ?_); refine gL (some 10) Tryd.func76 #[.string a0] ?_; (with_reducible refine (num_run.calls k a0 t553 _ A2.out).mono ?_); rintro e w' ⟨rfl, ⟨nd, rfl⟩⟩; refine ⟨_, rfl, ?_⟩; (try (rw [drewN_self w9]; generalize hq_ : World.drewN w9 _ = w9; have n0_ : Aside0 (w9.heap[gb552]? = some (.cells #[.string (⟨#[]⟩ : ByteArray), .int .i64 0] 79 (0, 0))) := ⟨by rw [← hq_]; exact (bk BK552)⟩; have n1_ : Aside0 (Below w.heap.size w w9) := ⟨by rw [← hq_]; exact (lk HB)⟩; clear BK552 HB hq_; have BK552 := n0_; have HB := n1_; clear n0_ n1_)); have hcs10 := Hd.str_to (P := Tryd.prog) (k := .i64) Tryd.underlying9 (j := t553) (s := a0) (y := y554) (by first | (with_reducible assumption) | exact of_decide_eq_true (by first | (with_reducible assumption) | assumption) | omega) (by first | (with_reducible assumption) | exact of_decide_eq_true (by first | (with_reducible assumption) | assumption) | omega) Ny554.out) | ((with_reducible refine gate_dst (N := 5) rfl ?_); (try (refine gate_guard (by rfl) ?_; dsimp only)); refine box_event ?hg (N := 5) ?hd (cs := #[.string (⟨#[]⟩ : ByteArray), .int .i64 0]) (t := 79) ?hr ?_; (case hd => rfl); (case hg => rfl); (case hr => first | (go_simp; done) | (go_simp; rfl)); intro gb555 hg w11 hbox hb; have BK555 := Aside0.mk (hbox); have GW555 := Aside0.mk ((by rw [hg]; exact (below_size (lk HB)) : w.heap.size ≤ gb555)); have GE555 := Aside0.mk ((by rw [hg]; exact (below_size (lk HB)) : w.heap.size ≤ gb555)); replace HB := lb HB hb; have NB552_555 := Aside0.mk ((by rw [hg]; exact Nat.ne_of_lt (blk_lt (bk BK552)) : gb552 ≠ gb555)); have NB555_552 := Aside0.mk ((by rw [hg]; exact Nat.ne_of_gt (blk_lt (bk BK552)) : gb555 ≠ gb552)); replace BK552 := bb BK552 hb; clear hb hbox hg; have hnb12 := NB555_552.out; have hnc12 := NB552_555.out; have hcz13_0 : w11.cell? ⟨gb555, 0, none⟩ = some (.string (⟨#[]⟩ : ByteArray)) := (blk_cell BK555.out 0).trans rfl; have hcz13_1 : w11.cell? ⟨gb555, 1, none⟩ = some (.int .i64 0) := (blk_cell BK555.out 1).trans rfl; have hfz13_0 := blk_frozen BK555.out 0; have hfz13_1 := blk_frozen BK555.out 1; have hcs14 := Hd.str_from (P := Tryd.prog) (k := .i64) Tryd.underlying9 (i := t553) (s := a0) (y := y556) (by first | (with_reducible assumption) | exact of_decide_eq_true (by first | (with_reducible assumption) | assumption) | omega) (by first | (with_reducible assumption) | exact of_decide_eq_true (by first | (with_reducible assumption) | assumption) | omega) Ny556.out) | ((with_reducible refine gate_callee (f := 96) rfl ?_); refine gL (some 19) Tryd.func96 #[.string y556, .string (⟨#[46]⟩ : ByteArray)] ?_; (with_reducible refine (strings_HasPrefix.calls y556 (⟨#[46]⟩ : ByteArray) t557 _ A7.out).mono ?_); rintro e w' ⟨rfl, ⟨nd, rfl⟩⟩; refine ⟨_, rfl, ?_⟩))
   (try simp only [Act.put, List.setIfInBounds_toArray, List.set_cons_zero, List.set_cons_succ])
   go_cut [0] (fun v0 wc => ∃ (kq : Nat) (x0_7 : ByteArray) (x556000_7 : ByteArray) (x556001_7 : Int), v0 = .string x0_7 ∧ Aside0 (num_read.j0 kq x0_7 x556000_7 x556001_7 = some (r1, r2, r3)) ∧ Aside0 (kq ≤ k) ∧ Aside0 (wc.heap[gb552]? = some (.cells #[.string (⟨#[]⟩ : ByteArray), .int .i64 0] 79 (0, 0))) ∧ Aside0 (wc.heap[gb555]? = some (.cells #[.string x556000_7, .int .i64 x556001_7] 79 (0, 0))) ∧ Aside0 (Below w.heap.size w wc))
   case first =>
    have H := HC8.out
    clear HC8
    by_cases c15 : t557 = true
    ·
     subst c15
     have H1 : (if 1 ≤ (y556.size : Int) then ((num_run.f k (y556.extract 1 y556.size)).bind fun t559 => (if 1 ≤ (wrap64 (1 + t559)) then (if (wrap64 (1 + t559)) ≤ (y556.size : Int) then ((some (y556.extract 1 ((wrap64 (1 + t559)) : Int).toNat : ByteArray)).bind fun y560 => (if y554.size + y560.size ≤ 9223372036854775807 then (if 0 ≤ (wrap64 (1 + t559)) then (num_read.j0 k (y556.extract ((wrap64 (1 + t559)) : Int).toNat y556.size) (y554 ++ y560) (wrap64 (-t559))) else (none)) else (none))) else (none)) else (none))) else (none)) = some (r1, r2, r3) := by rw [if_pos rfl] at H; exact H
     clear H
     have H := H1
     clear H1
     by_cases c16 : 1 ≤ (y556.size : Int)
     ·
      rw [if_pos c16] at H
      have c16b0 := eq_true c16
      have c16b1 : decide (1 ≤ (y556.size : Int)) = true := decide_eq_true c16
      clear c16
      obtain ⟨y558, hy558⟩ : ∃ y_ : ByteArray, y_ = (y556.extract 1 y556.size) := ⟨_, rfl⟩
      replace H : ((num_run.f k y558).bind fun t559 => (if 1 ≤ (wrap64 (1 + t559)) then (if (wrap64 (1 + t559)) ≤ (y556.size : Int) then ((some (y556.extract 1 ((wrap64 (1 + t559)) : Int).toNat : ByteArray)).bind fun y560 => (if y554.size + y560.size ≤ 9223372036854775807 then (if 0 ≤ (wrap64 (1 + t559)) then (num_read.j0 k (y556.extract ((wrap64 (1 + t559)) : Int).toNat y556.size) (y554 ++ y560) (wrap64 (-t559))) else (none)) else (none))) else (none)) else (none))) = some (r1, r2, r3) := by first | (rw [hy558]; with_reducible exact H) | (have H2_ := (Option.bind_some _ _).symm.trans H; rw [hy558]; with_reducible exact H2_) | (have H2_ := (Option.bind_some _ _).symm.trans H; with_reducible exact H2_) | with_reducible exact H | (rw [hy558]; exact H) | exact H
      have Ny558 := Aside0.mk hy558
      clear hy558
      replace H := Option.bind_eq_some_iff.mp H
      obtain ⟨t559, A170, H⟩ := H
      replace H : (if 1 ≤ (wrap64 (1 + t559)) then (if (wrap64 (1 + t559)) ≤ (y556.size : Int) then ((some (y556.extract 1 ((wrap64 (1 + t559)) : Int).toNat : ByteArray)).bind fun y560 => (if y554.size + y560.size ≤ 9223372036854775807 then (if 0 ≤ (wrap64 (1 + t559)) then (num_read.j0 k (y556.extract ((wrap64 (1 + t559)) : Int).toNat y556.size) (y554 ++ y560) (wrap64 (-t559))) else (none)) else (none))) else (none)) else (none)) = some (r1, r2, r3) := H
      have A17 := Aside0.mk A170
      clear A170
      by_cases c18 : 1 ≤ (wrap64 (1 + t559))
      ·
       rw [if_pos c18] at H
       have c18b0 := eq_true c18
       have c18b1 : decide (1 ≤ (wrap64 (1 + t559))) = true := decide_eq_true c18
       by_cases c19 : (wrap64 (1 + t559)) ≤ (y556.size : Int)
       ·
        rw [if_pos c19] at H
        have c19b0 := eq_true c19
        have c19b1 : decide ((wrap64 (1 + t559)) ≤ (y556.size : Int)) = true := decide_eq_true c19
        obtain ⟨y560, hy560⟩ : ∃ y_ : ByteArray, y_ = (y556.extract 1 ((wrap64 (1 + t559)) : Int).toNat) := ⟨_, rfl⟩
        replace H : (if y554.size + y560.size ≤ 9223372036854775807 then (if 0 ≤ (wrap64 (1 + t559)) then (num_read.j0 k (y556.extract ((wrap64 (1 + t559)) : Int).toNat y556.size) (y554 ++ y560) (wrap64 (-t559))) else (none)) else (none)) = some (r1, r2, r3) := by first | (rw [hy560]; with_reducible exact H) | (have H2_ := (Option.bind_some _ _).symm.trans H; rw [hy560]; with_reducible exact H2_) | (have H2_ := (Option.bind_some _ _).symm.trans H; with_reducible exact H2_) | with_reducible exact H | (rw [hy560]; exact H) | exact H
        have Ny560 := Aside0.mk hy560
        clear hy560
        by_cases c20 : y554.size + y560.size ≤ 9223372036854775807
        ·
         rw [if_pos c20] at H
         have c20b0 := eq_true c20
         have c20b1 : decide (y554.size + y560.size ≤ 9223372036854775807) = true := decide_eq_true c20
         try have c20b2 : (9223372036854775807 < y554.size + y560.size) = False := eq_false (Nat.not_lt.2 c20)
         obtain ⟨y561, hy561⟩ : ∃ y_ : ByteArray, y_ = (y554 ++ y560) := ⟨_, rfl⟩
         replace H : (if 0 ≤ (wrap64 (1 + t559)) then (num_read.j0 k (y556.extract ((wrap64 (1 + t559)) : Int).toNat y556.size) y561 (wrap64 (-t559))) else (none)) = some (r1, r2, r3) := by first | (rw [hy561]; with_reducible exact H) | (have H2_ := (Option.bind_some _ _).symm.trans H; rw [hy561]; with_reducible exact H2_) | (have H2_ := (Option.bind_some _ _).symm.trans H; with_reducible exact H2_) | with_reducible exact H | (rw [hy561]; exact H) | exact H
         have Ny561 := Aside0.mk hy561
         clear hy561
         obtain ⟨ji21, hji21⟩ : ∃ j_ : Int, (wrap64 (1 + t559)) = j_ := ⟨_, rfl⟩
         replace H : (if 0 ≤ (ji21) then (num_read.j0 k (y556.extract ((ji21) : Int).toNat y556.size) y561 (wrap64 (-t559))) else (none)) = some (r1, r2, r3) := by first | (rw [hji21] at H; exact H) | (simp only [hji21] at H ⊢; exact H)
         (try rw [hji21] at c18b0)
         (try rw [hji21] at c18b1)
         (try rw [hji21] at c18)
         (try rw [hji21] at c19b0)
         (try rw [hji21] at c19b1)
         (try rw [hji21] at c19)
         (try rw [hji21] at A17)
         (try rw [hji21] at Ny560)
         have hji21w : (IntKind.i64.wrap (1 + t559)) = ji21 := (i64_w _).trans hji21
         by_cases c22 : 0 ≤ (ji21)
         ·
          rw [if_pos c22] at H
          have c22b0 := eq_true c22
          have c22b1 : decide (0 ≤ (ji21)) = true := decide_eq_true c22
          clear c22
          have c23b0 := eq_true (of_decide_eq_true (by first | (with_reducible assumption) | assumption) : (ji21) ≤ (y556.size : Int))
          obtain ⟨y562, hy562⟩ : ∃ y_ : ByteArray, y_ = (y556.extract ((ji21) : Int).toNat y556.size) := ⟨_, rfl⟩
          replace H : (num_read.j0 k y562 y561 (wrap64 (-t559))) = some (r1, r2, r3) := by first | (rw [hy562]; with_reducible exact H) | (have H2_ := (Option.bind_some _ _).symm.trans H; rw [hy562]; with_reducible exact H2_) | (have H2_ := (Option.bind_some _ _).symm.trans H; with_reducible exact H2_) | with_reducible exact H | (rw [hy562]; exact H) | exact H
          have Ny562 := Aside0.mk hy562
          clear hy562
          have H' := Aside0.mk H
          clear H
          have hcs24 := Hd.str_from (P := Tryd.prog) (k := .i64) Tryd.underlying9 (i := 1) (s := y556) (y := y558) (by first | (with_reducible assumption) | exact of_decide_eq_true (by first | (with_reducible assumption) | assumption) | omega) (by first | (with_reducible assumption) | exact of_decide_eq_true (by first | (with_reducible assumption) | assumption) | omega) Ny558.out
          try go_wp2_with (first | ((with_reducible refine gate_callee (f := 76) rfl ?_); refine gL (some 22) Tryd.func76 #[.string y558] ?_; (with_reducible refine (num_run.calls k y558 t559 _ A17.out).mono ?_); rintro e w' ⟨rfl, ⟨nd, rfl⟩⟩; refine ⟨_, rfl, ?_⟩))
          (first | refine Hd.letter_ (fun w25 hw => ?_) | refine Hd.letterL_ (fun w25 hw => ?_) | refine Hd.letterE_ (fun w25 hw => ?_))
          have n0_ : Aside0 (w25.heap[gb552]? = some (.cells #[.string (⟨#[]⟩ : ByteArray), .int .i64 0] 79 (0, 0))) := ⟨by rw [hw]; exact (by (with_reducible repeat (first | refine blk_drewN ?_ _ | refine blk_drew ?_ | refine blk_alloc ?_ _)); refine blk_far ?_ NB552_555.out _; (with_reducible repeat (first | refine blk_drewN ?_ _ | refine blk_drew ?_ | refine blk_alloc ?_ _)); refine blk_far ?_ NB552_555.out _; (with_reducible repeat (first | refine blk_drewN ?_ _ | refine blk_drew ?_ | refine blk_alloc ?_ _)); exact BK552.out)⟩
          have n1_ : Aside0 (w25.heap[gb555]? = some (.cells #[.string y554, .int .i64 0] 79 (0, 0))) := ⟨by rw [hw]; exact (by (with_reducible repeat (first | refine blk_drewN ?_ _ | refine blk_drew ?_ | refine blk_alloc ?_ _)); refine blk_put (cs := #[.string y554, .int .i64 0]) ?_ 1 _ rfl; (with_reducible repeat (first | refine blk_drewN ?_ _ | refine blk_drew ?_ | refine blk_alloc ?_ _)); refine blk_put (cs := #[.string (⟨#[]⟩ : ByteArray), .int .i64 0]) ?_ 0 _ rfl; (with_reducible repeat (first | refine blk_drewN ?_ _ | refine blk_drew ?_ | refine blk_alloc ?_ _)); exact BK555.out)⟩
          have n2_ : Aside0 (Below w.heap.size w w25) := ⟨by rw [hw]; exact (lk HB)⟩
          clear hw
          (try clear BK552)
          (try clear BK555)
          (try clear HB)
          have BK552 := n0_
          have BK555 := n1_
          have HB := n2_
          clear n0_ n1_ n2_
          (try (rw [drewN_self w25]; generalize hq_ : World.drewN w25 _ = w25; have n0_ : Aside0 (w25.heap[gb552]? = some (.cells #[.string (⟨#[]⟩ : ByteArray), .int .i64 0] 79 (0, 0))) := ⟨by rw [← hq_]; exact (bk BK552)⟩; have n1_ : Aside0 (w25.heap[gb555]? = some (.cells #[.string y554, .int .i64 0] 79 (0, 0))) := ⟨by rw [← hq_]; exact (bk BK555)⟩; have n2_ : Aside0 (Below w.heap.size w w25) := ⟨by rw [← hq_]; exact (lk HB)⟩; clear BK552 BK555 HB hq_; have BK552 := n0_; have BK555 := n1_; have HB := n2_; clear n0_ n1_ n2_))
          have n0_ := Aside0.mk (blk_drew BK552.out)
          have n1_ := Aside0.mk (blk_drew BK555.out)
          have n2_ := Aside0.mk (below_drew1 HB.out)
          clear BK552
          clear BK555
          clear HB
          have BK552 := n0_
          have BK555 := n1_
          have HB := n2_
          clear n0_ n1_ n2_
          have hcs27 := Hd.str_cut (P := Tryd.prog) (k := .i64) (k' := .i64) Tryd.underlying9 (i := 1) (j := (ji21)) (s := y556) (y := y560) (by first | (with_reducible assumption) | exact of_decide_eq_true (by first | (with_reducible assumption) | assumption) | omega) (by first | (with_reducible assumption) | exact of_decide_eq_true (by first | (with_reducible assumption) | assumption) | omega) (by first | (with_reducible assumption) | exact of_decide_eq_true (by first | (with_reducible assumption) | assumption) | omega) Ny560.out
          have hcs28 := Hd.str_cat (P := Tryd.prog) (s := y554) (t := y560) (y := y561) (by first | (with_reducible assumption) | assumption | exact of_eq_true (by assumption) | omega) Ny561.out
          have hcs28' := Hd.str_cat' (P := Tryd.prog) (s := y554) (t := y560) (y := y561) (by first | (with_reducible assumption) | assumption | exact of_eq_true (by assumption) | omega) Ny561.out
          refine start_ (n := 9) (S := fun w' => w'.cell? ⟨gb555, 0, none⟩ = some (.string y554) ∧ w'.cell? ⟨gb555, 1, none⟩ = some (.int .i64 0)) (ds := [8]) #[false, false, false, false, false, false, false, false, false] (by kernel_rfl) rfl rfl ⟨(blk_cell BK555.out 0).trans rfl, (blk_cell BK555.out 1).trans rfl⟩ (fun hHeld => ?_); refine with_tabW num_read.tab6 num_read.bits6 (fun HT_ HW_ => ?_)
          generalize w25.drew = w26 at BK552 BK555 HB hHeld ⊢
          refine pure_ (i := 0) (N := some 23) (v := ?_) (a' := ?_) #[true, false, false, false, false, false, false, false, false] rfl rfl (any_of HT_.out (by kernel_rfl)) (fun _ _ _ h => h) (Or.inl ⟨by rfl, ?_⟩) ?_ ?_
          rotate_left
          ·
           intro w'
           go_simp
           with_reducible rfl
          rotate_left
          ·
           simp only [Act.put, List.setIfInBounds_toArray, List.set_cons_zero, List.set_cons_succ, i64_w, i32_w]
           rfl
          refine pure_ (i := 2) (N := some 25) (v := ?_) (a' := ?_) #[true, false, true, false, false, false, false, false, false] rfl rfl (any_of HT_.out (by kernel_rfl)) (fun _ _ _ h => h) (Or.inl ⟨by rfl, ?_⟩) ?_ ?_
          rotate_left
          ·
           intro w'
           go_simp
           with_reducible rfl
          rotate_left
          ·
           simp only [Act.put, List.setIfInBounds_toArray, List.set_cons_zero, List.set_cons_succ, i64_w, i32_w]
           rfl
          refine pure_ (i := 3) (N := some 26) (v := ?_) (a' := ?_) #[true, false, true, true, false, false, false, false, false] rfl rfl (any_of HT_.out (by kernel_rfl)) (fun _ _ _ h => h) (Or.inl ⟨by rfl, ?_⟩) ?_ ?_
          rotate_left
          ·
           intro w'
           go_simp
           with_reducible rfl
          rotate_left
          ·
           simp only [Act.put, List.setIfInBounds_toArray, List.set_cons_zero, List.set_cons_succ, i64_w, i32_w]
           rfl
          refine pure_ (i := 4) (N := some 27) (v := ?_) (a' := ?_) #[true, false, true, true, true, false, false, false, false] rfl rfl (any_of HT_.out (by kernel_rfl)) (fun _ _ _ h => h) (Or.inl ⟨by rfl, ?_⟩) ?_ ?_
          rotate_left
          ·
           intro w'
           go_simp
           with_reducible rfl
          rotate_left
          ·
           simp only [Act.put, List.setIfInBounds_toArray, List.set_cons_zero, List.set_cons_succ, i64_w, i32_w]
           rfl
          refine pure_ (i := 5) (N := some 28) (v := ?_) (a' := ?_) #[true, false, true, true, true, true, false, false, false] rfl rfl (any_of HT_.out (by kernel_rfl)) (fun _ _ _ h => h) (Or.inl ⟨by rfl, ?_⟩) ?_ ?_
          rotate_left
          ·
           intro w'
           go_simp
           with_reducible rfl
          rotate_left
          ·
           simp only [Act.put, List.setIfInBounds_toArray, List.set_cons_zero, List.set_cons_succ, i64_w, i32_w]
           rfl
          refine take_ (i := 1) (N := some 24) (v := ?_) (a' := ?_) #[true, true, true, true, true, true, false, false, false] rfl rfl (take_ofW HT_.out HW_.out (by kernel_rfl)) (fun _ _ _ h => h) (Or.inl ⟨by rfl, ?_⟩) hHeld ?_ ?_
          rotate_left
          ·
           rintro w' ⟨s0, s1⟩
           go_simp
           with_reducible rfl
          rotate_left
          ·
           simp only [Act.put, List.setIfInBounds_toArray, List.set_cons_zero, List.set_cons_succ, i64_w, i32_w]
           rfl
          refine pure_ (i := 6) (N := some 29) (v := ?_) (a' := ?_) #[true, true, true, true, true, true, true, false, false] rfl rfl (any_of HT_.out (by kernel_rfl)) (fun _ _ _ h => h) (Or.inl ⟨by rfl, ?_⟩) ?_ ?_
          rotate_left
          ·
           intro w'
           go_simp
           with_reducible rfl
          rotate_left
          ·
           simp only [Act.put, List.setIfInBounds_toArray, List.set_cons_zero, List.set_cons_succ, i64_w, i32_w]
           rfl
          refine pure_ (i := 7) (N := some 30) (v := ?_) (a' := ?_) #[true, true, true, true, true, true, true, true, false] rfl rfl (any_of HT_.out (by kernel_rfl)) (fun _ _ _ h => h) (Or.inl ⟨by rfl, ?_⟩) ?_ ?_
          rotate_left
          ·
           intro w'
           go_simp
           with_reducible rfl
          rotate_left
          ·
           simp only [Act.put, List.setIfInBounds_toArray, List.set_cons_zero, List.set_cons_succ, i64_w, i32_w]
           rfl
          refine last_ (i := 8) (N := none) #[true, true, true, true, true, true, true, true, true] rfl rfl (one_of HT_.out (by kernel_rfl)) (by decide) (fun K hK => ?_)
          have hs29 : w26.cell? ⟨gb555, 0, none⟩ = some (.string y554) := (blk_cell BK555.out 0).trans rfl
          have hfs29 := blk_frozen BK555.out 0
          have hns29_0 := NB552_555.out
          have hms29_0 := NB555_552.out
          refine skip_ (w1 := ?_) (by rfl) rfl ?_ ?_
          rotate_left
          ·
           go_simp
           rfl
          refine hK.out _ _ ?_
          clear hK K
          refine done_ (done_of HT_.out (by kernel_rfl)) ?_
          have hnb30 := NB555_552.out
          have hnc30 := NB552_555.out
          have hcz31_0 : w26.cell? ⟨gb555, 0, none⟩ = some (.string y554) := (blk_cell BK555.out 0).trans rfl
          have hcz31_1 : w26.cell? ⟨gb555, 1, none⟩ = some (.int .i64 0) := (blk_cell BK555.out 1).trans rfl
          have hfz31_0 := blk_frozen BK555.out 0
          have hfz31_1 := blk_frozen BK555.out 1
          have hcs32 := Hd.str_from (P := Tryd.prog) (k := .i64) Tryd.underlying9 (i := (ji21)) (s := y556) (y := y562) (by first | (with_reducible assumption) | exact of_decide_eq_true (by first | (with_reducible assumption) | assumption) | omega) (by first | (with_reducible assumption) | exact of_decide_eq_true (by first | (with_reducible assumption) | assumption) | omega) Ny562.out
          try go_wp2
          go_meet
          case rel => exact ⟨_, (y562), (y561), (wrap64 (-t559)), (by first | rfl | (simp; done) | (simp [*]; done)), H', ⟨by first | omega | exact Nat.le_refl _⟩, ⟨by (with_reducible repeat (first | refine blk_drewN ?_ _ | refine blk_drew ?_ | refine blk_alloc ?_ _)); refine blk_far ?_ NB552_555.out _; (with_reducible repeat (first | refine blk_drewN ?_ _ | refine blk_drew ?_ | refine blk_alloc ?_ _)); refine blk_far ?_ NB552_555.out _; (with_reducible repeat (first | refine blk_drewN ?_ _ | refine blk_drew ?_ | refine blk_alloc ?_ _)); exact BK552.out⟩, ⟨by (with_reducible repeat (first | refine blk_drewN ?_ _ | refine blk_drew ?_ | refine blk_alloc ?_ _)); refine blk_put (cs := #[.string y561, .int .i64 0]) ?_ 1 _ rfl; (with_reducible repeat (first | refine blk_drewN ?_ _ | refine blk_drew ?_ | refine blk_alloc ?_ _)); refine blk_put (cs := #[.string y554, .int .i64 0]) ?_ 0 _ rfl; (with_reducible repeat (first | refine blk_drewN ?_ _ | refine blk_drew ?_ | refine blk_alloc ?_ _)); exact BK555.out⟩, ⟨lk HB⟩⟩
         ·
          rw [if_neg c22] at H
          exact absurd H (by simp)
        ·
         rw [if_neg c20] at H
         exact absurd H (by simp)
       ·
        rw [if_neg c19] at H
        exact absurd H (by simp)
      ·
       rw [if_neg c18] at H
       exact absurd H (by simp)
     ·
      rw [if_neg c16] at H
      exact absurd H (by simp)
    ·
     replace c15 := Bool.eq_false_iff.mpr c15
     subst c15
     have H1 : (num_read.j0 k y556 y554 0) = some (r1, r2, r3) := by rw [if_neg (show ¬ (false = true) by decide)] at H; exact H
     clear H
     have H := H1
     clear H1
     have H' := Aside0.mk H
     clear H
     go_wp2
     go_meet
     case rel => exact ⟨_, (y556), (y554), (0), (by first | rfl | (simp; done) | (simp [*]; done)), H', ⟨by first | omega | exact Nat.le_refl _⟩, ⟨by (with_reducible repeat (first | refine blk_drewN ?_ _ | refine blk_drew ?_ | refine blk_alloc ?_ _)); refine blk_far ?_ NB552_555.out _; (with_reducible repeat (first | refine blk_drewN ?_ _ | refine blk_drew ?_ | refine blk_alloc ?_ _)); refine blk_far ?_ NB552_555.out _; (with_reducible repeat (first | refine blk_drewN ?_ _ | refine blk_drew ?_ | refine blk_alloc ?_ _)); exact BK552.out⟩, ⟨by (with_reducible repeat (first | refine blk_drewN ?_ _ | refine blk_drew ?_ | refine blk_alloc ?_ _)); refine blk_put (cs := #[.string y554, .int .i64 0]) ?_ 1 _ rfl; (with_reducible repeat (first | refine blk_drewN ?_ _ | refine blk_drew ?_ | refine blk_alloc ?_ _)); refine blk_put (cs := #[.string (⟨#[]⟩ : ByteArray), .int .i64 0]) ?_ 0 _ rfl; (with_reducible repeat (first | refine blk_drewN ?_ _ | refine blk_drew ?_ | refine blk_alloc ?_ _)); exact BK555.out⟩, ⟨lk HB⟩⟩
   case rest =>
    clear HC8
    try clear c1
    try clear c2
    try clear p2
    try clear c3
    try clear c3b0
    try clear c3b1
    try clear c4
    try clear c4b0
    try clear c4b1
    try clear c5
    try clear c5b0
    try clear c6
    try clear c6b0
    try clear p6
    try clear c7
    try clear c9
    try clear c12
    try clear c15
    try clear c16
    try clear c16b0
    try clear c16b1
    try clear c18
    try clear c18b0
    try clear c18b1
    try clear c19
    try clear c19b0
    try clear c19b1
    try clear c20
    try clear c20b0
    try clear c20b1
    try clear c20b2
    try clear c22
    try clear c22b0
    try clear c22b1
    try clear c23
    try clear c23b0
    try clear c30
    try clear hcz13_0
    try clear hcz13_1
    try clear hcz31_0
    try clear hcz31_1
    try clear hfz13_0
    try clear hfz13_1
    try clear hfz31_0
    try clear hfz31_1
    obtain ⟨kq, x0_7, x556000_7, x556001_7, rfl, HA, HJ7, BK552, BK555, HB⟩ := hcut
    cases kq with
    | zero => exact absurd HA.out (by simp [num_read.j0])
    | succ kj7 =>
     have H := HA.out
     clear HA
     simp only [num_read.j0] at H
     by_cases c33 : x556000_7.toList = ([] : List UInt8)
     ·
      rw [if_pos c33] at H
      have c33b0 : (x556000_7.toList == ([] : List UInt8)) = true := beq_iff_eq.mpr c33
      have c33b1 : (x556000_7.toList != ([] : List UInt8)) = false := bne_eq_false_iff_eq.mpr c33
      clear c33
      simp only [Option.some.injEq, Prod.mk.injEq] at H
      obtain ⟨rfl, rfl, rfl⟩ := H
      have hnb34 := NB555_552.out
      have hnc34 := NB552_555.out
      have hcz35_0 : wc.cell? ⟨gb555, 0, none⟩ = some (.string x556000_7) := (blk_cell BK555.out 0).trans rfl
      have hcz35_1 : wc.cell? ⟨gb555, 1, none⟩ = some (.int .i64 x556001_7) := (blk_cell BK555.out 1).trans rfl
      have hfz35_0 := blk_frozen BK555.out 0
      have hfz35_1 := blk_frozen BK555.out 1
      have hcz36_0 : wc.cell? ⟨gb552, 0, none⟩ = some (.string (⟨#[]⟩ : ByteArray)) := (blk_cell BK552.out 0).trans rfl
      have hcz36_1 : wc.cell? ⟨gb552, 1, none⟩ = some (.int .i64 0) := (blk_cell BK552.out 1).trans rfl
      have hfz36_0 := blk_frozen BK552.out 0
      have hfz36_1 := blk_frozen BK552.out 1
      go_wp2
      refine bodyPost_ret (results_ct rfl _ _ gb552 79 #[.string x556000_7, .int .i64 x556001_7] (0, 0) _ rfl (by (with_reducible repeat (first | refine blk_drewN ?_ _ | refine blk_drew ?_ | refine blk_alloc ?_ _)); refine blk_put (cs := #[.string x556000_7, .int .i64 0]) ?_ 1 _ rfl; (with_reducible repeat (first | refine blk_drewN ?_ _ | refine blk_drew ?_ | refine blk_alloc ?_ _)); refine blk_put (cs := #[.string (⟨#[]⟩ : ByteArray), .int .i64 0]) ?_ 0 _ rfl; (with_reducible repeat (first | refine blk_drewN ?_ _ | refine blk_drew ?_ | refine blk_alloc ?_ _)); exact BK552.out) Tryd.underlying79 rfl (by kernel_rfl)) rfl ?_
      exact ex (lk HB)
     ·
      rw [if_neg c33] at H
      have c33b0 : (x556000_7.toList == ([] : List UInt8)) = false := beq_eq_false_iff_ne.mpr c33
      have c33b1 : (x556000_7.toList != ([] : List UInt8)) = true := bne_iff_ne.mpr c33
      replace H := Option.bind_eq_some_iff.mp H
      obtain ⟨t563, A370, H⟩ := H
      replace H : (if x0_7.toList = ([] : List UInt8) then (some (t563, x556001_7, true)) else (if 0 < (x0_7.size : Int) then (if (bt x0_7 0) = 101 then (num_read.j1 kj7 x0_7 false t563 x556001_7) else (num_read.j1 kj7 x0_7 ((bt x0_7 0) != 69) t563 x556001_7)) else (none))) = some (r1, r2, r3) := H
      have A37 := Aside0.mk A370
      clear A370
      by_cases c38 : x0_7.toList = ([] : List UInt8)
      ·
       rw [if_pos c38] at H
       have c38b0 : (x0_7.toList == ([] : List UInt8)) = true := beq_iff_eq.mpr c38
       have c38b1 : (x0_7.toList != ([] : List UInt8)) = false := bne_eq_false_iff_eq.mpr c38
       clear c38
       simp only [Option.some.injEq, Prod.mk.injEq] at H
       obtain ⟨rfl, rfl, rfl⟩ := H
       have hnb39 := NB555_552.out
       have hnc39 := NB552_555.out
       have hcz40_0 : wc.cell? ⟨gb555, 0, none⟩ = some (.string x556000_7) := (blk_cell BK555.out 0).trans rfl
       have hcz40_1 : wc.cell? ⟨gb555, 1, none⟩ = some (.int .i64 x556001_7) := (blk_cell BK555.out 1).trans rfl
       have hfz40_0 := blk_frozen BK555.out 0
       have hfz40_1 := blk_frozen BK555.out 1
       go_wp2_with (first | ((with_reducible refine gate_callee (f := 101) rfl ?_); refine gL (some 44) Tryd.func101 #[.string x556000_7, .string (⟨#[48]⟩ : ByteArray)] ?_; (with_reducible refine (strings_TrimLeft.calls kj7 x556000_7 (⟨#[48]⟩ : ByteArray) t563 _ A37.out).mono ?_); rintro e w41 ⟨rfl, hb⟩; refine ⟨_, rfl, ?_⟩; replace BK552 := bb BK552 hb; replace BK555 := bb BK555 hb; replace HB := lb HB hb; (try clear hb); (try clear hb2); (try clear hk); (try clear hi); have hcz42_0 : w41.cell? ⟨gb555, 0, none⟩ = some (.string x556000_7) := (blk_cell BK555.out 0).trans rfl; have hcz42_1 : w41.cell? ⟨gb555, 1, none⟩ = some (.int .i64 x556001_7) := (blk_cell BK555.out 1).trans rfl; have hfz42_0 := blk_frozen BK555.out 0; have hfz42_1 := blk_frozen BK555.out 1; have hcz43_0 : w41.cell? ⟨gb552, 0, none⟩ = some (.string (⟨#[]⟩ : ByteArray)) := (blk_cell BK552.out 0).trans rfl; have hcz43_1 : w41.cell? ⟨gb552, 1, none⟩ = some (.int .i64 0) := (blk_cell BK552.out 1).trans rfl; have hfz43_0 := blk_frozen BK552.out 0; have hfz43_1 := blk_frozen BK552.out 1))
       refine bodyPost_ret (results_ct rfl _ _ gb552 79 #[.string t563, .int .i64 x556001_7] (0, 0) _ rfl (by (with_reducible repeat (first | refine blk_drewN ?_ _ | refine blk_drew ?_ | refine blk_alloc ?_ _)); refine blk_put (cs := #[.string t563, .int .i64 0]) ?_ 1 _ rfl; (with_reducible repeat (first | refine blk_drewN ?_ _ | refine blk_drew ?_ | refine blk_alloc ?_ _)); refine blk_put (cs := #[.string (⟨#[]⟩ : ByteArray), .int .i64 0]) ?_ 0 _ rfl; (with_reducible repeat (first | refine blk_drewN ?_ _ | refine blk_drew ?_ | refine blk_alloc ?_ _)); refine blk_far ?_ NB552_555.out _; (with_reducible repeat (first | refine blk_drewN ?_ _ | refine blk_drew ?_ | refine blk_alloc ?_ _)); exact BK552.out) Tryd.underlying79 rfl (by kernel_rfl)) rfl ?_
       exact ex (lk HB)
      ·
       rw [if_neg c38] at H
       have c38b0 : (x0_7.toList == ([] : List UInt8)) = false := beq_eq_false_iff_ne.mpr c38
       have c38b1 : (x0_7.toList != ([] : List UInt8)) = true := bne_iff_ne.mpr c38
       have HC44 := Aside0.mk H
       clear H
       have hnb45 := NB555_552.out
       have hnc45 := NB552_555.out
       have hcz46_0 : wc.cell? ⟨gb555, 0, none⟩ = some (.string x556000_7) := (blk_cell BK555.out 0).trans rfl
       have hcz46_1 : wc.cell? ⟨gb555, 1, none⟩ = some (.int .i64 x556001_7) := (blk_cell BK555.out 1).trans rfl
       have hfz46_0 := blk_frozen BK555.out 0
       have hfz46_1 := blk_frozen BK555.out 1
       go_upto_region 14 with (first | ((with_reducible refine gate_callee (f := 101) rfl ?_); refine gL (some 44) Tryd.func101 #[.string x556000_7, .string (⟨#[48]⟩ : ByteArray)] ?_; (with_reducible refine (strings_TrimLeft.calls kj7 x556000_7 (⟨#[48]⟩ : ByteArray) t563 _ A37.out).mono ?_); rintro e w47 ⟨rfl, hb⟩; refine ⟨_, rfl, ?_⟩; replace BK552 := bb BK552 hb; replace BK555 := bb BK555 hb; replace HB := lb HB hb; (try clear hb); (try clear hb2); (try clear hk); (try clear hi); have hcz48_0 : w47.cell? ⟨gb555, 0, none⟩ = some (.string x556000_7) := (blk_cell BK555.out 0).trans rfl; have hcz48_1 : w47.cell? ⟨gb555, 1, none⟩ = some (.int .i64 x556001_7) := (blk_cell BK555.out 1).trans rfl; have hfz48_0 := blk_frozen BK555.out 0; have hfz48_1 := blk_frozen BK555.out 1))
       (try simp only [Act.put, List.setIfInBounds_toArray, List.set_cons_zero, List.set_cons_succ])
       go_cut [56] (fun v56 wc => ∃ (kq : Nat) (x56_43 : Bool), v56 = .bool x56_43 ∧ Aside0 (num_read.j1 kq x0_7 x56_43 t563 x556001_7 = some (r1, r2, r3)) ∧ Aside0 (kq ≤ kj7) ∧ Aside0 (wc.heap[gb552]? = some (.cells #[.string (⟨#[]⟩ : ByteArray), .int .i64 0] 79 (0, 0))) ∧ Aside0 (wc.heap[gb555]? = some (.cells #[.string t563, .int .i64 x556001_7] 79 (0, 0))) ∧ Aside0 (Below w.heap.size w wc))
       case first =>
        have H := HC44.out
        clear HC44
        by_cases c49 : 0 < (x0_7.size : Int)
        ·
         rw [if_pos c49] at H
         have c49b0 : decide (0 < (x0_7.size : Int)) = true := decide_eq_true c49
         have c49b1 : decide (0 < x0_7.size) = true := decide_eq_true (by omega)
         clear c49
         (first | rw [c49b0] | (simp only [i64_w, i32_w]; rw [c49b0]) | skip)
         by_cases c51 : (bt x0_7 0) = 101
         ·
          rw [if_pos c51] at H
          have c51b0 : ((bt x0_7 0) == 101) = true := beq_iff_eq.mpr c51
          have c51b1 : ((bt x0_7 0) != 101) = false := bne_eq_false_iff_eq.mpr c51
          clear c51
          have H' := Aside0.mk H
          clear H
          have p50 : 0 ≤ (0 : Int) := (by omega)
          have q50 : 0 < x0_7.size := (by have : (0 : Int) < (x0_7.size : Int) := of_decide_eq_true (by first | (with_reducible assumption) | assumption); omega)
          have hx50 : ∀ h : 0 < x0_7.size, ((x0_7[0]'h).toNat : Int) = bt x0_7 0 := bt_at x0_7 0
          clear p50
          have qi50 : (0 < (x0_7.size : Int)) = True := eq_true (of_decide_eq_true (by first | (with_reducible assumption) | assumption))
          replace q50 := eq_true q50
          go_wp2
          go_meet
          case rel => exact ⟨_, (false), (by first | rfl | (simp; done) | (simp [*]; done)), H', ⟨by have := HJ7.out; first | omega | exact Nat.le_refl _⟩, ⟨by (with_reducible repeat (first | refine blk_drewN ?_ _ | refine blk_drew ?_ | refine blk_alloc ?_ _)); refine blk_far ?_ NB552_555.out _; (with_reducible repeat (first | refine blk_drewN ?_ _ | refine blk_drew ?_ | refine blk_alloc ?_ _)); exact BK552.out⟩, ⟨by (with_reducible repeat (first | refine blk_drewN ?_ _ | refine blk_drew ?_ | refine blk_alloc ?_ _)); refine blk_put (cs := #[.string x556000_7, .int .i64 x556001_7]) ?_ 0 _ rfl; (with_reducible repeat (first | refine blk_drewN ?_ _ | refine blk_drew ?_ | refine blk_alloc ?_ _)); exact BK555.out⟩, ⟨lk HB⟩⟩
         ·
          rw [if_neg c51] at H
          have c51b0 : ((bt x0_7 0) == 101) = false := beq_eq_false_iff_ne.mpr c51
          have c51b1 : ((bt x0_7 0) != 101) = true := bne_iff_ne.mpr c51
          have H' := Aside0.mk H
          clear H
          have p50 : 0 ≤ (0 : Int) := (by omega)
          have q50 : 0 < x0_7.size := (by have : (0 : Int) < (x0_7.size : Int) := of_decide_eq_true (by first | (with_reducible assumption) | assumption); omega)
          have hx50 : ∀ h : 0 < x0_7.size, ((x0_7[0]'h).toNat : Int) = bt x0_7 0 := bt_at x0_7 0
          clear p50
          have qi50 : (0 < (x0_7.size : Int)) = True := eq_true (of_decide_eq_true (by first | (with_reducible assumption) | assumption))
          replace q50 := eq_true q50
          have p52 : 0 ≤ (0 : Int) := (by omega)
          have q52 : 0 < x0_7.size := (by have : (0 : Int) < (x0_7.size : Int) := of_decide_eq_true (by first | (with_reducible assumption) | assumption); omega)
          have hx52 : ∀ h : 0 < x0_7.size, ((x0_7[0]'h).toNat : Int) = bt x0_7 0 := bt_at x0_7 0
          clear p52
          have qi52 : (0 < (x0_7.size : Int)) = True := eq_true (of_decide_eq_true (by first | (with_reducible assumption) | assumption))
          replace q52 := eq_true q52
          go_wp2
          go_meet
          case rel => exact ⟨_, (((bt x0_7 0) != 69)), (by first | rfl | (simp; done) | (simp [*]; done)), H', ⟨by have := HJ7.out; first | omega | exact Nat.le_refl _⟩, ⟨by (with_reducible repeat (first | refine blk_drewN ?_ _ | refine blk_drew ?_ | refine blk_alloc ?_ _)); refine blk_far ?_ NB552_555.out _; (with_reducible repeat (first | refine blk_drewN ?_ _ | refine blk_drew ?_ | refine blk_alloc ?_ _)); exact BK552.out⟩, ⟨by (with_reducible repeat (first | refine blk_drewN ?_ _ | refine blk_drew ?_ | refine blk_alloc ?_ _)); refine blk_put (cs := #[.string x556000_7, .int .i64 x556001_7]) ?_ 0 _ rfl; (with_reducible repeat (first | refine blk_drewN ?_ _ | refine blk_drew ?_ | refine blk_alloc ?_ _)); exact BK555.out⟩, ⟨lk HB⟩⟩
        ·
         rw [if_neg c49] at H
         exact absurd H (by simp)
       case rest =>
        clear HC44
        try clear c1
        try clear c2
        try clear p2
        try clear c3
        try clear c3b0
        try clear c3b1
        try clear c4
        try clear c4b0
        try clear c4b1
        try clear c5
        try clear c5b0
        try clear p5
        try clear q5
        try clear hx5
        try clear qi5
        try clear c6
        try clear c6b0
        try clear p6
        try clear c7
        try clear c9
        try clear c10
        try clear c12
        try clear c15
        try clear c16
        try clear c16b0
        try clear c16b1
        try clear c18
        try clear c18b0
        try clear c18b1
        try clear c19
        try clear c19b0
        try clear c19b1
        try clear c20
        try clear c20b0
        try clear c20b1
        try clear c20b2
        try clear c22
        try clear c22b0
        try clear c22b1
        try clear c23
        try clear c23b0
        try clear c30
        try clear c33
        try clear c33b0
        try clear c33b1
        try clear c34
        try clear c38
        try clear c38b0
        try clear c38b1
        try clear c39
        try clear c45
        try clear c49
        try clear c49b0
        try clear c49b1
        try clear p50
        try clear q50
        try clear hx50
        try clear qi50
        try clear c51
        try clear c51b0
        try clear c51b1
        try clear p52
        try clear q52
        try clear hx52
        try clear qi52
        try clear hcz13_0
        try clear hcz13_1
        try clear hcz31_0
        try clear hcz31_1
        try clear hcz35_0
        try clear hcz35_1
        try clear hcz36_0
        try clear hcz36_1
        try clear hcz40_0
        try clear hcz40_1
        try clear hcz42_0
        try clear hcz42_1
        try clear hcz43_0
        try clear hcz43_1
        try clear hcz46_0
        try clear hcz46_1
        try clear hcz48_0
        try clear hcz48_1
        try clear hfz13_0
        try clear hfz13_1
        try clear hfz31_0
        try clear hfz31_1
        try clear hfz35_0
        try clear hfz35_1
        try clear hfz36_0
        try clear hfz36_1
        try clear hfz40_0
        try clear hfz40_1
        try clear hfz42_0
        try clear hfz42_1
        try clear hfz43_0
        try clear hfz43_1
        try clear hfz46_0
        try clear hfz46_1
        try clear hfz48_0
        try clear hfz48_1
        try clear p2
        try clear p50
        try clear p52
        try clear p6
        try clear q50
        try clear q52
        obtain ⟨kq, x56_43, rfl, HA, HJ43, BK552, BK555, HB⟩ := hcut
        cases kq with
        | zero => exact absurd HA.out (by simp [num_read.j1])
        | succ kj43 =>
         have H := HA.out
         clear HA
         simp only [num_read.j1] at H
         by_cases c53 : x56_43 = true
         ·
          subst c53
          have H1 : (some (t563, x556001_7, false)) = some (r1, r2, r3) := by rw [if_pos rfl] at H; exact H
          clear H
          have H := H1
          clear H1
          simp only [Option.some.injEq, Prod.mk.injEq] at H
          obtain ⟨rfl, rfl, rfl⟩ := H
          have hnb54 := NB555_552.out
          have hnc54 := NB552_555.out
          have hcz55_0 : wc.cell? ⟨gb555, 0, none⟩ = some (.string t563) := (blk_cell BK555.out 0).trans rfl
          have hcz55_1 : wc.cell? ⟨gb555, 1, none⟩ = some (.int .i64 x556001_7) := (blk_cell BK555.out 1).trans rfl
          have hfz55_0 := blk_frozen BK555.out 0
          have hfz55_1 := blk_frozen BK555.out 1
          have hcz56_0 : wc.cell? ⟨gb552, 0, none⟩ = some (.string (⟨#[]⟩ : ByteArray)) := (blk_cell BK552.out 0).trans rfl
          have hcz56_1 : wc.cell? ⟨gb552, 1, none⟩ = some (.int .i64 0) := (blk_cell BK552.out 1).trans rfl
          have hfz56_0 := blk_frozen BK552.out 0
          have hfz56_1 := blk_frozen BK552.out 1
          go_wp2
          refine bodyPost_ret (results_ct rfl _ _ gb552 79 #[.string t563, .int .i64 x556001_7] (0, 0) _ rfl (by (with_reducible repeat (first | refine blk_drewN ?_ _ | refine blk_drew ?_ | refine blk_alloc ?_ _)); refine blk_put (cs := #[.string t563, .int .i64 0]) ?_ 1 _ rfl; (with_reducible repeat (first | refine blk_drewN ?_ _ | refine blk_drew ?_ | refine blk_alloc ?_ _)); refine blk_put (cs := #[.string (⟨#[]⟩ : ByteArray), .int .i64 0]) ?_ 0 _ rfl; (with_reducible repeat (first | refine blk_drewN ?_ _ | refine blk_drew ?_ | refine blk_alloc ?_ _)); exact BK552.out) Tryd.underlying79 rfl (by kernel_rfl)) rfl ?_
          exact ex (lk HB)
         ·
          replace c53 := Bool.eq_false_iff.mpr c53
          subst c53
          have H1 : (if 1 ≤ (x0_7.size : Int) then ((some (x0_7.extract 1 x0_7.size : ByteArray)).bind fun y564 => (if y564.toList = ([] : List UInt8) then (num_read.j2 kj43 y564 1 false t563 x556001_7) else (if 0 < (y564.size : Int) then (if (bt y564 0) = 43 then (num_read.j2 kj43 y564 1 true t563 x556001_7) else (num_read.j2 kj43 y564 1 ((bt y564 0) == 45) t563 x556001_7)) else (none)))) else (none)) = some (r1, r2, r3) := by rw [if_neg (show ¬ (false = true) by decide)] at H; exact H
          clear H
          have H := H1
          clear H1
          by_cases c57 : 1 ≤ (x0_7.size : Int)
          ·
           rw [if_pos c57] at H
           have c57b0 := eq_true c57
           have c57b1 : decide (1 ≤ (x0_7.size : Int)) = true := decide_eq_true c57
           clear c57
           obtain ⟨y564, hy564⟩ : ∃ y_ : ByteArray, y_ = (x0_7.extract 1 x0_7.size) := ⟨_, rfl⟩
           replace H : (if y564.toList = ([] : List UInt8) then (num_read.j2 kj43 y564 1 false t563 x556001_7) else (if 0 < (y564.size : Int) then (if (bt y564 0) = 43 then (num_read.j2 kj43 y564 1 true t563 x556001_7) else (num_read.j2 kj43 y564 1 ((bt y564 0) == 45) t563 x556001_7)) else (none))) = some (r1, r2, r3) := by first | (rw [hy564]; with_reducible exact H) | (have H2_ := (Option.bind_some _ _).symm.trans H; rw [hy564]; with_reducible exact H2_) | (have H2_ := (Option.bind_some _ _).symm.trans H; with_reducible exact H2_) | with_reducible exact H | (rw [hy564]; exact H) | exact H
           have Ny564 := Aside0.mk hy564
           clear hy564
           have HC58 := Aside0.mk H
           clear H
           have hcs59 := Hd.str_from (P := Tryd.prog) (k := .i64) Tryd.underlying9 (i := 1) (s := x0_7) (y := y564) (by first | (with_reducible assumption) | exact of_decide_eq_true (by first | (with_reducible assumption) | assumption) | omega) (by first | (with_reducible assumption) | exact of_decide_eq_true (by first | (with_reducible assumption) | assumption) | omega) Ny564.out
           go_upto_region 18 with (fail)
           go_cut [71] (fun v71 wc => ∃ (kq : Nat) (x71_57 : Bool), v71 = .bool x71_57 ∧ Aside0 (num_read.j2 kq y564 1 x71_57 t563 x556001_7 = some (r1, r2, r3)) ∧ Aside0 (kq ≤ kj43) ∧ Aside0 (wc.heap[gb552]? = some (.cells #[.string (⟨#[]⟩ : ByteArray), .int .i64 0] 79 (0, 0))) ∧ Aside0 (wc.heap[gb555]? = some (.cells #[.string t563, .int .i64 x556001_7] 79 (0, 0))) ∧ Aside0 (Below w.heap.size w wc))
           case first =>
            have H := HC58.out
            clear HC58
            by_cases c60 : y564.toList = ([] : List UInt8)
            ·
             rw [if_pos c60] at H
             have c60b0 : (y564.toList == ([] : List UInt8)) = true := beq_iff_eq.mpr c60
             have c60b1 : (y564.toList != ([] : List UInt8)) = false := bne_eq_false_iff_eq.mpr c60
             clear c60
             (first | rw [c60b0] | (simp only [i64_w, i32_w]; rw [c60b0]) | skip)
             have H' := Aside0.mk H
             clear H
             go_wp2
             go_meet
             case rel => exact ⟨_, (false), (by first | rfl | (simp; done) | (simp [*]; done)), H', ⟨by have := HJ7.out; have := HJ43.out; first | omega | exact Nat.le_refl _⟩, ⟨by (with_reducible repeat (first | refine blk_drewN ?_ _ | refine blk_drew ?_ | refine blk_alloc ?_ _)); exact BK552.out⟩, ⟨by (with_reducible repeat (first | refine blk_drewN ?_ _ | refine blk_drew ?_ | refine blk_alloc ?_ _)); exact BK555.out⟩, ⟨lk HB⟩⟩
            ·
             rw [if_neg c60] at H
             have c60b0 : (y564.toList == ([] : List UInt8)) = false := beq_eq_false_iff_ne.mpr c60
             have c60b1 : (y564.toList != ([] : List UInt8)) = true := bne_iff_ne.mpr c60
             (first | rw [c60b0] | (simp only [i64_w, i32_w]; rw [c60b0]) | skip)
             by_cases c61 : 0 < (y564.size : Int)
             ·
              rw [if_pos c61] at H
              have c61b0 : decide (0 < (y564.size : Int)) = true := decide_eq_true c61
              have c61b1 : decide (0 < y564.size) = true := decide_eq_true (by omega)
              clear c61
              by_cases c63 : (bt y564 0) = 43
              ·
               rw [if_pos c63] at H
               have c63b0 : ((bt y564 0) == 43) = true := beq_iff_eq.mpr c63
               have c63b1 : ((bt y564 0) != 43) = false := bne_eq_false_iff_eq.mpr c63
               clear c63
               have H' := Aside0.mk H
               clear H
               have p62 : 0 ≤ (0 : Int) := (by omega)
               have q62 : 0 < y564.size := (by have : (0 : Int) < (y564.size : Int) := of_decide_eq_true (by first | (with_reducible assumption) | assumption); omega)
               have hx62 : ∀ h : 0 < y564.size, ((y564[0]'h).toNat : Int) = bt y564 0 := bt_at y564 0
               clear p62
               have qi62 : (0 < (y564.size : Int)) = True := eq_true (of_decide_eq_true (by first | (with_reducible assumption) | assumption))
               replace q62 := eq_true q62
               go_wp2
               go_meet
               case rel => exact ⟨_, (true), (by first | rfl | (simp; done) | (simp [*]; done)), H', ⟨by have := HJ7.out; have := HJ43.out; first | omega | exact Nat.le_refl _⟩, ⟨by (with_reducible repeat (first | refine blk_drewN ?_ _ | refine blk_drew ?_ | refine blk_alloc ?_ _)); exact BK552.out⟩, ⟨by (with_reducible repeat (first | refine blk_drewN ?_ _ | refine blk_drew ?_ | refine blk_alloc ?_ _)); exact BK555.out⟩, ⟨lk HB⟩⟩
              ·
               rw [if_neg c63] at H
               have c63b0 : ((bt y564 0) == 43) = false := beq_eq_false_iff_ne.mpr c63
               have c63b1 : ((bt y564 0) != 43) = true := bne_iff_ne.mpr c63
               have H' := Aside0.mk H
               clear H
               have p62 : 0 ≤ (0 : Int) := (by omega)
               have q62 : 0 < y564.size := (by have : (0 : Int) < (y564.size : Int) := of_decide_eq_true (by first | (with_reducible assumption) | assumption); omega)
               have hx62 : ∀ h : 0 < y564.size, ((y564[0]'h).toNat : Int) = bt y564 0 := bt_at y564 0
               clear p62
               have qi62 : (0 < (y564.size : Int)) = True := eq_true (of_decide_eq_true (by first | (with_reducible assumption) | assumption))
               replace q62 := eq_true q62
               have p64 : 0 ≤ (0 : Int) := (by omega)
               have q64 : 0 < y564.size := (by have : (0 : Int) < (y564.size : Int) := of_decide_eq_true (by first | (with_reducible assumption) | assumption); omega)
               have hx64 : ∀ h : 0 < y564.size, ((y564[0]'h).toNat : Int) = bt y564 0 := bt_at y564 0
               clear p64
               have qi64 : (0 < (y564.size : Int)) = True := eq_true (of_decide_eq_true (by first | (with_reducible assumption) | assumption))
               replace q64 := eq_true q64
               go_wp2
               go_meet
               case rel => exact ⟨_, (((bt y564 0) == 45)), (by first | rfl | (simp; done) | (simp [*]; done)), H', ⟨by have := HJ7.out; have := HJ43.out; first | omega | exact Nat.le_refl _⟩, ⟨by (with_reducible repeat (first | refine blk_drewN ?_ _ | refine blk_drew ?_ | refine blk_alloc ?_ _)); exact BK552.out⟩, ⟨by (with_reducible repeat (first | refine blk_drewN ?_ _ | refine blk_drew ?_ | refine blk_alloc ?_ _)); exact BK555.out⟩, ⟨lk HB⟩⟩
             ·
              rw [if_neg c61] at H
              exact absurd H (by simp)
           case rest =>
            clear HC58
            try clear c1
            try clear c2
            try clear p2
            try clear c3
            try clear c3b0
            try clear c3b1
            try clear c4
            try clear c4b0
            try clear c4b1
            try clear c5
            try clear c5b0
            try clear p5
            try clear q5
            try clear hx5
            try clear qi5
            try clear c6
            try clear c6b0
            try clear p6
            try clear q6
            try clear hx6
            try clear qi6
            try clear c7
            try clear c9
            try clear c10
            try clear c12
            try clear c15
            try clear c16
            try clear c16b0
            try clear c16b1
            try clear c18
            try clear c18b0
            try clear c18b1
            try clear c19
            try clear c19b0
            try clear c19b1
            try clear c20
            try clear c20b0
            try clear c20b1
            try clear c20b2
            try clear c22
            try clear c22b0
            try clear c22b1
            try clear c23
            try clear c23b0
            try clear c30
            try clear c33
            try clear c33b0
            try clear c33b1
            try clear c34
            try clear c38
            try clear c38b0
            try clear c38b1
            try clear c39
            try clear c45
            try clear c49
            try clear c49b0
            try clear c49b1
            try clear p50
            try clear q50
            try clear hx50
            try clear qi50
            try clear c51
            try clear c51b0
            try clear c51b1
            try clear p52
            try clear q52
            try clear hx52
            try clear qi52
            try clear c53
            try clear c54
            try clear c57
            try clear c57b0
            try clear c57b1
            try clear c60
            try clear c60b0
            try clear c60b1
            try clear c61
            try clear c61b0
            try clear c61b1
            try clear p62
            try clear q62
            try clear hx62
            try clear qi62
            try clear c63
            try clear c63b0
            try clear c63b1
            try clear p64
            try clear q64
            try clear hx64
            try clear qi64
            try clear hcz13_0
            try clear hcz13_1
            try clear hcz31_0
            try clear hcz31_1
            try clear hcz35_0
            try clear hcz35_1
            try clear hcz36_0
            try clear hcz36_1
            try clear hcz40_0
            try clear hcz40_1
            try clear hcz42_0
            try clear hcz42_1
            try clear hcz43_0
            try clear hcz43_1
            try clear hcz46_0
            try clear hcz46_1
            try clear hcz48_0
            try clear hcz48_1
            try clear hcz55_0
            try clear hcz55_1
            try clear hcz56_0
            try clear hcz56_1
            try clear hfz13_0
            try clear hfz13_1
            try clear hfz31_0
            try clear hfz31_1
            try clear hfz35_0
            try clear hfz35_1
            try clear hfz36_0
            try clear hfz36_1
            try clear hfz40_0
            try clear hfz40_1
            try clear hfz42_0
            try clear hfz42_1
            try clear hfz43_0
            try clear hfz43_1
            try clear hfz46_0
            try clear hfz46_1
            try clear hfz48_0
            try clear hfz48_1
            try clear hfz55_0
            try clear hfz55_1
            try clear hfz56_0
            try clear hfz56_1
            try clear p2
            try clear p5
            try clear p50
            try clear p52
            try clear p6
            try clear p62
            try clear p64
            try clear q5
            try clear q50
            try clear q52
            try clear q62
            try clear q64
            obtain ⟨kq, x71_57, rfl, HA, HJ57, BK552, BK555, HB⟩ := hcut
            cases kq with
            | zero => exact absurd HA.out (by simp [num_read.j2])
            | succ kj57 =>
             have H := HA.out
             clear HA
             simp only [num_read.j2] at H
             have HC65 := Aside0.mk H
             clear H
             go_upto_if 71 with (fail)
             go_cut [0, 6] (fun v0 v6 wc => ∃ (kq : Nat) (x0_64 : ByteArray) (x6_64 : Int), v0 = .string x0_64 ∧ v6 = .int .i64 x6_64 ∧ Aside0 (num_read.j3 kq x0_64 x6_64 t563 x556001_7 = some (r1, r2, r3)) ∧ Aside0 (kq ≤ kj57) ∧ Aside0 (wc.heap[gb552]? = some (.cells #[.string (⟨#[]⟩ : ByteArray), .int .i64 0] 79 (0, 0))) ∧ Aside0 (wc.heap[gb555]? = some (.cells #[.string t563, .int .i64 x556001_7] 79 (0, 0))) ∧ Aside0 (Below w.heap.size w wc))
             case first =>
              have H := HC65.out
              clear HC65
              by_cases c66 : x71_57 = true
              ·
               subst c66
               have H1 : (if 0 < (y564.size : Int) then (if (bt y564 0) = 45 then (if 1 ≤ (y564.size : Int) then (num_read.j3 kj57 (y564.extract 1 y564.size) (-1) t563 x556001_7) else (none)) else (if 1 ≤ (y564.size : Int) then (num_read.j3 kj57 (y564.extract 1 y564.size) 1 t563 x556001_7) else (none))) else (none)) = some (r1, r2, r3) := by rw [if_pos rfl] at H; exact H
               clear H
               have H := H1
               clear H1
               by_cases c67 : 0 < (y564.size : Int)
               ·
                rw [if_pos c67] at H
                have c67b0 : decide (0 < (y564.size : Int)) = true := decide_eq_true c67
                have c67b1 : decide (0 < y564.size) = true := decide_eq_true (by omega)
                clear c67
                (first | rw [c67b0] | (simp only [i64_w, i32_w]; rw [c67b0]) | skip)
                by_cases c69 : (bt y564 0) = 45
                ·
                 rw [if_pos c69] at H
                 have c69b0 : ((bt y564 0) == 45) = true := beq_iff_eq.mpr c69
                 have c69b1 : ((bt y564 0) != 45) = false := bne_eq_false_iff_eq.mpr c69
                 clear c69
                 by_cases c70 : 1 ≤ (y564.size : Int)
                 ·
                  rw [if_pos c70] at H
                  have c70b0 := eq_true c70
                  have c70b1 : decide (1 ≤ (y564.size : Int)) = true := decide_eq_true c70
                  clear c70
                  obtain ⟨y565, hy565⟩ : ∃ y_ : ByteArray, y_ = (y564.extract 1 y564.size) := ⟨_, rfl⟩
                  replace H : (num_read.j3 kj57 y565 (-1) t563 x556001_7) = some (r1, r2, r3) := by first | (rw [hy565]; with_reducible exact H) | (have H2_ := (Option.bind_some _ _).symm.trans H; rw [hy565]; with_reducible exact H2_) | (have H2_ := (Option.bind_some _ _).symm.trans H; with_reducible exact H2_) | with_reducible exact H | (rw [hy565]; exact H) | exact H
                  have Ny565 := Aside0.mk hy565
                  clear hy565
                  have H' := Aside0.mk H
                  clear H
                  have p68 : 0 ≤ (0 : Int) := (by omega)
                  have q68 : 0 < y564.size := (by have : (0 : Int) < (y564.size : Int) := of_decide_eq_true (by first | (with_reducible assumption) | assumption); omega)
                  have hx68 : ∀ h : 0 < y564.size, ((y564[0]'h).toNat : Int) = bt y564 0 := bt_at y564 0
                  clear p68
                  have qi68 : (0 < (y564.size : Int)) = True := eq_true (of_decide_eq_true (by first | (with_reducible assumption) | assumption))
                  replace q68 := eq_true q68
                  have hcs71 := Hd.str_from (P := Tryd.prog) (k := .i64) Tryd.underlying9 (i := 1) (s := y564) (y := y565) (by first | (with_reducible assumption) | exact of_decide_eq_true (by first | (with_reducible assumption) | assumption) | omega) (by first | (with_reducible assumption) | exact of_decide_eq_true (by first | (with_reducible assumption) | assumption) | omega) Ny565.out
                  go_wp2
                  go_meet
                  case rel => exact ⟨_, (y565), ((-1)), (by first | rfl | (simp; done) | (simp [*]; done)), (by first | rfl | (simp; done) | (simp [*]; done)), H', ⟨by have := HJ7.out; have := HJ43.out; have := HJ57.out; first | omega | exact Nat.le_refl _⟩, ⟨by (with_reducible repeat (first | refine blk_drewN ?_ _ | refine blk_drew ?_ | refine blk_alloc ?_ _)); exact BK552.out⟩, ⟨by (with_reducible repeat (first | refine blk_drewN ?_ _ | refine blk_drew ?_ | refine blk_alloc ?_ _)); exact BK555.out⟩, ⟨lk HB⟩⟩
                 ·
                  rw [if_neg c70] at H
                  exact absurd H (by simp)
                ·
                 rw [if_neg c69] at H
                 have c69b0 : ((bt y564 0) == 45) = false := beq_eq_false_iff_ne.mpr c69
                 have c69b1 : ((bt y564 0) != 45) = true := bne_iff_ne.mpr c69
                 by_cases c72 : 1 ≤ (y564.size : Int)
                 ·
                  rw [if_pos c72] at H
                  have c72b0 := eq_true c72
                  have c72b1 : decide (1 ≤ (y564.size : Int)) = true := decide_eq_true c72
                  clear c72
                  obtain ⟨y566, hy566⟩ : ∃ y_ : ByteArray, y_ = (y564.extract 1 y564.size) := ⟨_, rfl⟩
                  replace H : (num_read.j3 kj57 y566 1 t563 x556001_7) = some (r1, r2, r3) := by first | (rw [hy566]; with_reducible exact H) | (have H2_ := (Option.bind_some _ _).symm.trans H; rw [hy566]; with_reducible exact H2_) | (have H2_ := (Option.bind_some _ _).symm.trans H; with_reducible exact H2_) | with_reducible exact H | (rw [hy566]; exact H) | exact H
                  have Ny566 := Aside0.mk hy566
                  clear hy566
                  have H' := Aside0.mk H
                  clear H
                  have p68 : 0 ≤ (0 : Int) := (by omega)
                  have q68 : 0 < y564.size := (by have : (0 : Int) < (y564.size : Int) := of_decide_eq_true (by first | (with_reducible assumption) | assumption); omega)
                  have hx68 : ∀ h : 0 < y564.size, ((y564[0]'h).toNat : Int) = bt y564 0 := bt_at y564 0
                  clear p68
                  have qi68 : (0 < (y564.size : Int)) = True := eq_true (of_decide_eq_true (by first | (with_reducible assumption) | assumption))
                  replace q68 := eq_true q68
                  have hcs73 := Hd.str_from (P := Tryd.prog) (k := .i64) Tryd.underlying9 (i := 1) (s := y564) (y := y566) (by first | (with_reducible assumption) | exact of_decide_eq_true (by first | (with_reducible assumption) | assumption) | omega) (by first | (with_reducible assumption) | exact of_decide_eq_true (by first | (with_reducible assumption) | assumption) | omega) Ny566.out
                  go_wp2
                  go_meet
                  case rel => exact ⟨_, (y566), (1), (by first | rfl | (simp; done) | (simp [*]; done)), (by first | rfl | (simp; done) | (simp [*]; done)), H', ⟨by have := HJ7.out; have := HJ43.out; have := HJ57.out; first | omega | exact Nat.le_refl _⟩, ⟨by (with_reducible repeat (first | refine blk_drewN ?_ _ | refine blk_drew ?_ | refine blk_alloc ?_ _)); exact BK552.out⟩, ⟨by (with_reducible repeat (first | refine blk_drewN ?_ _ | refine blk_drew ?_ | refine blk_alloc ?_ _)); exact BK555.out⟩, ⟨lk HB⟩⟩
                 ·
                  rw [if_neg c72] at H
                  exact absurd H (by simp)
               ·
                rw [if_neg c67] at H
                exact absurd H (by simp)
              ·
               replace c66 := Bool.eq_false_iff.mpr c66
               subst c66
               have H1 : (num_read.j3 kj57 y564 1 t563 x556001_7) = some (r1, r2, r3) := by rw [if_neg (show ¬ (false = true) by decide)] at H; exact H
               clear H
               have H := H1
               clear H1
               have H' := Aside0.mk H
               clear H
               go_wp2
               go_meet
               case rel => exact ⟨_, (y564), (1), (by first | rfl | (simp; done) | (simp [*]; done)), (by first | rfl | (simp; done) | (simp [*]; done)), H', ⟨by have := HJ7.out; have := HJ43.out; have := HJ57.out; first | omega | exact Nat.le_refl _⟩, ⟨by (with_reducible repeat (first | refine blk_drewN ?_ _ | refine blk_drew ?_ | refine blk_alloc ?_ _)); exact BK552.out⟩, ⟨by (with_reducible repeat (first | refine blk_drewN ?_ _ | refine blk_drew ?_ | refine blk_alloc ?_ _)); exact BK555.out⟩, ⟨lk HB⟩⟩
             case rest =>
              clear HC65
              try clear c1
              try clear c2
              try clear p2
              try clear c3
              try clear c3b0
              try clear c3b1
              try clear c4
              try clear c4b0
              try clear c4b1
              try clear c5
              try clear c5b0
              try clear p5
              try clear q5
              try clear hx5
              try clear qi5
              try clear c6
              try clear c6b0
              try clear p6
              try clear q6
              try clear hx6
              try clear qi6
              try clear c7
              try clear c9
              try clear c10
              try clear c12
              try clear c15
              try clear c16
              try clear c16b0
              try clear c16b1
              try clear c18
              try clear c18b0
              try clear c18b1
              try clear c19
              try clear c19b0
              try clear c19b1
              try clear c20
              try clear c20b0
              try clear c20b1
              try clear c20b2
              try clear c22
              try clear c22b0
              try clear c22b1
              try clear c23
              try clear c23b0
              try clear c30
              try clear c33
              try clear c33b0
              try clear c33b1
              try clear c34
              try clear c38
              try clear c38b0
              try clear c38b1
              try clear c39
              try clear c45
              try clear c49
              try clear c49b0
              try clear c49b1
              try clear p50
              try clear q50
              try clear hx50
              try clear qi50
              try clear c51
              try clear c51b0
              try clear c51b1
              try clear p52
              try clear q52
              try clear hx52
              try clear qi52
              try clear c53
              try clear c54
              try clear c57
              try clear c57b0
              try clear c57b1
              try clear c60
              try clear c60b0
              try clear c60b1
              try clear c61
              try clear c61b0
              try clear c61b1
              try clear p62
              try clear q62
              try clear hx62
              try clear qi62
              try clear c63
              try clear c63b0
              try clear c63b1
              try clear p64
              try clear q64
              try clear hx64
              try clear qi64
              try clear c66
              try clear c67
              try clear c67b0
              try clear c67b1
              try clear p68
              try clear q68
              try clear hx68
              try clear qi68
              try clear c69
              try clear c69b0
              try clear c69b1
              try clear c70
              try clear c70b0
              try clear c70b1
              try clear c72
              try clear c72b0
              try clear c72b1
              try clear hcz13_0
              try clear hcz13_1
              try clear hcz31_0
              try clear hcz31_1
              try clear hcz35_0
              try clear hcz35_1
              try clear hcz36_0
              try clear hcz36_1
              try clear hcz40_0
              try clear hcz40_1
              try clear hcz42_0
              try clear hcz42_1
              try clear hcz43_0
              try clear hcz43_1
              try clear hcz46_0
              try clear hcz46_1
              try clear hcz48_0
              try clear hcz48_1
              try clear hcz55_0
              try clear hcz55_1
              try clear hcz56_0
              try clear hcz56_1
              try clear hfz13_0
              try clear hfz13_1
              try clear hfz31_0
              try clear hfz31_1
              try clear hfz35_0
              try clear hfz35_1
              try clear hfz36_0
              try clear hfz36_1
              try clear hfz40_0
              try clear hfz40_1
              try clear hfz42_0
              try clear hfz42_1
              try clear hfz43_0
              try clear hfz43_1
              try clear hfz46_0
              try clear hfz46_1
              try clear hfz48_0
              try clear hfz48_1
              try clear hfz55_0
              try clear hfz55_1
              try clear hfz56_0
              try clear hfz56_1
              try clear p2
              try clear p5
              try clear p50
              try clear p52
              try clear p6
              try clear p62
              try clear p64
              try clear p68
              try clear q5
              try clear q50
              try clear q52
              try clear q6
              try clear q62
              try clear q64
              try clear q68
              obtain ⟨kq, x0_64, x6_64, rfl, rfl, HA, HJ64, BK552, BK555, HB⟩ := hcut
              cases kq with
              | zero => exact absurd HA.out (by simp [num_read.j3])
              | succ kj64 =>
               have H := HA.out
               clear HA
               simp only [num_read.j3] at H
               have HC74 := Aside0.mk H
               clear H
               go_upto_region 22 with (fail)
               go_cut [85] (fun v85 wc => ∃ (kq : Nat) (x85_73 : Bool), v85 = .bool x85_73 ∧ Aside0 (num_read.j4 kq x0_64 x6_64 x85_73 t563 x556001_7 = some (r1, r2, r3)) ∧ Aside0 (kq ≤ kj64) ∧ Aside0 (wc.heap[gb552]? = some (.cells #[.string (⟨#[]⟩ : ByteArray), .int .i64 0] 79 (0, 0))) ∧ Aside0 (wc.heap[gb555]? = some (.cells #[.string t563, .int .i64 x556001_7] 79 (0, 0))) ∧ Aside0 (Below w.heap.size w wc))
               case first =>
                have H := HC74.out
                clear HC74
                by_cases c75 : x0_64.toList = ([] : List UInt8)
                ·
                 rw [if_pos c75] at H
                 have c75b0 : (x0_64.toList == ([] : List UInt8)) = true := beq_iff_eq.mpr c75
                 have c75b1 : (x0_64.toList != ([] : List UInt8)) = false := bne_eq_false_iff_eq.mpr c75
                 clear c75
                 (first | rw [c75b0] | (simp only [i64_w, i32_w]; rw [c75b0]) | skip)
                 have H' := Aside0.mk H
                 clear H
                 go_wp2
                 go_meet
                 case rel => exact ⟨_, (true), (by first | rfl | (simp; done) | (simp [*]; done)), H', ⟨by have := HJ7.out; have := HJ43.out; have := HJ57.out; have := HJ64.out; first | omega | exact Nat.le_refl _⟩, ⟨by (with_reducible repeat (first | refine blk_drewN ?_ _ | refine blk_drew ?_ | refine blk_alloc ?_ _)); exact BK552.out⟩, ⟨by (with_reducible repeat (first | refine blk_drewN ?_ _ | refine blk_drew ?_ | refine blk_alloc ?_ _)); exact BK555.out⟩, ⟨lk HB⟩⟩
                ·
                 rw [if_neg c75] at H
                 have c75b0 : (x0_64.toList == ([] : List UInt8)) = false := beq_eq_false_iff_ne.mpr c75
                 have c75b1 : (x0_64.toList != ([] : List UInt8)) = true := bne_iff_ne.mpr c75
                 (first | rw [c75b0] | (simp only [i64_w, i32_w]; rw [c75b0]) | skip)
                 replace H := Option.bind_eq_some_iff.mp H
                 obtain ⟨t567, A760, H⟩ := H
                 replace H : (num_read.j4 kj64 x0_64 x6_64 (t567 != (x0_64.size : Int)) t563 x556001_7) = some (r1, r2, r3) := H
                 have A76 := Aside0.mk A760
                 clear A760
                 have H' := Aside0.mk H
                 clear H
                 go_wp2_with (first | (go_at_call 76; (with_reducible refine (num_run.calls kj64 x0_64 t567 _ A76.out).mono ?_); rintro e w' ⟨rfl, ⟨nd, rfl⟩⟩))
                 go_meet
                 case rel => exact ⟨_, ((t567 != (x0_64.size : Int))), (by first | rfl | (simp; done) | (simp [*]; done)), H', ⟨by have := HJ7.out; have := HJ43.out; have := HJ57.out; have := HJ64.out; first | omega | exact Nat.le_refl _⟩, ⟨by (with_reducible repeat (first | refine blk_drewN ?_ _ | refine blk_drew ?_ | refine blk_alloc ?_ _)); exact BK552.out⟩, ⟨by (with_reducible repeat (first | refine blk_drewN ?_ _ | refine blk_drew ?_ | refine blk_alloc ?_ _)); exact BK555.out⟩, ⟨lk HB⟩⟩
               case rest =>
                clear HC74
                try clear c1
                try clear c2
                try clear p2
                try clear c3
                try clear c3b0
                try clear c3b1
                try clear c4
                try clear c4b0
                try clear c4b1
                try clear c5
                try clear c5b0
                try clear p5
                try clear q5
                try clear hx5
                try clear qi5
                try clear c6
                try clear c6b0
                try clear p6
                try clear q6
                try clear hx6
                try clear qi6
                try clear c7
                try clear c9
                try clear c10
                try clear c12
                try clear c15
                try clear c16
                try clear c16b0
                try clear c16b1
                try clear c18
                try clear c18b0
                try clear c18b1
                try clear c19
                try clear c19b0
                try clear c19b1
                try clear c20
                try clear c20b0
                try clear c20b1
                try clear c20b2
                try clear c22
                try clear c22b0
                try clear c22b1
                try clear c23
                try clear c23b0
                try clear c30
                try clear c33
                try clear c33b0
                try clear c33b1
                try clear c34
                try clear c38
                try clear c38b0
                try clear c38b1
                try clear c39
                try clear c45
                try clear c49
                try clear c49b0
                try clear c49b1
                try clear p50
                try clear q50
                try clear hx50
                try clear qi50
                try clear c51
                try clear c51b0
                try clear c51b1
                try clear p52
                try clear q52
                try clear hx52
                try clear qi52
                try clear c53
                try clear c54
                try clear c57
                try clear c57b0
                try clear c57b1
                try clear c60
                try clear c60b0
                try clear c60b1
                try clear c61
                try clear c61b0
                try clear c61b1
                try clear p62
                try clear q62
                try clear hx62
                try clear qi62
                try clear c63
                try clear c63b0
                try clear c63b1
                try clear p64
                try clear q64
                try clear hx64
                try clear qi64
                try clear c66
                try clear c67
                try clear c67b0
                try clear c67b1
                try clear p68
                try clear q68
                try clear hx68
                try clear qi68
                try clear c69
                try clear c69b0
                try clear c69b1
                try clear c70
                try clear c70b0
                try clear c70b1
                try clear c72
                try clear c72b0
                try clear c72b1
                try clear c75
                try clear c75b0
                try clear c75b1
                try clear hcz13_0
                try clear hcz13_1
                try clear hcz31_0
                try clear hcz31_1
                try clear hcz35_0
                try clear hcz35_1
                try clear hcz36_0
                try clear hcz36_1
                try clear hcz40_0
                try clear hcz40_1
                try clear hcz42_0
                try clear hcz42_1
                try clear hcz43_0
                try clear hcz43_1
                try clear hcz46_0
                try clear hcz46_1
                try clear hcz48_0
                try clear hcz48_1
                try clear hcz55_0
                try clear hcz55_1
                try clear hcz56_0
                try clear hcz56_1
                try clear hfz13_0
                try clear hfz13_1
                try clear hfz31_0
                try clear hfz31_1
                try clear hfz35_0
                try clear hfz35_1
                try clear hfz36_0
                try clear hfz36_1
                try clear hfz40_0
                try clear hfz40_1
                try clear hfz42_0
                try clear hfz42_1
                try clear hfz43_0
                try clear hfz43_1
                try clear hfz46_0
                try clear hfz46_1
                try clear hfz48_0
                try clear hfz48_1
                try clear hfz55_0
                try clear hfz55_1
                try clear hfz56_0
                try clear hfz56_1
                try clear p2
                try clear p5
                try clear p50
                try clear p52
                try clear p6
                try clear p62
                try clear p64
                try clear p68
                try clear q5
                try clear q50
                try clear q52
                try clear q6
                try clear q62
                try clear q64
                try clear q68
                obtain ⟨kq, x85_73, rfl, HA, HJ73, BK552, BK555, HB⟩ := hcut
                cases kq with
                | zero => exact absurd HA.out (by simp [num_read.j4])
                | succ kj73 =>
                 have H := HA.out
                 clear HA
                 simp only [num_read.j4] at H
                 by_cases c77 : x85_73 = true
                 ·
                  subst c77
                  have H1 : (some (t563, x556001_7, false)) = some (r1, r2, r3) := by rw [if_pos rfl] at H; exact H
                  clear H
                  have H := H1
                  clear H1
                  simp only [Option.some.injEq, Prod.mk.injEq] at H
                  obtain ⟨rfl, rfl, rfl⟩ := H
                  have hnb78 := NB555_552.out
                  have hnc78 := NB552_555.out
                  have hcz79_0 : wc.cell? ⟨gb555, 0, none⟩ = some (.string t563) := (blk_cell BK555.out 0).trans rfl
                  have hcz79_1 : wc.cell? ⟨gb555, 1, none⟩ = some (.int .i64 x556001_7) := (blk_cell BK555.out 1).trans rfl
                  have hfz79_0 := blk_frozen BK555.out 0
                  have hfz79_1 := blk_frozen BK555.out 1
                  have hcz80_0 : wc.cell? ⟨gb552, 0, none⟩ = some (.string (⟨#[]⟩ : ByteArray)) := (blk_cell BK552.out 0).trans rfl
                  have hcz80_1 : wc.cell? ⟨gb552, 1, none⟩ = some (.int .i64 0) := (blk_cell BK552.out 1).trans rfl
                  have hfz80_0 := blk_frozen BK552.out 0
                  have hfz80_1 := blk_frozen BK552.out 1
                  go_wp2
                  refine bodyPost_ret (results_ct rfl _ _ gb552 79 #[.string t563, .int .i64 x556001_7] (0, 0) _ rfl (by (with_reducible repeat (first | refine blk_drewN ?_ _ | refine blk_drew ?_ | refine blk_alloc ?_ _)); refine blk_put (cs := #[.string t563, .int .i64 0]) ?_ 1 _ rfl; (with_reducible repeat (first | refine blk_drewN ?_ _ | refine blk_drew ?_ | refine blk_alloc ?_ _)); refine blk_put (cs := #[.string (⟨#[]⟩ : ByteArray), .int .i64 0]) ?_ 0 _ rfl; (with_reducible repeat (first | refine blk_drewN ?_ _ | refine blk_drew ?_ | refine blk_alloc ?_ _)); exact BK552.out) Tryd.underlying79 rfl (by kernel_rfl)) rfl ?_
                  exact ex (lk HB)
                 ·
                  replace c77 := Bool.eq_false_iff.mpr c77
                  subst c77
                  have H1 : (num_read.l0 kj73 x0_64 x6_64 0 (x0_64.size : Int) 0 t563 x556001_7) = some (r1, r2, r3) := by rw [if_neg (show ¬ (false = true) by decide)] at H; exact H
                  clear H
                  have H := H1
                  clear H1
                  have H' := Aside0.mk H
                  clear H
                  go_wp2
                  go_loopg [7, 89] kj73 (fun kq v7 v89 w' => ∃ (x7_6 : Int) (x89_6 : Int), v7 = .int .i64 x7_6 ∧ v89 = .int .i64 x89_6 ∧ Aside0 (num_read.l0 kq x0_64 x6_64 x7_6 (x0_64.size : Int) x89_6 t563 x556001_7 = some (r1, r2, r3)) ∧ Aside0 (kq ≤ kj73) ∧ Aside0 (w'.heap[gb552]? = some (.cells #[.string (⟨#[]⟩ : ByteArray), .int .i64 0] 79 (0, 0))) ∧ Aside0 (w'.heap[gb555]? = some (.cells #[.string t563, .int .i64 x556001_7] 79 (0, 0))) ∧ Aside0 (Below w.heap.size w w'))
                  case atStart => exact ⟨(0), (0), (by first | rfl | (simp; done) | (simp [*]; done)), (by first | rfl | (simp; done) | (simp [*]; done)), H', ⟨Nat.le_refl _⟩, ⟨by (with_reducible repeat (first | refine blk_drewN ?_ _ | refine blk_drew ?_ | refine blk_alloc ?_ _)); exact BK552.out⟩, ⟨by (with_reducible repeat (first | refine blk_drewN ?_ _ | refine blk_drew ?_ | refine blk_alloc ?_ _)); exact BK555.out⟩, ⟨lk HB⟩⟩
                  case round =>
                   clear H'
                   try clear c1
                   try clear c2
                   try clear p2
                   try clear c3
                   try clear c3b0
                   try clear c3b1
                   try clear c4
                   try clear c4b0
                   try clear c4b1
                   try clear c5
                   try clear c5b0
                   try clear p5
                   try clear q5
                   try clear hx5
                   try clear qi5
                   try clear c6
                   try clear c6b0
                   try clear p6
                   try clear q6
                   try clear hx6
                   try clear qi6
                   try clear c7
                   try clear c9
                   try clear c10
                   try clear c12
                   try clear c15
                   try clear c16
                   try clear c16b0
                   try clear c16b1
                   try clear c18
                   try clear c18b0
                   try clear c18b1
                   try clear c19
                   try clear c19b0
                   try clear c19b1
                   try clear c20
                   try clear c20b0
                   try clear c20b1
                   try clear c20b2
                   try clear c22
                   try clear c22b0
                   try clear c22b1
                   try clear c23
                   try clear c23b0
                   try clear c30
                   try clear c33
                   try clear c33b0
                   try clear c33b1
                   try clear c34
                   try clear c38
                   try clear c38b0
                   try clear c38b1
                   try clear c39
                   try clear c45
                   try clear c49
                   try clear c49b0
                   try clear c49b1
                   try clear p50
                   try clear q50
                   try clear hx50
                   try clear qi50
                   try clear c51
                   try clear c51b0
                   try clear c51b1
                   try clear p52
                   try clear q52
                   try clear hx52
                   try clear qi52
                   try clear c53
                   try clear c54
                   try clear c57
                   try clear c57b0
                   try clear c57b1
                   try clear c60
                   try clear c60b0
                   try clear c60b1
                   try clear c61
                   try clear c61b0
                   try clear c61b1
                   try clear p62
                   try clear q62
                   try clear hx62
                   try clear qi62
                   try clear c63
                   try clear c63b0
                   try clear c63b1
                   try clear p64
                   try clear q64
                   try clear hx64
                   try clear qi64
                   try clear c66
                   try clear c67
                   try clear c67b0
                   try clear c67b1
                   try clear p68
                   try clear q68
                   try clear hx68
                   try clear qi68
                   try clear c69
                   try clear c69b0
                   try clear c69b1
                   try clear c70
                   try clear c70b0
                   try clear c70b1
                   try clear c72
                   try clear c72b0
                   try clear c72b1
                   try clear c75
                   try clear c75b0
                   try clear c75b1
                   try clear c77
                   try clear c78
                   try clear hcz13_0
                   try clear hcz13_1
                   try clear hcz31_0
                   try clear hcz31_1
                   try clear hcz35_0
                   try clear hcz35_1
                   try clear hcz36_0
                   try clear hcz36_1
                   try clear hcz40_0
                   try clear hcz40_1
                   try clear hcz42_0
                   try clear hcz42_1
                   try clear hcz43_0
                   try clear hcz43_1
                   try clear hcz46_0
                   try clear hcz46_1
                   try clear hcz48_0
                   try clear hcz48_1
                   try clear hcz55_0
                   try clear hcz55_1
                   try clear hcz56_0
                   try clear hcz56_1
                   try clear hcz79_0
                   try clear hcz79_1
                   try clear hcz80_0
                   try clear hcz80_1
                   try clear hfz13_0
                   try clear hfz13_1
                   try clear hfz31_0
                   try clear hfz31_1
                   try clear hfz35_0
                   try clear hfz35_1
                   try clear hfz36_0
                   try clear hfz36_1
                   try clear hfz40_0
                   try clear hfz40_1
                   try clear hfz42_0
                   try clear hfz42_1
                   try clear hfz43_0
                   try clear hfz43_1
                   try clear hfz46_0
                   try clear hfz46_1
                   try clear hfz48_0
                   try clear hfz48_1
                   try clear hfz55_0
                   try clear hfz55_1
                   try clear hfz56_0
                   try clear hfz56_1
                   try clear hfz79_0
                   try clear hfz79_1
                   try clear hfz80_0
                   try clear hfz80_1
                   try clear p2
                   try clear p5
                   try clear p50
                   try clear p52
                   try clear p6
                   try clear p62
                   try clear p64
                   try clear p68
                   try clear q5
                   try clear q50
                   try clear q52
                   try clear q6
                   try clear q62
                   try clear q64
                   try clear q68
                   obtain ⟨x7_6, x89_6, rfl, rfl, HA, HK6, BK552, BK555, HB⟩ := hrel
                   cases gk with
                   | zero => exact absurd HA.out (by simp [num_read.l0])
                   | succ k6 =>
                    have H := HA.out
                    clear HA
                    simp only [num_read.l0] at H
                    by_cases c81 : x89_6 < (x0_64.size : Int)
                    ·
                     rw [if_pos c81] at H
                     have c81b0 : decide (x89_6 < (x0_64.size : Int)) = true := decide_eq_true c81
                     clear c81
                     by_cases c82 : 0 ≤ x89_6
                     ·
                      rw [if_pos c82] at H
                      have c82b0 : decide (0 ≤ x89_6) = true := decide_eq_true c82
                      clear c82
                      by_cases c83 : x89_6 < (x0_64.size : Int)
                      ·
                       rw [if_pos c83] at H
                       have c83b0 : decide (x89_6 < (x0_64.size : Int)) = true := decide_eq_true c83
                       clear c83
                       obtain ⟨ji85, hji85⟩ : ∃ j_ : Int, (mn (wrap64 ((wrap64 (10 * x7_6)) + (((bt x0_64 x89_6) - 48) % 256))) 100000) = j_ := ⟨_, rfl⟩
                       replace H : (num_read.l0 k6 x0_64 x6_64 ji85 (x0_64.size : Int) (wrap64 (x89_6 + 1)) t563 x556001_7) = some (r1, r2, r3) := by first | (rw [hji85] at H; exact H) | (simp only [hji85] at H ⊢; exact H)
                       have hji85_ : (if 100000 < (wrap64 ((wrap64 (10 * x7_6)) + (((bt x0_64 x89_6) - 48) % 256))) then 100000 else (wrap64 ((wrap64 (10 * x7_6)) + (((bt x0_64 x89_6) - 48) % 256)))) = ji85 := hji85
                       have H' := Aside0.mk H
                       clear H
                       have p84 : 0 ≤ (x89_6 : Int) := of_decide_eq_true (by first | (with_reducible assumption) | assumption)
                       have q84 : x89_6 < (x0_64.size : Int) := of_decide_eq_true (by first | (with_reducible assumption) | assumption)
                       have hx84 := bt_at x0_64 x89_6
                       replace p84 := eq_true p84
                       replace q84 := eq_true q84
                       go_wp2
                       go_roundg k6
                       case measure => have := HJ7.out; have := HJ43.out; have := HJ57.out; have := HJ64.out; have := HJ73.out; have := HK6.out; omega
                       case rel => exact ⟨(ji85), (wrap64 (x89_6 + 1)), (by first | rfl | (simp; done) | (simp only [← hji85] <;> (first | rfl | simp)) | (simp [*]; done)), (by first | rfl | (simp; done) | (simp [*]; done)), H', ⟨by have := HJ7.out; have := HJ43.out; have := HJ57.out; have := HJ64.out; have := HJ73.out; have := HK6.out; omega⟩, ⟨by (with_reducible repeat (first | refine blk_drewN ?_ _ | refine blk_drew ?_ | refine blk_alloc ?_ _)); exact BK552.out⟩, ⟨by (with_reducible repeat (first | refine blk_drewN ?_ _ | refine blk_drew ?_ | refine blk_alloc ?_ _)); exact BK555.out⟩, ⟨lk HB⟩⟩
                      ·
                       rw [if_neg c83] at H
                       exact absurd H (by simp)
                     ·
                      rw [if_neg c82] at H
                      exact absurd H (by simp)
                    ·
                     rw [if_neg c81] at H
                     have c81b0 : decide (x89_6 < (x0_64.size : Int)) = false := decide_eq_false c81
                     clear c81
                     simp only [Option.some.injEq, Prod.mk.injEq] at H
                     obtain ⟨rfl, rfl, rfl⟩ := H
                     have hnb86 := NB555_552.out
                     have hnc86 := NB552_555.out
                     have hcz87_0 : wr.cell? ⟨gb555, 0, none⟩ = some (.string t563) := (blk_cell BK555.out 0).trans rfl
                     have hcz87_1 : wr.cell? ⟨gb555, 1, none⟩ = some (.int .i64 x556001_7) := (blk_cell BK555.out 1).trans rfl
                     have hfz87_0 := blk_frozen BK555.out 0
                     have hfz87_1 := blk_frozen BK555.out 1
                     have hcz88_0 : wr.cell? ⟨gb552, 0, none⟩ = some (.string (⟨#[]⟩ : ByteArray)) := (blk_cell BK552.out 0).trans rfl
                     have hcz88_1 : wr.cell? ⟨gb552, 1, none⟩ = some (.int .i64 0) := (blk_cell BK552.out 1).trans rfl
                     have hfz88_0 := blk_frozen BK552.out 0
                     have hfz88_1 := blk_frozen BK552.out 1
                     go_wp2
                     refine bodyPost_ret (results_ct rfl _ _ gb552 79 #[.string t563, .int .i64 (wrap64 (x556001_7 + (wrap64 (x6_64 * x7_6))))] (0, 0) _ rfl (by (with_reducible repeat (first | refine blk_drewN ?_ _ | refine blk_drew ?_ | refine blk_alloc ?_ _)); refine blk_put (cs := #[.string t563, .int .i64 0]) ?_ 1 _ rfl; (with_reducible repeat (first | refine blk_drewN ?_ _ | refine blk_drew ?_ | refine blk_alloc ?_ _)); refine blk_put (cs := #[.string (⟨#[]⟩ : ByteArray), .int .i64 0]) ?_ 0 _ rfl; (with_reducible repeat (first | refine blk_drewN ?_ _ | refine blk_drew ?_ | refine blk_alloc ?_ _)); refine blk_far ?_ NB552_555.out _; (with_reducible repeat (first | refine blk_drewN ?_ _ | refine blk_drew ?_ | refine blk_alloc ?_ _)); exact BK552.out) Tryd.underlying79 rfl (by kernel_rfl)) rfl ?_
                     exact ex (lk HB)
          ·
           rw [if_neg c57] at H
           exact absurd H (by simp)
  ·
   rw [if_neg c4] at H
   exact absurd H (by simp)
 ·
  rw [if_neg c3] at H
  exact absurd H (by simp)

end Go.Proofs.YtjlnfnfdibfniaaDoor.F

/- A row of bytes that '[]byte(s)' has laid (it bears the run-time's mark behind its last cell): read, written, turned back to a string. -/
namespace Go.Proofs.YtjlnfnfdibfniaaDoor.Hd
open Go.RowKit Go.Proofs.YtjlnfnfdibfniaaDoorW.PrintWords Go.Proofs.YtjlnfnfdibfniaaDoorW.PrintLast

/-- Block B holds these bytes, and perhaps more behind them; none of its cells is frozen. -/
def BRow (w : World) (B : Nat) (bs : List UInt8) : Prop :=
  ∃ C : Array Value, w.heap[B]? = some (.cells C 5 (C.size, C.size + 1)) ∧ bs.length ≤ C.size ∧ ∀ i (h : i < bs.length), C[i]? = some (.int .u8 (bs[i].toNat : Int))

theorem BRow.cell {w : World} {B : Nat} {bs : List UInt8} (h : BRow w B bs) (i : Nat) (hi : i < bs.length) : w.cell? ⟨B, i, none⟩ = some (.int .u8 (bs[i].toNat : Int)) := by
  obtain ⟨C, h1, h2, h3⟩ := h
  unfold World.cell?
  dsimp only
  rw [h1]
  simpa using h3 i hi
theorem BRow.free {w : World} {B : Nat} {bs : List UInt8} (h : BRow w B bs) (i : Nat) (hi : i < bs.length) : w.frozen? ⟨B, i, none⟩ = false := by
  obtain ⟨C, h1, h2, h3⟩ := h
  unfold World.frozen?
  dsimp only
  rw [h1]
  simp
  omega
theorem BRow.set {w : World} {B : Nat} {bs : List UInt8} (h : BRow w B bs) (i : Nat) (v : UInt8) (z : Int) (hz : z = (v.toNat : Int)) : BRow (w.setCell ⟨B, i, none⟩ (.int .u8 z)) B (bs.set i v) := by
  subst hz
  obtain ⟨C, h1, h2, h3⟩ := h
  refine ⟨C.setIfInBounds i (.int .u8 (v.toNat : Int)), ?_, by simpa using h2, ?_⟩
  · unfold World.setCell
    simp only [Array.getElem?_modify, if_true, h1]
    simp
  · intro j hj
    have hj' : j < bs.length := by simpa using hj
    by_cases e : i = j
    · subst e
      rw [Array.getElem?_setIfInBounds_self_of_lt (by omega)]
      simp
    · rw [Array.getElem?_setIfInBounds_ne e, h3 j hj', List.getElem_set_ne e]
theorem BRow.string {w : World} {B : Nat} {bs : List UInt8} (h : BRow w B bs) (n cap : Nat) (hn : n = bs.length) :
    (convert 43 9 (.slice (some ⟨B, 0, none⟩) n cap)).run Tryd.prog w = .ok (.string ⟨bs.toArray⟩) w := by
  subst hn
  refine run_convert_bytes_back w 43 9 5 _ cap bs Tryd.underlying43 Tryd.underlying5 Tryd.underlying9 fun j hj => ?_
  have : (⟨B, 0, none⟩ : Addr).add j = ⟨B, j, none⟩ := by
    unfold Addr.add
    split
    · rename_i e; subst e; rfl
    · simp
  rw [this]
  exact h.cell j hj
theorem BRow.drewN {w : World} {B : Nat} {bs : List UInt8} (h : BRow w B bs) (n : Nat) : BRow (w.drewN n) B bs := h
theorem BRow.drew {w : World} {B : Nat} {bs : List UInt8} (h : BRow w B bs) : BRow w.drew B bs := h

/-- What '[]byte(s)' leaves. -/
theorem conv_bytes (s : ByteArray) (w : World) : ∃ (cap : Nat) (o : Obj), (convert 9 43 (.string s)).run Tryd.prog w = .ok (.slice (some ⟨w.heap.size, 0, none⟩) s.size cap) ((w.alloc o).drew) ∧ BRow ((w.alloc o).drew) w.heap.size s.data.toList := by
  have h := run_bytes_of_string (P := Tryd.prog) w 9 43 5 s Tryd.underlying9 Tryd.underlying43 Tryd.underlying5
  refine ⟨_, _, h, bytesRow s (grownCap w s.size 0 5), ?_, ?_, ?_⟩
  · show (w.heap.push _)[w.heap.size]? = _
    simp
  · simp [bytesRow]
  · intro i hi
    have hi' : i < s.data.size := by simpa using hi
    unfold bytesRow
    rw [Array.getElem?_append_left (by simpa using hi'), Array.getElem?_map, Array.getElem?_eq_getElem hi']
    rfl

/-- The first i bytes turned by f. -/
def mixed (f : UInt8 → UInt8) (bs : List UInt8) (i : Nat) : List UInt8 := (bs.take i).map f ++ bs.drop i
theorem mixed_zero (f : UInt8 → UInt8) (bs : List UInt8) : mixed f bs 0 = bs := by simp [mixed]
theorem mixed_length (f : UInt8 → UInt8) (bs : List UInt8) (i : Nat) : (mixed f bs i).length = bs.length := by simp [mixed]; omega
theorem mixed_all (f : UInt8 → UInt8) (bs : List UInt8) : mixed f bs bs.length = bs.map f := by simp [mixed]
theorem mixed_get (f : UInt8 → UInt8) (bs : List UInt8) (i : Nat) (h : i < bs.length) : (mixed f bs i)[i]'(by rw [mixed_length]; exact h) = bs[i] := by
  unfold mixed
  have hl : ((bs.take i).map f).length = i := by simp; omega
  rw [List.getElem_append_right (by omega)]
  simp only [hl, Nat.sub_self, List.getElem_drop, Nat.add_zero]
theorem mixed_set (f : UInt8 → UInt8) (bs : List UInt8) (i : Nat) (h : i < bs.length) : (mixed f bs i).set i (f bs[i]) = mixed f bs (i + 1) := by
  unfold mixed
  have hl : ((bs.take i).map f).length = i := by simp; omega
  rw [List.set_append_right _ _ (by omega), hl, Nat.sub_self, List.drop_eq_getElem_cons h, List.set_cons_zero]
  rw [List.take_succ_eq_append_getElem h, List.map_append, List.append_assoc]
  rfl
theorem mixed_same (f : UInt8 → UInt8) (bs : List UInt8) (i : Nat) (h : i < bs.length) (hf : f bs[i] = bs[i]) : mixed f bs (i + 1) = mixed f bs i := by
  rw [← mixed_set f bs i h, hf]
  apply List.ext_getElem
  · simp
  · intro j h1 h2
    by_cases e : i = j
    · subst e
      simp [mixed_get f bs i h]
    · rw [List.getElem_set_ne e]
end Go.Proofs.YtjlnfnfdibfniaaDoor.Hd

/- small, lower, less, times (functions 65, 68, 24, 27): texts turned byte by byte in a row made by '[]byte(s)'. -/
namespace Go.Proofs.YtjlnfnfdibfniaaDoor.Hd
open Go.RowKit Go.Proofs.YtjlnfnfdibfniaaDoorW.PrintWords Go.Proofs.YtjlnfnfdibfniaaDoorW.PrintLast

/-- A letter A to Z made small. -/
def low (c : UInt8) : UInt8 := if 65 ≤ c.toNat ∧ c.toNat ≤ 90 then UInt8.ofNat (c.toNat + 32) else c
theorem low_hit (c : UInt8) (h1 : 65 ≤ c.toNat) (h2 : c.toNat ≤ 90) : ((low c).toNat : Int) = (c.toNat : Int) + 32 := by
  unfold low
  rw [if_pos ⟨h1, h2⟩, UInt8.toNat_ofNat']
  omega

def smallF (s : ByteArray) : ByteArray := ⟨(s.data.toList.map low).toArray⟩
def num_small.f (a0 : ByteArray) : Option ByteArray := if a0.size ≤ 9223372036854775807 then some (smallF a0) else none

set_option maxHeartbeats 2000000 in
set_option maxRecDepth 100000 in
theorem small_any (s : ByteArray) (w : World) (hs : s.size ≤ 9223372036854775807) :
    Calls Tryd.prog 65 #[.string s] w fun e w' => e = .returned (.string (smallF s)) ∧ Below w.heap.size w w' := by
  obtain ⟨cap, o, hrun, hrow⟩ := conv_bytes s w
  have HW := Aside0.mk (rfl : s.data.toList.length = s.size)
  obtain ⟨bs, hbs⟩ : ∃ bs, bs = s.data.toList := ⟨_, rfl⟩
  obtain ⟨n, hn⟩ : ∃ n, n = s.size := ⟨_, rfl⟩
  rw [← hn] at hs hrun
  rw [← hbs] at hrow
  have HN := Aside0.mk hn
  have HBS := Aside0.mk hbs
  have HRow := Aside0.mk hrow
  have hlen : Aside0 (bs.length = n) := ⟨by rw [hbs, hn]; rfl⟩
  clear hn hbs hrow HW
  go_enter Tryd.func65, Tryd.ntmps65
  go_wp2
  go_loopg [10] (n + 1) (fun kq v10 wr => ∃ i : Nat, v10 = .int .i64 (i : Int) ∧ i ≤ n ∧ Aside0 (BRow wr w.heap.size (mixed low bs i)) ∧ Aside0 (Below w.heap.size w wr) ∧ Aside0 (n - i < kq))
  case atStart => exact ⟨0, rfl, Nat.zero_le _, ⟨by rw [mixed_zero]; exact HRow.out⟩, ⟨below_drew1 ((Below.refl _ _).alloc (Nat.le_refl _) _)⟩, ⟨by omega⟩⟩
  case round =>
    obtain ⟨i, rfl, hi, HR, HB, HK⟩ := hrel
    by_cases hlt : i < n
    · obtain ⟨c, hcell, hfree, HC, HD⟩ : ∃ c : UInt8, wr.cell? ⟨w.heap.size, i, none⟩ = some (.int .u8 (c.toNat : Int)) ∧ wr.frozen? ⟨w.heap.size, i, none⟩ = false ∧
          Aside0 (∀ z : Int, z = ((low c).toNat : Int) → BRow (wr.setCell ⟨w.heap.size, i, none⟩ (.int .u8 z)) w.heap.size (mixed low bs (i + 1))) ∧
          Aside0 (low c = c → BRow wr w.heap.size (mixed low bs (i + 1))) := by
        have hil : i < bs.length := by rw [hlen.out]; exact hlt
        have hil' : i < (mixed low bs i).length := by rw [mixed_length]; exact hil
        refine ⟨bs[i], ?_, HR.out.free i hil', ⟨fun z hz => ?_⟩, ⟨fun h => ?_⟩⟩
        · rw [← mixed_get low bs i hil]; exact HR.out.cell i hil'
        · rw [← mixed_set low bs i hil]; exact HR.out.set i _ z hz
        · rw [mixed_same low bs i hil h]; exact HR.out
      clear HR
      have hc255 := c.toNat_lt
      by_cases h1 : 65 ≤ c.toNat
      · by_cases h2 : c.toNat ≤ 90
        · have hb1 : decide ((65 : Int) ≤ (c.toNat : Int)) = true := by simp; omega
          have hb2 : decide ((c.toNat : Int) ≤ (90 : Int)) = true := by simp; omega
          go_wp2
          go_roundg (gk - 1)
          case measure => have := HK.out; omega
          case rel => exact ⟨i + 1, by go_num, by omega, ⟨HC.out _ (by rw [low_hit c h1 h2] <;> omega)⟩, ⟨below_set HB.out (Nat.le_refl _)⟩, ⟨by have := HK.out; omega⟩⟩
        · have hb1 : decide ((65 : Int) ≤ (c.toNat : Int)) = true := by simp; omega
          have hb2 : decide ((c.toNat : Int) ≤ (90 : Int)) = false := by simp; omega
          go_wp2
          go_roundg (gk - 1)
          case measure => have := HK.out; omega
          case rel => exact ⟨i + 1, by go_num, by omega, ⟨HD.out (by unfold low; rw [if_neg (by omega)])⟩, HB, ⟨by have := HK.out; omega⟩⟩
      · have hb1 : decide ((65 : Int) ≤ (c.toNat : Int)) = false := by simp; omega
        go_wp2
        go_roundg (gk - 1)
        case measure => have := HK.out; omega
        case rel => exact ⟨i + 1, by go_num, by omega, ⟨HD.out (by unfold low; rw [if_neg (by omega)])⟩, HB, ⟨by have := HK.out; omega⟩⟩
    · obtain rfl : i = n := by omega
      have hst := HR.out.string i cap (by rw [mixed_length]; exact hlen.out.symm)
      have he : Aside0 (ByteArray.mk (mixed low bs i).toArray = smallF s) := ⟨by rw [← hlen.out, mixed_all, HBS.out]; rfl⟩
      go_wp2
      go_ret
      exact ⟨by rw [← he.out]; rfl, HB.out⟩

theorem num_small.calls (a0 : ByteArray) (r : ByteArray) (w : World) (h : num_small.f a0 = some r) :
    Calls Tryd.prog 65 #[.string a0] w fun e w' => e = .returned (.string r) ∧ Below w.heap.size w w' := by
  unfold num_small.f at h
  split at h
  · cases h
    exact small_any a0 w (by assumption)
  · cases h
/- by mkbytes.py -/
def vigilref03_lower.f (a0 : ByteArray) : Option ByteArray := if a0.size ≤ 9223372036854775807 then some (smallF a0) else none

set_option maxHeartbeats 2000000 in
set_option maxRecDepth 100000 in
theorem lower_any (s : ByteArray) (w : World) (hs : s.size ≤ 9223372036854775807) :
    Calls Tryd.prog 68 #[.string s] w fun e w' => e = .returned (.string (smallF s)) ∧ Below w.heap.size w w' := by
  obtain ⟨cap, o, hrun, hrow⟩ := conv_bytes s w
  have HW := Aside0.mk (rfl : s.data.toList.length = s.size)
  obtain ⟨bs, hbs⟩ : ∃ bs, bs = s.data.toList := ⟨_, rfl⟩
  obtain ⟨n, hn⟩ : ∃ n, n = s.size := ⟨_, rfl⟩
  rw [← hn] at hs hrun
  rw [← hbs] at hrow
  have HN := Aside0.mk hn
  have HBS := Aside0.mk hbs
  have HRow := Aside0.mk hrow
  have hlen : Aside0 (bs.length = n) := ⟨by rw [hbs, hn]; rfl⟩
  clear hn hbs hrow HW
  go_enter Tryd.func68, Tryd.ntmps68
  go_wp2
  go_loopg [4] (n + 1) (fun kq v4 wr => ∃ i : Nat, v4 = .int .i64 (i : Int) ∧ i ≤ n ∧ Aside0 (BRow wr w.heap.size (mixed low bs i)) ∧ Aside0 (Below w.heap.size w wr) ∧ Aside0 (n - i < kq))
  case atStart => exact ⟨0, rfl, Nat.zero_le _, ⟨by rw [mixed_zero]; exact HRow.out⟩, ⟨below_drew1 ((Below.refl _ _).alloc (Nat.le_refl _) _)⟩, ⟨by omega⟩⟩
  case round =>
    obtain ⟨i, rfl, hi, HR, HB, HK⟩ := hrel
    by_cases hlt : i < n
    · obtain ⟨c, hcell, hfree, HC, HD⟩ : ∃ c : UInt8, wr.cell? ⟨w.heap.size, i, none⟩ = some (.int .u8 (c.toNat : Int)) ∧ wr.frozen? ⟨w.heap.size, i, none⟩ = false ∧
          Aside0 (∀ z : Int, z = ((low c).toNat : Int) → BRow (wr.setCell ⟨w.heap.size, i, none⟩ (.int .u8 z)) w.heap.size (mixed low bs (i + 1))) ∧
          Aside0 (low c = c → BRow wr w.heap.size (mixed low bs (i + 1))) := by
        have hil : i < bs.length := by rw [hlen.out]; exact hlt
        have hil' : i < (mixed low bs i).length := by rw [mixed_length]; exact hil
        refine ⟨bs[i], ?_, HR.out.free i hil', ⟨fun z hz => ?_⟩, ⟨fun h => ?_⟩⟩
        · rw [← mixed_get low bs i hil]; exact HR.out.cell i hil'
        · rw [← mixed_set low bs i hil]; exact HR.out.set i _ z hz
        · rw [mixed_same low bs i hil h]; exact HR.out
      clear HR
      have hc255 := c.toNat_lt
      by_cases h1 : 65 ≤ c.toNat
      · by_cases h2 : c.toNat ≤ 90
        · have hb1 : decide ((65 : Int) ≤ (c.toNat : Int)) = true := by simp; omega
          have hb2 : decide ((c.toNat : Int) ≤ (90 : Int)) = true := by simp; omega
          go_wp2
          go_roundg (gk - 1)
          case measure => have := HK.out; omega
          case rel => exact ⟨i + 1, by go_num, by omega, ⟨HC.out _ (by rw [low_hit c h1 h2] <;> omega)⟩, ⟨below_set HB.out (Nat.le_refl _)⟩, ⟨by have := HK.out; omega⟩⟩
        · have hb1 : decide ((65 : Int) ≤ (c.toNat : Int)) = true := by simp; omega
          have hb2 : decide ((c.toNat : Int) ≤ (90 : Int)) = false := by simp; omega
          go_wp2
          go_roundg (gk - 1)
          case measure => have := HK.out; omega
          case rel => exact ⟨i + 1, by go_num, by omega, ⟨HD.out (by unfold low; rw [if_neg (by omega)])⟩, HB, ⟨by have := HK.out; omega⟩⟩
      · have hb1 : decide ((65 : Int) ≤ (c.toNat : Int)) = false := by simp; omega
        go_wp2
        go_roundg (gk - 1)
        case measure => have := HK.out; omega
        case rel => exact ⟨i + 1, by go_num, by omega, ⟨HD.out (by unfold low; rw [if_neg (by omega)])⟩, HB, ⟨by have := HK.out; omega⟩⟩
    · obtain rfl : i = n := by omega
      have hst := HR.out.string i cap (by rw [mixed_length]; exact hlen.out.symm)
      have he : Aside0 (ByteArray.mk (mixed low bs i).toArray = smallF s) := ⟨by rw [← hlen.out, mixed_all, HBS.out]; rfl⟩
      go_wp2
      go_ret
      exact ⟨by rw [← he.out]; rfl, HB.out⟩

theorem vigilref03_lower.calls (a0 : ByteArray) (r : ByteArray) (w : World) (h : vigilref03_lower.f a0 = some r) :
    Calls Tryd.prog 68 #[.string a0] w fun e w' => e = .returned (.string r) ∧ Below w.heap.size w w' := by
  unfold vigilref03_lower.f at h
  split at h
  · cases h
    exact lower_any a0 w (by assumption)
  · cases h

/-- A number of decimal digits less one, the last digit first. -/
def lessR : List UInt8 → List UInt8
  | [] => []
  | c :: r => if 48 < c.toNat then UInt8.ofNat (c.toNat - 1) :: r else 57 :: lessR r
/-- One greater, the last digit first. -/
def timesR : List UInt8 → List UInt8
  | [] => [49]
  | c :: r => if c.toNat < 57 then UInt8.ofNat (c.toNat + 1) :: r else 48 :: timesR r
/-- What is left to be turned at place j; behind it all digits are d. -/
def tail (d : UInt8) (bs : List UInt8) (n j : Nat) : List UInt8 := bs.take j ++ List.replicate (n - j) d
theorem tail_all (d : UInt8) (bs : List UInt8) : tail d bs bs.length bs.length = bs := by simp [tail]
theorem tail_length (d : UInt8) (bs : List UInt8) (n j : Nat) (hn : bs.length = n) (h : j ≤ n) : (tail d bs n j).length = n := by simp [tail]; omega
theorem tail_get (d : UInt8) (bs : List UInt8) (n i : Nat) (hn : bs.length = n) (h : i < n) : (tail d bs n (i + 1))[i]'(by rw [tail_length d bs n _ hn (by omega)]; exact h) = bs[i]'(by omega) := by
  unfold tail
  rw [List.getElem_append_left (by rw [List.length_take]; omega)]
  simp
theorem tail_set (d v : UInt8) (bs : List UInt8) (n i : Nat) (hn : bs.length = n) (h : i < n) : (tail d bs n (i + 1)).set i v = bs.take i ++ v :: List.replicate (n - (i + 1)) d := by
  unfold tail
  rw [List.take_succ_eq_append_getElem (by omega)]
  have hl : (bs.take i).length = i := by rw [List.length_take]; omega
  rw [List.append_assoc, List.set_append_right _ _ (by omega), hl, Nat.sub_self]
  simp
theorem tail_next (d : UInt8) (bs : List UInt8) (n i : Nat) (hn : bs.length = n) (h : i < n) : (tail d bs n (i + 1)).set i d = tail d bs n i := by
  rw [tail_set d d bs n i hn h]
  unfold tail
  rw [show n - i = n - (i + 1) + 1 from by omega, List.replicate_succ]
theorem rev_take (bs : List UInt8) (i : Nat) (h : i < bs.length) : (bs.take (i + 1)).reverse = bs[i] :: (bs.take i).reverse := by
  rw [List.take_succ_eq_append_getElem h]
  simp
theorem rep_snoc (n i : Nat) (h : i < n) (d : UInt8) (l : List UInt8) : List.replicate (n - (i + 1)) d ++ d :: l = List.replicate (n - i) d ++ l := by
  rw [show n - i = n - (i + 1) + 1 from by omega, List.replicate_succ', List.append_assoc]
  rfl

def lessF (s : ByteArray) : ByteArray := ⟨(lessR s.data.toList.reverse).reverse.toArray⟩
def vigillaw03_less.f (a0 : ByteArray) : Option ByteArray := if a0.size ≤ 140737488355328 then some (lessF a0) else none
theorem less_hit (bs : List UInt8) (n i : Nat) (hn : bs.length = n) (h : i < n) (c : UInt8) (hc : c = bs[i]'(by omega)) (ht : 48 < c.toNat)
    (hR : lessR bs.reverse = List.replicate (n - (i + 1)) 57 ++ lessR (bs.take (i + 1)).reverse) :
    (tail 57 bs n (i + 1)).set i (UInt8.ofNat (c.toNat - 1)) = (lessR bs.reverse).reverse := by
  rw [hR, rev_take bs i (by omega), ← hc, lessR, if_pos ht, tail_set _ _ _ _ _ hn h]
  simp
theorem less_miss (bs : List UInt8) (n i : Nat) (hn : bs.length = n) (h : i < n) (c : UInt8) (hc : c = bs[i]'(by omega)) (ht : ¬ 48 < c.toNat)
    (hR : lessR bs.reverse = List.replicate (n - (i + 1)) 57 ++ lessR (bs.take (i + 1)).reverse) :
    lessR bs.reverse = List.replicate (n - i) 57 ++ lessR (bs.take i).reverse := by
  rw [hR, rev_take bs i (by omega), ← hc, lessR, if_neg ht, rep_snoc n i h]

set_option maxHeartbeats 2000000 in
set_option maxRecDepth 100000 in
theorem less_any (s : ByteArray) (w : World) (hs : s.size ≤ 140737488355328) :
    Calls Tryd.prog 24 #[.string s] w fun e w' => e = .returned (.string (lessF s)) ∧ Below w.heap.size w w' := by
  obtain ⟨cap, o, hrun, hrow⟩ := conv_bytes s w
  obtain ⟨bs, hbs⟩ : ∃ bs, bs = s.data.toList := ⟨_, rfl⟩
  obtain ⟨n, hn⟩ : ∃ n, n = s.size := ⟨_, rfl⟩
  rw [← hn] at hs hrun
  rw [← hbs] at hrow
  have HN := Aside0.mk hn
  have HBS := Aside0.mk hbs
  have HRow := Aside0.mk hrow
  have hlen : Aside0 (bs.length = n) := ⟨by rw [hbs, hn]; rfl⟩
  clear hn hbs hrow
  go_enter Tryd.func24, Tryd.ntmps24
  go_wp2
  go_loopg [4] (n + 1) (fun kq v4 wr => ∃ (z : Int) (j : Nat), v4 = .int .i64 z ∧ Aside0 (z + 1 = (j : Int)) ∧ j ≤ n ∧ Aside0 (BRow wr w.heap.size (tail 57 bs n j)) ∧ Aside0 (Below w.heap.size w wr) ∧ Aside0 (j < kq) ∧
      Aside0 (lessR bs.reverse = List.replicate (n - j) 57 ++ lessR (bs.take j).reverse))
  case atStart => exact ⟨_, n, rfl, ⟨by omega⟩, Nat.le_refl _, ⟨by have h := hlen.out; subst h; rw [tail_all]; exact HRow.out⟩, ⟨below_drew1 ((Below.refl _ _).alloc (Nat.le_refl _) _)⟩, ⟨by omega⟩, ⟨by have h := hlen.out; subst h; simp⟩⟩
  case round =>
    obtain ⟨z, j, rfl, HZ, hj, HR, HB, HK, HT⟩ := hrel
    rcases j with _ | i
    · obtain rfl : z = -1 := by have := HZ.out; omega
      have hst := HR.out.string n cap (by rw [tail_length _ _ _ _ hlen.out (by omega)])
      have he : Aside0 (ByteArray.mk (tail 57 bs n 0).toArray = lessF s) := ⟨by
        unfold lessF
        rw [← HBS.out, HT.out]
        simp [tail, lessR]⟩
      have hsz : (tail 57 bs n 0).length = n := by rw [tail_length _ _ _ _ hlen.out (by omega)]
      go_wp2
      go_ret
      exact ⟨by rw [← he.out]; rfl, HB.out⟩
    · obtain rfl : z = (i : Int) := by have := HZ.out; omega
      obtain ⟨c, hcell, hfree, HC⟩ : ∃ c : UInt8, wr.cell? ⟨w.heap.size, i, none⟩ = some (.int .u8 (c.toNat : Int)) ∧ wr.frozen? ⟨w.heap.size, i, none⟩ = false ∧ Aside0 (c = bs[i]'(by have := hlen.out; omega)) := by
        have hil' : i < (tail 57 bs n (i + 1)).length := by rw [tail_length _ _ _ _ hlen.out hj]; omega
        refine ⟨bs[i]'(by have := hlen.out; omega), ?_, HR.out.free i hil', ⟨rfl⟩⟩
        rw [← tail_get 57 bs n i hlen.out (by omega)]; exact HR.out.cell i hil'
      have hc255 := c.toNat_lt
      by_cases h1 : 48 < c.toNat
      · have hb1 : decide ((48 : Int) < (c.toNat : Int)) = true := by simp; omega
        have hnext := HR.out.set i (UInt8.ofNat (c.toNat - 1)) ((c.toNat : Int) - 1) (by rw [UInt8.toNat_ofNat']; omega)
        rw [less_hit bs n i hlen.out (by omega) c HC.out h1 HT.out] at hnext
        have hst := hnext.string n cap (by
          have := congrArg List.length (less_hit bs n i hlen.out (by omega) c HC.out h1 HT.out)
          rw [List.length_set, tail_length _ _ _ _ hlen.out hj] at this
          exact this)
        clear hnext
        have he : Aside0 (ByteArray.mk (lessR bs.reverse).reverse.toArray = lessF s) := ⟨by rw [HBS.out]; rfl⟩
        obtain ⟨res, hres⟩ : ∃ l, l = (lessR bs.reverse).reverse := ⟨_, rfl⟩
        rw [← hres] at hst
        have HRes := Aside0.mk hres
        clear hres
        go_wp2
        go_ret
        exact ⟨by rw [← he.out, ← HRes.out]; rfl, below_set HB.out (Nat.le_refl _)⟩
      · have hb1 : decide ((48 : Int) < (c.toNat : Int)) = false := by simp; omega
        have HN2 := Aside0.mk (HR.out.set i 57 57 rfl)
        have HT2 := Aside0.mk (less_miss bs n i hlen.out (by omega) c HC.out h1 HT.out)
        go_wp2
        go_roundg (gk - 1)
        case measure => have := HK.out; omega
        case rel => exact ⟨_, i, rfl, ⟨by omega⟩, by omega, ⟨by rw [← tail_next 57 bs n i hlen.out (by omega)]; exact HN2.out⟩, ⟨below_set HB.out (Nat.le_refl _)⟩, ⟨by have := HK.out; omega⟩, HT2⟩

theorem vigillaw03_less.calls (a0 : ByteArray) (r : ByteArray) (w : World) (h : vigillaw03_less.f a0 = some r) :
    Calls Tryd.prog 24 #[.string a0] w fun e w' => e = .returned (.string r) ∧ Below w.heap.size w w' := by
  unfold vigillaw03_less.f at h
  split at h
  · cases h
    exact less_any a0 w (by assumption)
  · cases h

def timesF (s : ByteArray) : ByteArray := ⟨(timesR s.data.toList.reverse).reverse.toArray⟩
def vigillaw03_times.f (a0 : ByteArray) : Option ByteArray := if a0.size ≤ 140737488355328 then some (timesF a0) else none
theorem times_hit (bs : List UInt8) (n i : Nat) (hn : bs.length = n) (h : i < n) (c : UInt8) (hc : c = bs[i]'(by omega)) (ht : c.toNat < 57)
    (hR : timesR bs.reverse = List.replicate (n - (i + 1)) 48 ++ timesR (bs.take (i + 1)).reverse) :
    (tail 48 bs n (i + 1)).set i (UInt8.ofNat (c.toNat + 1)) = (timesR bs.reverse).reverse := by
  rw [hR, rev_take bs i (by omega), ← hc, timesR, if_pos ht, tail_set _ _ _ _ _ hn h]
  simp
theorem times_miss (bs : List UInt8) (n i : Nat) (hn : bs.length = n) (h : i < n) (c : UInt8) (hc : c = bs[i]'(by omega)) (ht : ¬ c.toNat < 57)
    (hR : timesR bs.reverse = List.replicate (n - (i + 1)) 48 ++ timesR (bs.take (i + 1)).reverse) :
    timesR bs.reverse = List.replicate (n - i) 48 ++ timesR (bs.take i).reverse := by
  rw [hR, rev_take bs i (by omega), ← hc, timesR, if_neg ht, rep_snoc n i h]

set_option maxHeartbeats 2000000 in
set_option maxRecDepth 100000 in
theorem times_any (s : ByteArray) (w : World) (hs : s.size ≤ 140737488355328) :
    Calls Tryd.prog 27 #[.string s] w fun e w' => e = .returned (.string (timesF s)) ∧ Below w.heap.size w w' := by
  obtain ⟨cap, o, hrun, hrow⟩ := conv_bytes s w
  obtain ⟨bs, hbs⟩ : ∃ bs, bs = s.data.toList := ⟨_, rfl⟩
  obtain ⟨n, hn⟩ : ∃ n, n = s.size := ⟨_, rfl⟩
  rw [← hn] at hs hrun
  rw [← hbs] at hrow
  have HN := Aside0.mk hn
  have HBS := Aside0.mk hbs
  have HRow := Aside0.mk hrow
  have hlen : Aside0 (bs.length = n) := ⟨by rw [hbs, hn]; rfl⟩
  clear hn hbs hrow
  go_enter Tryd.func27, Tryd.ntmps27
  go_wp2
  go_loopg [4] (n + 1) (fun kq v4 wr => ∃ (z : Int) (j : Nat), v4 = .int .i64 z ∧ Aside0 (z + 1 = (j : Int)) ∧ j ≤ n ∧ Aside0 (BRow wr w.heap.size (tail 48 bs n j)) ∧ Aside0 (Below w.heap.size w wr) ∧ Aside0 (j < kq) ∧
      Aside0 (timesR bs.reverse = List.replicate (n - j) 48 ++ timesR (bs.take j).reverse))
  case atStart => exact ⟨_, n, rfl, ⟨by omega⟩, Nat.le_refl _, ⟨by have h := hlen.out; subst h; rw [tail_all]; exact HRow.out⟩, ⟨below_drew1 ((Below.refl _ _).alloc (Nat.le_refl _) _)⟩, ⟨by omega⟩, ⟨by have h := hlen.out; subst h; simp⟩⟩
  case round =>
    obtain ⟨z, j, rfl, HZ, hj, HR, HB, HK, HT⟩ := hrel
    rcases j with _ | i
    · obtain rfl : z = -1 := by have := HZ.out; omega
      have hst := HR.out.string n cap (by rw [tail_length _ _ _ _ hlen.out (by omega)])
      have he : Aside0 (ByteArray.mk (49 :: tail 48 bs n 0).toArray = timesF s) := ⟨by
        unfold timesF
        rw [← HBS.out, HT.out]
        simp [tail, timesR]⟩
      have hsz : (tail 48 bs n 0).length = n := by rw [tail_length _ _ _ _ hlen.out (by omega)]
      go_wp2
      go_ret
      exact ⟨by rw [← he.out]; rfl, HB.out⟩
    · obtain rfl : z = (i : Int) := by have := HZ.out; omega
      obtain ⟨c, hcell, hfree, HC⟩ : ∃ c : UInt8, wr.cell? ⟨w.heap.size, i, none⟩ = some (.int .u8 (c.toNat : Int)) ∧ wr.frozen? ⟨w.heap.size, i, none⟩ = false ∧ Aside0 (c = bs[i]'(by have := hlen.out; omega)) := by
        have hil' : i < (tail 48 bs n (i + 1)).length := by rw [tail_length _ _ _ _ hlen.out hj]; omega
        refine ⟨bs[i]'(by have := hlen.out; omega), ?_, HR.out.free i hil', ⟨rfl⟩⟩
        rw [← tail_get 48 bs n i hlen.out (by omega)]; exact HR.out.cell i hil'
      have hc255 := c.toNat_lt
      by_cases h1 : c.toNat < 57
      · have hb1 : decide ((c.toNat : Int) < (57 : Int)) = true := by simp; omega
        have hnext := HR.out.set i (UInt8.ofNat (c.toNat + 1)) ((c.toNat : Int) + 1) (by rw [UInt8.toNat_ofNat']; omega)
        rw [times_hit bs n i hlen.out (by omega) c HC.out h1 HT.out] at hnext
        have hst := hnext.string n cap (by
          have := congrArg List.length (times_hit bs n i hlen.out (by omega) c HC.out h1 HT.out)
          rw [List.length_set, tail_length _ _ _ _ hlen.out hj] at this
          exact this)
        clear hnext
        have he : Aside0 (ByteArray.mk (timesR bs.reverse).reverse.toArray = timesF s) := ⟨by rw [HBS.out]; rfl⟩
        obtain ⟨res, hres⟩ : ∃ l, l = (timesR bs.reverse).reverse := ⟨_, rfl⟩
        rw [← hres] at hst
        have HRes := Aside0.mk hres
        clear hres
        go_wp2
        go_ret
        exact ⟨by rw [← he.out, ← HRes.out]; rfl, below_set HB.out (Nat.le_refl _)⟩
      · have hb1 : decide ((c.toNat : Int) < (57 : Int)) = false := by simp; omega
        have HN2 := Aside0.mk (HR.out.set i 48 48 rfl)
        have HT2 := Aside0.mk (times_miss bs n i hlen.out (by omega) c HC.out h1 HT.out)
        go_wp2
        go_roundg (gk - 1)
        case measure => have := HK.out; omega
        case rel => exact ⟨_, i, rfl, ⟨by omega⟩, by omega, ⟨by rw [← tail_next 48 bs n i hlen.out (by omega)]; exact HN2.out⟩, ⟨below_set HB.out (Nat.le_refl _)⟩, ⟨by have := HK.out; omega⟩, HT2⟩

theorem vigillaw03_times.calls (a0 : ByteArray) (r : ByteArray) (w : World) (h : vigillaw03_times.f a0 = some r) :
    Calls Tryd.prog 27 #[.string a0] w fun e w' => e = .returned (.string r) ∧ Below w.heap.size w w' := by
  unfold vigillaw03_times.f at h
  split at h
  · cases h
    exact times_any a0 w (by assumption)
  · cases h
end Go.Proofs.YtjlnfnfdibfniaaDoor.Hd

-- Written by a program of this session (wip/vprint.py): Lean checks it.
namespace Go.Proofs.YtjlnfnfdibfniaaDoor.F
open Go.RowKit Go.Proofs.YtjlnfnfdibfniaaDoorW.PrintWords Go.Proofs.YtjlnfnfdibfniaaDoorW.PrintLast Go.Proofs.YtjlnfnfdibfniaaDoorW.PrintMore
attribute [local go_sem] max2_int min2_int max_two min_two max_three min_three max_four min_four   -- for this text's walks alone
set_option linter.unusedVariables false
set_option linter.unusedSimpArgs false

/-! ### num_Parse: function 18 -/
mutual
def num_Parse.j0 : Nat → ByteArray → Int → Bool → Option (Nat × Int)
 | 0, _, _, _ => none
 | k + 1, x0, x4, x21 => if x21 = true then (if 0 < (x0.size : Int) then (if (bt x0 0) = 45 then (if 1 ≤ (x0.size : Int) then (num_Parse.j1 k (x0.extract 1 x0.size) 9223372036854775808) else (none)) else (if 1 ≤ (x0.size : Int) then (num_Parse.j1 k (x0.extract 1 x0.size) x4) else (none))) else (none)) else (num_Parse.j1 k x0 x4)
def num_Parse.j1 : Nat → ByteArray → Int → Option (Nat × Int)
 | 0, _, _ => none
 | k + 1, x0, x4 => (Hd.num_small.f x0).bind fun t600 => (if t600.toList = ([110, 97, 110] : List UInt8) then (some ((9221120237041090561 : Int).toNat, 0)) else (if t600.toList = ([105, 110, 102] : List UInt8) then (some (((Go.bits .or .u64 9218868437227405312 x4) : Int).toNat, 0)) else (if t600.toList = ([105, 110, 102, 105, 110, 105, 116, 121] : List UInt8) then (some (((Go.bits .or .u64 9218868437227405312 x4) : Int).toNat, 0)) else ((num_read.f k x0).bind fun bt601 => (if bt601.2.2 = true then ((num_decimal_bits.f k bt601.1 bt601.2.1).bind fun t605 => (some (((Go.bits .or .u64 t605 x4) : Int).toNat, 0))) else (some (0, 8)))))))
end
def num_Parse.f (k : Nat) (a0 : ByteArray) : Option (Nat × Int) := if (a0.size : Int) > 400 then (some (0, 8)) else (if a0.toList = ([] : List UInt8) then (num_Parse.j0 k a0 0 false) else (if 0 < (a0.size : Int) then (if (bt a0 0) = 43 then (num_Parse.j0 k a0 0 true) else (num_Parse.j0 k a0 0 ((bt a0 0) == 45))) else (none)))
theorem num_Parse.mono_l : ∀ k, (∀ y0 y1 y2, LeO (num_Parse.j0 k y0 y1 y2) (num_Parse.j0 (k + 1) y0 y1 y2)) ∧ (∀ y0 y1, LeO (num_Parse.j1 k y0 y1) (num_Parse.j1 (k + 1) y0 y1))
 | 0 => ⟨fun _ _ _ r h => by simp [num_Parse.j0] at h, fun _ _ r h => by simp [num_Parse.j1] at h⟩
 | k + 1 => by
  obtain ⟨ih0, ih1⟩ := num_Parse.mono_l k
  refine ⟨?_, ?_⟩
  ·
   intro y0 y1 y2
   unfold num_Parse.j0
   repeat' first | (with_reducible exact ih0 _ _ _) | (with_reducible exact ih1 _ _) | (with_reducible exact num_decimal_bits.mono _ _ _) | (with_reducible exact num_read.mono _ _) | (with_reducible exact LeO.refl _) | (with_reducible exact LeO.none _) | (with_reducible refine LeO.ite ?_ ?_) | (with_reducible refine LeO.bind ?_ (fun _ => ?_))
  ·
   intro y0 y1
   unfold num_Parse.j1
   repeat' first | (with_reducible exact ih0 _ _ _) | (with_reducible exact ih1 _ _) | (with_reducible exact num_decimal_bits.mono _ _ _) | (with_reducible exact num_read.mono _ _) | (with_reducible exact LeO.refl _) | (with_reducible exact LeO.none _) | (with_reducible refine LeO.ite ?_ ?_) | (with_reducible refine LeO.bind ?_ (fun _ => ?_))
theorem num_Parse.mono : ∀ a0 k, LeO (num_Parse.f k a0) (num_Parse.f (k + 1) a0) := by
 intro a0 k
 obtain ⟨ih0, ih1⟩ := num_Parse.mono_l k
 unfold num_Parse.f
 repeat' first | (with_reducible exact ih0 _ _ _) | (with_reducible exact ih1 _ _) | (with_reducible exact num_decimal_bits.mono _ _ _) | (with_reducible exact num_read.mono _ _) | (with_reducible exact LeO.refl _) | (with_reducible exact LeO.none _) | (with_reducible refine LeO.ite ?_ ?_) | (with_reducible refine LeO.bind ?_ (fun _ => ?_))
set_option maxHeartbeats 8000000 in
set_option maxRecDepth 100000 in
theorem num_Parse.calls (k : Nat) (a0 : ByteArray) (r1 : Nat) (r2 : Int) (w : World) (h : num_Parse.f k a0 = some (r1, r2)) :
  Calls Tryd.prog 18 #[.string a0] w fun e w' => e = .returned (.tuple #[.float .f64 r1, .int .i64 r2]) ∧ Below w.heap.size w w' := by
 have hu79 := Tryd.underlying79
 have HB := Aside0.mk (Below.refl w.heap.size w)
 have H : (if (a0.size : Int) > 400 then (some (0, 8)) else (if a0.toList = ([] : List UInt8) then (num_Parse.j0 k a0 0 false) else (if 0 < (a0.size : Int) then (if (bt a0 0) = 43 then (num_Parse.j0 k a0 0 true) else (num_Parse.j0 k a0 0 ((bt a0 0) == 45))) else (none)))) = some (r1, r2) := h
 clear h
 by_cases c2 : (a0.size : Int) > 400
 ·
  rw [if_pos c2] at H
  have c2b0 : decide (400 < (a0.size : Int)) = true := decide_eq_true c2
  have c2b1 : decide (400 < a0.size) = true := decide_eq_true (by omega)
  clear c2
  simp only [Option.some.injEq, Prod.mk.injEq] at H
  obtain ⟨rfl, rfl⟩ := H
  have hext0 := Hd.ext12
  go_enter Tryd.func18, Tryd.ntmps18
  go_wp2
  go_ret2
  exact ex (lk HB)
 ·
  rw [if_neg c2] at H
  have c2b0 : decide (400 < (a0.size : Int)) = false := decide_eq_false c2
  have c2b1 : decide (400 < a0.size) = false := decide_eq_false (by omega)
  clear c2
  have HC3 := Aside0.mk H
  clear H
  have hext0 := Hd.ext12
  go_enter Tryd.func18, Tryd.ntmps18
  go_upto_region 4 with (fail)
  go_cut [21] (fun v21 wc => ∃ (kq : Nat) (x21_2 : Bool), v21 = .bool x21_2 ∧ Aside0 (num_Parse.j0 kq a0 0 x21_2 = some (r1, r2)) ∧ Aside0 (kq ≤ k) ∧ Aside0 (Below w.heap.size w wc))
  case first =>
   have H := HC3.out
   clear HC3
   by_cases c4 : a0.toList = ([] : List UInt8)
   ·
    rw [if_pos c4] at H
    have c4b0 : (a0.toList == ([] : List UInt8)) = true := beq_iff_eq.mpr c4
    have c4b1 : (a0.toList != ([] : List UInt8)) = false := bne_eq_false_iff_eq.mpr c4
    clear c4
    (first | rw [c4b0] | (simp only [i64_w, i32_w]; rw [c4b0]) | skip)
    have H' := Aside0.mk H
    clear H
    go_wp2
    go_meet
    case rel => exact ⟨_, (false), (by first | rfl | (simp; done) | (simp [*]; done)), H', ⟨by first | omega | exact Nat.le_refl _⟩, ⟨lk HB⟩⟩
   ·
    rw [if_neg c4] at H
    have c4b0 : (a0.toList == ([] : List UInt8)) = false := beq_eq_false_iff_ne.mpr c4
    have c4b1 : (a0.toList != ([] : List UInt8)) = true := bne_iff_ne.mpr c4
    (first | rw [c4b0] | (simp only [i64_w, i32_w]; rw [c4b0]) | skip)
    by_cases c5 : 0 < (a0.size : Int)
    ·
     rw [if_pos c5] at H
     have c5b0 : decide (0 < (a0.size : Int)) = true := decide_eq_true c5
     have c5b1 : decide (0 < a0.size) = true := decide_eq_true (by omega)
     clear c5
     by_cases c7 : (bt a0 0) = 43
     ·
      rw [if_pos c7] at H
      have c7b0 : ((bt a0 0) == 43) = true := beq_iff_eq.mpr c7
      have c7b1 : ((bt a0 0) != 43) = false := bne_eq_false_iff_eq.mpr c7
      clear c7
      have H' := Aside0.mk H
      clear H
      have p6 : 0 ≤ (0 : Int) := (by omega)
      have q6 : 0 < a0.size := (by have : (0 : Int) < (a0.size : Int) := of_decide_eq_true (by first | (with_reducible assumption) | assumption); omega)
      have hx6 : ∀ h : 0 < a0.size, ((a0[0]'h).toNat : Int) = bt a0 0 := bt_at a0 0
      clear p6
      have qi6 : (0 < (a0.size : Int)) = True := eq_true (of_decide_eq_true (by first | (with_reducible assumption) | assumption))
      replace q6 := eq_true q6
      go_wp2
      go_meet
      case rel => exact ⟨_, (true), (by first | rfl | (simp; done) | (simp [*]; done)), H', ⟨by first | omega | exact Nat.le_refl _⟩, ⟨lk HB⟩⟩
     ·
      rw [if_neg c7] at H
      have c7b0 : ((bt a0 0) == 43) = false := beq_eq_false_iff_ne.mpr c7
      have c7b1 : ((bt a0 0) != 43) = true := bne_iff_ne.mpr c7
      have H' := Aside0.mk H
      clear H
      have p6 : 0 ≤ (0 : Int) := (by omega)
      have q6 : 0 < a0.size := (by have : (0 : Int) < (a0.size : Int) := of_decide_eq_true (by first | (with_reducible assumption) | assumption); omega)
      have hx6 : ∀ h : 0 < a0.size, ((a0[0]'h).toNat : Int) = bt a0 0 := bt_at a0 0
      clear p6
      have qi6 : (0 < (a0.size : Int)) = True := eq_true (of_decide_eq_true (by first | (with_reducible assumption) | assumption))
      replace q6 := eq_true q6
      have p8 : 0 ≤ (0 : Int) := (by omega)
      have q8 : 0 < a0.size := (by have : (0 : Int) < (a0.size : Int) := of_decide_eq_true (by first | (with_reducible assumption) | assumption); omega)
      have hx8 : ∀ h : 0 < a0.size, ((a0[0]'h).toNat : Int) = bt a0 0 := bt_at a0 0
      clear p8
      have qi8 : (0 < (a0.size : Int)) = True := eq_true (of_decide_eq_true (by first | (with_reducible assumption) | assumption))
      replace q8 := eq_true q8
      go_wp2
      go_meet
      case rel => exact ⟨_, (((bt a0 0) == 45)), (by first | rfl | (simp; done) | (simp [*]; done)), H', ⟨by first | omega | exact Nat.le_refl _⟩, ⟨lk HB⟩⟩
    ·
     rw [if_neg c5] at H
     exact absurd H (by simp)
  case rest =>
   clear HC3
   try clear c1
   try clear c2
   try clear c2b0
   try clear c2b1
   try clear p2
   try clear c4
   try clear c4b0
   try clear c4b1
   try clear c5
   try clear c5b0
   try clear c5b1
   try clear p6
   try clear q6
   try clear hx6
   try clear qi6
   try clear c7
   try clear c7b0
   try clear c7b1
   try clear p8
   try clear q8
   try clear hx8
   try clear qi8
   try clear p6
   try clear p8
   try clear q6
   try clear q8
   obtain ⟨kq, x21_2, rfl, HA, HJ2, HB⟩ := hcut
   cases kq with
   | zero => exact absurd HA.out (by simp [num_Parse.j0])
   | succ kj2 =>
    have H := HA.out
    clear HA
    simp only [num_Parse.j0] at H
    have HC9 := Aside0.mk H
    clear H
    go_upto_if 21 with (fail)
    go_cut [0, 4] (fun v0 v4 wc => ∃ (kq : Nat) (x0_8 : ByteArray) (x4_8 : Int), v0 = .string x0_8 ∧ v4 = .int .u64 x4_8 ∧ Aside0 (num_Parse.j1 kq x0_8 x4_8 = some (r1, r2)) ∧ Aside0 (kq ≤ kj2) ∧ Aside0 (Below w.heap.size w wc))
    case first =>
     have H := HC9.out
     clear HC9
     by_cases c10 : x21_2 = true
     ·
      subst c10
      have H1 : (if 0 < (a0.size : Int) then (if (bt a0 0) = 45 then (if 1 ≤ (a0.size : Int) then (num_Parse.j1 kj2 (a0.extract 1 a0.size) 9223372036854775808) else (none)) else (if 1 ≤ (a0.size : Int) then (num_Parse.j1 kj2 (a0.extract 1 a0.size) 0) else (none))) else (none)) = some (r1, r2) := by rw [if_pos rfl] at H; exact H
      clear H
      have H := H1
      clear H1
      by_cases c11 : 0 < (a0.size : Int)
      ·
       rw [if_pos c11] at H
       have c11b0 : decide (0 < (a0.size : Int)) = true := decide_eq_true c11
       have c11b1 : decide (0 < a0.size) = true := decide_eq_true (by omega)
       clear c11
       (first | rw [c11b0] | (simp only [i64_w, i32_w]; rw [c11b0]) | skip)
       by_cases c13 : (bt a0 0) = 45
       ·
        rw [if_pos c13] at H
        have c13b0 : ((bt a0 0) == 45) = true := beq_iff_eq.mpr c13
        have c13b1 : ((bt a0 0) != 45) = false := bne_eq_false_iff_eq.mpr c13
        clear c13
        by_cases c14 : 1 ≤ (a0.size : Int)
        ·
         rw [if_pos c14] at H
         have c14b0 := eq_true c14
         have c14b1 : decide (1 ≤ (a0.size : Int)) = true := decide_eq_true c14
         clear c14
         obtain ⟨y598, hy598⟩ : ∃ y_ : ByteArray, y_ = (a0.extract 1 a0.size) := ⟨_, rfl⟩
         replace H : (num_Parse.j1 kj2 y598 9223372036854775808) = some (r1, r2) := by first | (rw [hy598]; with_reducible exact H) | (have H2_ := (Option.bind_some _ _).symm.trans H; rw [hy598]; with_reducible exact H2_) | (have H2_ := (Option.bind_some _ _).symm.trans H; with_reducible exact H2_) | with_reducible exact H | (rw [hy598]; exact H) | exact H
         have Ny598 := Aside0.mk hy598
         clear hy598
         have H' := Aside0.mk H
         clear H
         have p12 : 0 ≤ (0 : Int) := (by omega)
         have q12 : 0 < a0.size := (by have : (0 : Int) < (a0.size : Int) := of_decide_eq_true (by first | (with_reducible assumption) | assumption); omega)
         have hx12 : ∀ h : 0 < a0.size, ((a0[0]'h).toNat : Int) = bt a0 0 := bt_at a0 0
         clear p12
         have qi12 : (0 < (a0.size : Int)) = True := eq_true (of_decide_eq_true (by first | (with_reducible assumption) | assumption))
         replace q12 := eq_true q12
         have hcs15 := Hd.str_from (P := Tryd.prog) (k := .i64) Tryd.underlying9 (i := 1) (s := a0) (y := y598) (by first | (with_reducible assumption) | exact of_decide_eq_true (by first | (with_reducible assumption) | assumption) | omega) (by first | (with_reducible assumption) | exact of_decide_eq_true (by first | (with_reducible assumption) | assumption) | omega) Ny598.out
         go_wp2
         go_meet
         case rel => exact ⟨_, (y598), (9223372036854775808), (by first | rfl | (simp; done) | (simp [*]; done)), (by first | rfl | (simp; done) | (simp [*]; done)), H', ⟨by have := HJ2.out; first | omega | exact Nat.le_refl _⟩, ⟨lk HB⟩⟩
        ·
         rw [if_neg c14] at H
         exact absurd H (by simp)
       ·
        rw [if_neg c13] at H
        have c13b0 : ((bt a0 0) == 45) = false := beq_eq_false_iff_ne.mpr c13
        have c13b1 : ((bt a0 0) != 45) = true := bne_iff_ne.mpr c13
        by_cases c16 : 1 ≤ (a0.size : Int)
        ·
         rw [if_pos c16] at H
         have c16b0 := eq_true c16
         have c16b1 : decide (1 ≤ (a0.size : Int)) = true := decide_eq_true c16
         clear c16
         obtain ⟨y599, hy599⟩ : ∃ y_ : ByteArray, y_ = (a0.extract 1 a0.size) := ⟨_, rfl⟩
         replace H : (num_Parse.j1 kj2 y599 0) = some (r1, r2) := by first | (rw [hy599]; with_reducible exact H) | (have H2_ := (Option.bind_some _ _).symm.trans H; rw [hy599]; with_reducible exact H2_) | (have H2_ := (Option.bind_some _ _).symm.trans H; with_reducible exact H2_) | with_reducible exact H | (rw [hy599]; exact H) | exact H
         have Ny599 := Aside0.mk hy599
         clear hy599
         have H' := Aside0.mk H
         clear H
         have p12 : 0 ≤ (0 : Int) := (by omega)
         have q12 : 0 < a0.size := (by have : (0 : Int) < (a0.size : Int) := of_decide_eq_true (by first | (with_reducible assumption) | assumption); omega)
         have hx12 : ∀ h : 0 < a0.size, ((a0[0]'h).toNat : Int) = bt a0 0 := bt_at a0 0
         clear p12
         have qi12 : (0 < (a0.size : Int)) = True := eq_true (of_decide_eq_true (by first | (with_reducible assumption) | assumption))
         replace q12 := eq_true q12
         have hcs17 := Hd.str_from (P := Tryd.prog) (k := .i64) Tryd.underlying9 (i := 1) (s := a0) (y := y599) (by first | (with_reducible assumption) | exact of_decide_eq_true (by first | (with_reducible assumption) | assumption) | omega) (by first | (with_reducible assumption) | exact of_decide_eq_true (by first | (with_reducible assumption) | assumption) | omega) Ny599.out
         go_wp2
         go_meet
         case rel => exact ⟨_, (y599), (0), (by first | rfl | (simp; done) | (simp [*]; done)), (by first | rfl | (simp; done) | (simp [*]; done)), H', ⟨by have := HJ2.out; first | omega | exact Nat.le_refl _⟩, ⟨lk HB⟩⟩
        ·
         rw [if_neg c16] at H
         exact absurd H (by simp)
      ·
       rw [if_neg c11] at H
       exact absurd H (by simp)
     ·
      replace c10 := Bool.eq_false_iff.mpr c10
      subst c10
      have H1 : (num_Parse.j1 kj2 a0 0) = some (r1, r2) := by rw [if_neg (show ¬ (false = true) by decide)] at H; exact H
      clear H
      have H := H1
      clear H1
      have H' := Aside0.mk H
      clear H
      go_wp2
      go_meet
      case rel => exact ⟨_, (a0), (0), (by first | rfl | (simp; done) | (simp [*]; done)), (by first | rfl | (simp; done) | (simp [*]; done)), H', ⟨by have := HJ2.out; first | omega | exact Nat.le_refl _⟩, ⟨lk HB⟩⟩
    case rest =>
     clear HC9
     try clear c1
     try clear p1
     try clear q1
     try clear hx1
     try clear qi1
     try clear c2
     try clear c2b0
     try clear c2b1
     try clear p2
     try clear c4
     try clear c4b0
     try clear c4b1
     try clear c5
     try clear c5b0
     try clear c5b1
     try clear p6
     try clear q6
     try clear hx6
     try clear qi6
     try clear c7
     try clear c7b0
     try clear c7b1
     try clear p8
     try clear q8
     try clear hx8
     try clear qi8
     try clear c10
     try clear c11
     try clear c11b0
     try clear c11b1
     try clear p12
     try clear q12
     try clear hx12
     try clear qi12
     try clear c13
     try clear c13b0
     try clear c13b1
     try clear c14
     try clear c14b0
     try clear c14b1
     try clear c16
     try clear c16b0
     try clear c16b1
     try clear p12
     try clear p2
     try clear p6
     try clear p8
     try clear q12
     try clear q6
     try clear q8
     obtain ⟨kq, x0_8, x4_8, rfl, rfl, HA, HJ8, HB⟩ := hcut
     cases kq with
     | zero => exact absurd HA.out (by simp [num_Parse.j1])
     | succ kj8 =>
      have H := HA.out
      clear HA
      simp only [num_Parse.j1] at H
      replace H := Option.bind_eq_some_iff.mp H
      obtain ⟨t600, A180, H⟩ := H
      replace H : (if t600.toList = ([110, 97, 110] : List UInt8) then (some ((9221120237041090561 : Int).toNat, 0)) else (if t600.toList = ([105, 110, 102] : List UInt8) then (some (((Go.bits .or .u64 9218868437227405312 x4_8) : Int).toNat, 0)) else (if t600.toList = ([105, 110, 102, 105, 110, 105, 116, 121] : List UInt8) then (some (((Go.bits .or .u64 9218868437227405312 x4_8) : Int).toNat, 0)) else ((num_read.f kj8 x0_8).bind fun bt601 => (if bt601.2.2 = true then ((num_decimal_bits.f kj8 bt601.1 bt601.2.1).bind fun t605 => (some (((Go.bits .or .u64 t605 x4_8) : Int).toNat, 0))) else (some (0, 8))))))) = some (r1, r2) := H
      have A18 := Aside0.mk A180
      clear A180
      by_cases c19 : t600.toList = ([110, 97, 110] : List UInt8)
      ·
       rw [if_pos c19] at H
       have c19b0 : (t600.toList == ([110, 97, 110] : List UInt8)) = true := beq_iff_eq.mpr c19
       have c19b1 : (t600.toList != ([110, 97, 110] : List UInt8)) = false := bne_eq_false_iff_eq.mpr c19
       clear c19
       simp only [Option.some.injEq, Prod.mk.injEq] at H
       obtain ⟨rfl, rfl⟩ := H
       go_wp2_with (first | ((with_reducible refine gate_callee (f := 65) rfl ?_); refine gL (some 28) Tryd.func65 #[.string x0_8] ?_; (with_reducible refine (Hd.num_small.calls x0_8 t600 _ A18.out).mono ?_); rintro e w20 ⟨rfl, hb⟩; refine ⟨_, rfl, ?_⟩; replace HB := lb HB hb; (try clear hb); (try clear hb2); (try clear hk); (try clear hi)))
       go_ret2
       exact ex (lk HB)
      ·
       rw [if_neg c19] at H
       have c19b0 : (t600.toList == ([110, 97, 110] : List UInt8)) = false := beq_eq_false_iff_ne.mpr c19
       have c19b1 : (t600.toList != ([110, 97, 110] : List UInt8)) = true := bne_iff_ne.mpr c19
       by_cases c21 : t600.toList = ([105, 110, 102] : List UInt8)
       ·
        rw [if_pos c21] at H
        have c21b0 : (t600.toList == ([105, 110, 102] : List UInt8)) = true := beq_iff_eq.mpr c21
        have c21b1 : (t600.toList != ([105, 110, 102] : List UInt8)) = false := bne_eq_false_iff_eq.mpr c21
        clear c21
        simp only [Option.some.injEq, Prod.mk.injEq] at H
        obtain ⟨rfl, rfl⟩ := H
        go_wp2_with (first | ((with_reducible refine gate_callee (f := 65) rfl ?_); refine gL (some 28) Tryd.func65 #[.string x0_8] ?_; (with_reducible refine (Hd.num_small.calls x0_8 t600 _ A18.out).mono ?_); rintro e w22 ⟨rfl, hb⟩; refine ⟨_, rfl, ?_⟩; replace HB := lb HB hb; (try clear hb); (try clear hb2); (try clear hk); (try clear hi)))
        go_ret2
        exact ex (lk HB)
       ·
        rw [if_neg c21] at H
        have c21b0 : (t600.toList == ([105, 110, 102] : List UInt8)) = false := beq_eq_false_iff_ne.mpr c21
        have c21b1 : (t600.toList != ([105, 110, 102] : List UInt8)) = true := bne_iff_ne.mpr c21
        by_cases c23 : t600.toList = ([105, 110, 102, 105, 110, 105, 116, 121] : List UInt8)
        ·
         rw [if_pos c23] at H
         have c23b0 : (t600.toList == ([105, 110, 102, 105, 110, 105, 116, 121] : List UInt8)) = true := beq_iff_eq.mpr c23
         have c23b1 : (t600.toList != ([105, 110, 102, 105, 110, 105, 116, 121] : List UInt8)) = false := bne_eq_false_iff_eq.mpr c23
         clear c23
         simp only [Option.some.injEq, Prod.mk.injEq] at H
         obtain ⟨rfl, rfl⟩ := H
         go_wp2_with (first | ((with_reducible refine gate_callee (f := 65) rfl ?_); refine gL (some 28) Tryd.func65 #[.string x0_8] ?_; (with_reducible refine (Hd.num_small.calls x0_8 t600 _ A18.out).mono ?_); rintro e w24 ⟨rfl, hb⟩; refine ⟨_, rfl, ?_⟩; replace HB := lb HB hb; (try clear hb); (try clear hb2); (try clear hk); (try clear hi)))
         go_ret2
         exact ex (lk HB)
        ·
         rw [if_neg c23] at H
         have c23b0 : (t600.toList == ([105, 110, 102, 105, 110, 105, 116, 121] : List UInt8)) = false := beq_eq_false_iff_ne.mpr c23
         have c23b1 : (t600.toList != ([105, 110, 102, 105, 110, 105, 116, 121] : List UInt8)) = true := bne_iff_ne.mpr c23
         replace H := Option.bind_eq_some_iff.mp H
         obtain ⟨⟨t601, t602, t603⟩, A250, H⟩ := H
         replace H : (if t603 = true then ((num_decimal_bits.f kj8 t601 t602).bind fun t605 => (some (((Go.bits .or .u64 t605 x4_8) : Int).toNat, 0))) else (some (0, 8))) = some (r1, r2) := H
         have A25 := Aside0.mk A250
         clear A250
         by_cases c26 : t603 = true
         ·
          subst c26
          have H1 : ((num_decimal_bits.f kj8 t601 t602).bind fun t605 => (some (((Go.bits .or .u64 t605 x4_8) : Int).toNat, 0))) = some (r1, r2) := by rw [if_pos rfl] at H; exact H
          clear H
          have H := H1
          clear H1
          replace H := Option.bind_eq_some_iff.mp H
          obtain ⟨t605, A270, H⟩ := H
          replace H : (some (((Go.bits .or .u64 t605 x4_8) : Int).toNat, 0)) = some (r1, r2) := H
          have A27 := Aside0.mk A270
          clear A270
          simp only [Option.some.injEq, Prod.mk.injEq] at H
          obtain ⟨rfl, rfl⟩ := H
          go_wp2_with (first | ((with_reducible refine gate_callee (f := 65) rfl ?_); refine gL (some 28) Tryd.func65 #[.string x0_8] ?_; (with_reducible refine (Hd.num_small.calls x0_8 t600 _ A18.out).mono ?_); rintro e w28 ⟨rfl, hb⟩; refine ⟨_, rfl, ?_⟩; replace HB := lb HB hb; (try clear hb); (try clear hb2); (try clear hk); (try clear hi)) | ((with_reducible refine gate_callee (f := 66) rfl ?_); refine gL (some 40) Tryd.func66 #[.string x0_8] ?_; (with_reducible refine (num_read.calls kj8 x0_8 t601 t602 true _ A25.out).mono ?_); rintro e w29 ⟨rfl, hb⟩; refine ⟨_, rfl, ?_⟩; replace HB := lb HB hb; (try clear hb); (try clear hb2); (try clear hk); (try clear hi)) | ((with_reducible refine gate_dst (N := 5) rfl ?_); refine box_event ?hg (N := 5) ?hd (cs := #[.string (⟨#[]⟩ : ByteArray), .int .i64 0]) (t := 79) ?hr ?_; (case hd => rfl); (case hg => rfl); (case hr => first | (go_simp; done) | (go_simp; rfl)); intro gb604 hg w30 hbox hb; have BK604 := Aside0.mk (hbox); have GW604 := Aside0.mk ((by rw [hg]; exact (below_size (lk HB)) : w.heap.size ≤ gb604)); have GE604 := Aside0.mk ((by rw [hg]; exact (below_size (lk HB)) : w.heap.size ≤ gb604)); replace HB := lb HB hb; clear hb hbox hg; have hcz31_0 : w30.cell? ⟨gb604, 0, none⟩ = some (.string (⟨#[]⟩ : ByteArray)) := (blk_cell BK604.out 0).trans rfl; have hcz31_1 : w30.cell? ⟨gb604, 1, none⟩ = some (.int .i64 0) := (blk_cell BK604.out 1).trans rfl; have hfz31_0 := blk_frozen BK604.out 0; have hfz31_1 := blk_frozen BK604.out 1) | ((with_reducible refine gate_callee (f := 67) rfl ?_); refine gL (some 46) Tryd.func67 #[.agg #[.string t601, .int .i64 t602]] ?_; (with_reducible refine (num_decimal_bits.calls kj8 t601 t602 t605 _ A27.out).mono ?_); rintro e w32 ⟨rfl, hb⟩; refine ⟨_, rfl, ?_⟩; have n0_ := Aside0.mk (blk_below (g := gb604) (o := .cells #[.string t601, .int .i64 t602] 79 (0, 0)) (by (with_reducible repeat (first | refine blk_drewN ?_ _ | refine blk_drew ?_ | refine blk_alloc ?_ _)); refine blk_put (cs := #[.string t601, .int .i64 0]) ?_ 1 _ rfl; (with_reducible repeat (first | refine blk_drewN ?_ _ | refine blk_drew ?_ | refine blk_alloc ?_ _)); refine blk_put (cs := #[.string (⟨#[]⟩ : ByteArray), .int .i64 0]) ?_ 0 _ rfl; (with_reducible repeat (first | refine blk_drewN ?_ _ | refine blk_drew ?_ | refine blk_alloc ?_ _)); exact BK604.out) hb); have n1_ := lb HB hb; clear BK604 HB; have BK604 := n0_; have HB := n1_; clear n0_ n1_; (try clear hb); (try clear hb2); (try clear hk); (try clear hi)))
          go_ret2
          exact ex (lk HB)
         ·
          replace c26 := Bool.eq_false_iff.mpr c26
          subst c26
          have H1 : (some (0, 8)) = some (r1, r2) := by rw [if_neg (show ¬ (false = true) by decide)] at H; exact H
          clear H
          have H := H1
          clear H1
          simp only [Option.some.injEq, Prod.mk.injEq] at H
          obtain ⟨rfl, rfl⟩ := H
          go_wp2_with (first | ((with_reducible refine gate_callee (f := 65) rfl ?_); refine gL (some 28) Tryd.func65 #[.string x0_8] ?_; (with_reducible refine (Hd.num_small.calls x0_8 t600 _ A18.out).mono ?_); rintro e w33 ⟨rfl, hb⟩; refine ⟨_, rfl, ?_⟩; replace HB := lb HB hb; (try clear hb); (try clear hb2); (try clear hk); (try clear hi)) | ((with_reducible refine gate_callee (f := 66) rfl ?_); refine gL (some 40) Tryd.func66 #[.string x0_8] ?_; (with_reducible refine (num_read.calls kj8 x0_8 t601 t602 false _ A25.out).mono ?_); rintro e w34 ⟨rfl, hb⟩; refine ⟨_, rfl, ?_⟩; replace HB := lb HB hb; (try clear hb); (try clear hb2); (try clear hk); (try clear hi)) | ((with_reducible refine gate_dst (N := 5) rfl ?_); refine box_event ?hg (N := 5) ?hd (cs := #[.string (⟨#[]⟩ : ByteArray), .int .i64 0]) (t := 79) ?hr ?_; (case hd => rfl); (case hg => rfl); (case hr => first | (go_simp; done) | (go_simp; rfl)); intro gb604 hg w35 hbox hb; have BK604 := Aside0.mk (hbox); have GW604 := Aside0.mk ((by rw [hg]; exact (below_size (lk HB)) : w.heap.size ≤ gb604)); have GE604 := Aside0.mk ((by rw [hg]; exact (below_size (lk HB)) : w.heap.size ≤ gb604)); replace HB := lb HB hb; clear hb hbox hg; have hcz36_0 : w35.cell? ⟨gb604, 0, none⟩ = some (.string (⟨#[]⟩ : ByteArray)) := (blk_cell BK604.out 0).trans rfl; have hcz36_1 : w35.cell? ⟨gb604, 1, none⟩ = some (.int .i64 0) := (blk_cell BK604.out 1).trans rfl; have hfz36_0 := blk_frozen BK604.out 0; have hfz36_1 := blk_frozen BK604.out 1))
          go_ret2
          exact ex (lk HB)

end Go.Proofs.YtjlnfnfdibfniaaDoor.F

/- What a text of a decimal says; what num reads of it. -/
namespace Go.Proofs.YtjlnfnfdibfniaaDoor.Pl
open F Hd Go.RowKit Go.Proofs.YtjlnfnfdibfniaaDoorW.PrintWords Go.Proofs.YtjlnfnfdibfniaaDoorW.PrintMore
/-- A text of bytes. -/
def mk (l : List UInt8) : ByteArray := ⟨l.toArray⟩
theorem mk_data (l : List UInt8) : (mk l).data.toList = l := by simp [mk]
theorem mk_self (s : ByteArray) : mk s.data.toList = s := bytes_ext (mk_data _)
theorem mk_size (l : List UInt8) : (mk l).size = l.length := by rw [← len_data, mk_data]
theorem mk_list (l : List UInt8) : (mk l).toList = l := by rw [ByteArray.toList_eq, mk_data]
theorem mk_upto (l : List UInt8) (i : Nat) : (mk l).extract 0 i = mk (l.take i) := bytes_ext (by rw [extract_upto, mk_data, mk_data])
theorem mk_from (l : List UInt8) (i : Nat) : (mk l).extract i l.length = mk (l.drop i) := bytes_ext (by rw [← mk_size l, extract_from, mk_data, mk_data])
theorem mk_part (l : List UInt8) (i j : Nat) : (mk l).extract i j = mk ((l.drop i).take (j - i)) := bytes_ext (by
  rw [ByteArray.data_extract, Array.toList_extract, List.extract_eq_take_drop, mk_data, mk_data])
theorem mk_append (a b : List UInt8) : mk a ++ mk b = mk (a ++ b) := bytes_ext (by rw [mk_data]; simp [ByteArray.data_append, mk])
theorem mk_bt (l : List UInt8) (i : Nat) (h : i < l.length) : bt (mk l) (i : Int) = (l[i].toNat : Int) := by
  rw [bt_get (mk l) i (by rw [mk_data]; exact h)]; simp [mk_data]
theorem mk_bt0 (c : UInt8) (r : List UInt8) : bt (mk (c :: r)) 0 = (c.toNat : Int) := mk_bt (c :: r) 0 (by simp)
theorem mk_lit (a : Array UInt8) : (⟨a⟩ : ByteArray) = mk a.toList := by simp [mk]
theorem val_append (a b : List UInt8) : val (a ++ b) = val a * 10 ^ b.length + val b := by
  induction b using snoc_ind with
  | h0 => simp [val]
  | h1 l c ih =>
    rw [← List.append_assoc, val_snoc, val_snoc, ih, List.length_append, List.length_singleton, Nat.pow_succ]
    grind
theorem val_cons_le (c : UInt8) (r : List UInt8) (h : 49 ≤ c.toNat) : 10 ^ r.length ≤ val (c :: r) := by
  have := val_append [c] r
  rw [List.singleton_append] at this
  rw [this]
  have h1 : 1 ≤ val [c] := by simp [val]; omega
  have := Nat.mul_le_mul_right (10 ^ r.length) h1
  omega
theorem pow10_lt (n : Nat) : 10 ^ n < 2 ^ (4 * n + 1) := by
  have : 10 ^ n ≤ 16 ^ n := Nat.pow_le_pow_left (by decide) n
  have e : (16 : Nat) ^ n = 2 ^ (4 * n) := by rw [Nat.pow_mul]
  have := Nat.two_pow_pos (4 * n)
  rw [Nat.pow_succ]; omega
theorem bits_end (v : Nat) (x : Int) (n : Nat) (hv0 : 0 < v) (hv : v < 10 ^ n) (hn : n ≤ 1000) (h1 : -330 ≤ (n : Int) + x) (h2 : (n : Int) + x ≤ 310) (sz : Int) (s : ByteArray) (_hsz : sz = (s.size : Int)) :
    ∃ K : Nat, DecNear v x K ∧ Runs (fun k => num_decimal_bits.l0 k (L v) sz sz s x) (K : Int) := by
  obtain ⟨S, hS⟩ : ∃ S, S = 6001 := ⟨_, rfl⟩
  have l1 : v * 10 ^ x.toNat < 2 ^ S := by
    have h3 : v * 10 ^ x.toNat < 10 ^ n * 10 ^ x.toNat := Nat.mul_lt_mul_of_pos_right hv (Nat.pow_pos (by decide))
    rw [← Nat.pow_add] at h3
    have h4 := pow10_lt (n + x.toNat)
    have h5 : 2 ^ (4 * (n + x.toNat) + 1) ≤ 2 ^ S := Nat.pow_le_pow_right (by decide) (by omega)
    exact Nat.lt_of_lt_of_le (Nat.lt_trans h3 h4) h5
  have l2 : 10 ^ (-x).toNat < 2 ^ S := by
    have h4 := pow10_lt (-x).toNat
    have h5 : 2 ^ (4 * (-x).toNat + 1) ≤ 2 ^ S := Nat.pow_le_pow_right (by decide) (by omega)
    exact Nat.lt_of_lt_of_le h4 h5
  obtain ⟨K, hK, hrun⟩ := bits_j2 (v * 10 ^ x.toNat) (10 ^ (-x).toNat) S (Nat.mul_pos hv0 (Nat.pow_pos (by decide))) (Nat.pow_pos (by decide)) l1 l2 (by omega)
  refine ⟨K, hK, Runs.suc ?_⟩
  simp only [num_decimal_bits.l0]
  refine Runs.no (by omega) (Runs.bind (of_f 1 (by decide)) ?_)
  by_cases hx : x ≥ 0
  · refine Runs.yes hx ?_
    have e : (-x).toNat = 0 := by omega
    rw [e, Nat.pow_zero] at hrun
    have ex : x = (x.toNat : Int) := by omega
    rw [ex]
    have := tens_f v x.toNat (few_two l1 (by omega)) (by omega)
    refine Runs.bind this ?_
    exact hrun
  · refine Runs.no hx ?_
    have e : x.toNat = 0 := by omega
    rw [e, Nat.pow_zero, Nat.mul_one] at hrun
    rw [w64 (by omega) (by omega)]
    have ex : -x = ((-x).toNat : Int) := by omega
    rw [ex]
    have := tens_f 1 (-x).toNat (by rw [Nat.one_mul]; exact few_two l2 (by omega)) (by omega)
    rw [Nat.one_mul] at this
    exact Runs.bind this hrun
theorem bits_l0 (l : List UInt8) (hd : ∀ c ∈ l, isDig c = true) (hlen : l.length ≤ 1000) (x : Int) (K : Int) (hK : Runs (fun k => num_decimal_bits.l0 k (L (val l)) (l.length : Int) (l.length : Int) (mk l) x) K) :
    ∀ d i, i + d = l.length → Runs (fun k => num_decimal_bits.l0 k (L (val (l.take i))) (l.length : Int) (i : Int) (mk l) x) K := by
  intro d
  induction d with
  | zero =>
    intro i hi
    obtain rfl : i = l.length := by omega
    rw [List.take_length]; exact hK
  | succ d ih =>
    intro i hi
    have hil : i < l.length := by omega
    refine Runs.suc ?_
    simp only [num_decimal_bits.l0]
    obtain ⟨e1, e2⟩ := sub48 l[i] (hd _ (List.getElem_mem hil))
    rw [mk_size, mk_bt l i hil, e1, w64 (by omega) (by omega)]
    have hv := val_lt (l.take i) (fun c hc => hd c (List.mem_of_mem_take hc))
    rw [List.length_take, Nat.min_eq_left (by omega)] at hv
    have hf : Few (val (l.take i)) := few_two (Nat.lt_trans hv (pow10_lt i)) (by omega)
    refine Runs.yes (by omega) (Runs.yes (by omega) (Runs.yes (by omega) (Runs.bind (times_f _ 10 (l[i].toNat - 48) hf (by decide) (by omega)) ?_)))
    have := ih (i + 1) (by omega)
    rw [List.take_succ_eq_append_getElem hil, val_snoc, Nat.mul_comm] at this
    exact this
theorem bits_f (l : List UInt8) (x : Int) (hd : ∀ c ∈ l, isDig c = true) (hz : ∀ c r, l = c :: r → 49 ≤ c.toNat) (hlen : l.length ≤ 1000) (hx0 : -1000000 ≤ x) (hx1 : x ≤ 1000000) :
    ∃ K : Nat, DecNear (val l) x K ∧ Runs (fun k => num_decimal_bits.f k (mk l) x) (K : Int) := by
  simp only [num_decimal_bits.f]
  rw [mk_list, mk_size, w64 (by omega) (by omega)]
  have hv := val_lt l hd
  rcases l with _ | ⟨c, r⟩
  · refine ⟨0, ?_, Runs.yes rfl (Runs.suc ?_)⟩
    · show IsNear (0 * _ * _) _ 0
      rw [none_aux]
      exact near_none (Nat.pow_pos (by decide))
    · simp only [num_decimal_bits.j0]
      exact Runs.yes trivial (Runs.pure _)
  · have hv0 := val_cons_le c r (hz c r rfl)
    have hp : 0 < 10 ^ r.length := Nat.pow_pos (by decide)
    have hl : (c :: r).length = r.length + 1 := rfl
    by_cases h1 : ((c :: r).length : Int) + x < -330
    · refine ⟨0, dec_zero_small hv (by omega), Runs.no (by simp) (Runs.suc ?_)⟩
      simp only [num_decimal_bits.j0]
      exact Runs.yes (decide_eq_true h1) (Runs.pure _)
    · by_cases h2 : ((c :: r).length : Int) + x > 310
      · refine ⟨INF, dec_inf_great hv0 (by omega), Runs.no (by simp) (Runs.suc ?_)⟩
        simp only [num_decimal_bits.j0]
        exact Runs.no (by simpa using h1) (Runs.yes h2 (Runs.pure _))
      · obtain ⟨K, hK, hrun⟩ := bits_end (val (c :: r)) x (c :: r).length (by omega) hv hlen (by omega) (by omega) ((c :: r).length : Int) (mk (c :: r)) (by rw [mk_size])
        refine ⟨K, hK, Runs.no (by simp) (Runs.suc ?_)⟩
        simp only [num_decimal_bits.j0]
        refine Runs.no (by simpa using h1) (Runs.no h2 ?_)
        rw [mk_size]
        have := bits_l0 (c :: r) hd hlen x (K : Int) hrun (c :: r).length 0 (by omega)
        rw [List.take_zero] at this
        rw [← L_zero]
        exact this
end Go.Proofs.YtjlnfnfdibfniaaDoor.Pl

/- What a text says as a number, by the document. No program in sight. -/
namespace Go.Proofs.YtjlnfnfdibfniaaDoor.Pl
/-- A sign ahead, or none. -/
def sgn (l : List UInt8) : Bool × List UInt8 :=
  match l with
  | [] => (false, [])
  | c :: r => if c.toNat = 45 then (true, r) else if c.toNat = 43 then (false, r) else (false, c :: r)
def allDig (l : List UInt8) : Bool := l.all isDig
/-- The digits ahead, and what is behind them. -/
def digs (l : List UInt8) : List UInt8 × List UInt8 := (l.take (l.takeWhile isDig).length, l.drop (l.takeWhile isDig).length)
def expOf (l : List UInt8) : Option Int :=
  if (sgn l).2 = [] ∨ allDig (sgn l).2 = false then none else some (if (sgn l).1 = true then -(val (sgn l).2 : Int) else (val (sgn l).2 : Int))
/-- What is behind the digits: an exponent or nothing. -/
def tailOf (ds : List UInt8) (x : Int) (l : List UInt8) : Option (List UInt8 × Int) :=
  if ds = [] then none else
  match l with
  | [] => some (ds, x)
  | c :: r => if c.toNat = 101 ∨ c.toNat = 69 then (expOf r).map (fun e => (ds, x + e)) else none
/-- Digits and an exponent. -/
def dspec (l : List UInt8) : Option (List UInt8 × Int) :=
  match (digs l).2 with
  | [] => tailOf (digs l).1 0 []
  | c :: r => if c.toNat = 46 then tailOf ((digs l).1 ++ (digs r).1) (-((digs r).1.length : Int)) (digs r).2 else tailOf (digs l).1 0 (c :: r)
def lowc (c : UInt8) : UInt8 := if 65 ≤ c.toNat ∧ c.toNat ≤ 90 then UInt8.ofNat (c.toNat + 32) else c
def signBit (n : Bool) : Nat := if n = true then 9223372036854775808 else 0
/-- The bits and the error that a text is read as. -/
def ParseTo (l : List UInt8) (b : Nat) (e : Int) : Prop :=
  if 400 < l.length then b = 0 ∧ e = 8 else
  if (sgn l).2.map lowc = [110, 97, 110] then b = 9221120237041090561 ∧ e = 0 else
  if (sgn l).2.map lowc = [105, 110, 102] ∨ (sgn l).2.map lowc = [105, 110, 102, 105, 110, 105, 116, 121] then b = INF + signBit (sgn l).1 ∧ e = 0 else
  match dspec (sgn l).2 with
  | none => b = 0 ∧ e = 8
  | some (ds, x) => e = 0 ∧ ∃ K, DecNear (val ds) x K ∧ b = K + signBit (sgn l).1
theorem ParseTo.unique {l : List UInt8} {b b' : Nat} {e e' : Int} (h : ParseTo l b e) (h' : ParseTo l b' e') : b = b' ∧ e = e' := by
  unfold ParseTo at h h'
  split at h
  · rename_i c
    rw [if_pos c] at h'
    omega
  · rename_i c
    rw [if_neg c] at h'
    split at h
    · rename_i c
      rw [if_pos c] at h'
      omega
    · rename_i c
      rw [if_neg c] at h'
      split at h
      · rename_i c
        rw [if_pos c] at h'
        omega
      · rename_i c
        rw [if_neg c] at h'
        cases hd : dspec (sgn l).2 with
        | none => rw [hd] at h h'; simp only at h h'; omega
        | some p =>
          obtain ⟨ds, x⟩ := p
          rw [hd] at h h'
          simp only at h h'
          obtain ⟨h1, K, h2, h3⟩ := h
          obtain ⟨g1, J, g2, g3⟩ := h'
          have := h2.unique g2
          exact ⟨by rw [h3, g3, this], by rw [h1, g1]⟩
/-- An exponent that was cut stands for one as great. -/
def Ext (x x' : Int) : Prop := x' = x ∨ 90000 ≤ x ∧ 90000 ≤ x' ∨ x ≤ -90000 ∧ x' ≤ -90000
theorem DecNear.zero {x : Int} {K : Nat} (h : DecNear 0 x K) : K = 0 := by
  have h2 : DecNear 0 x 0 := by
    show IsNear _ _ 0
    rw [none_aux]
    exact near_none (Nat.pow_pos (by decide))
  exact h.unique h2
theorem dec_none (x : Int) : DecNear 0 x 0 := by
  show IsNear _ _ 0
  rw [none_aux]
  exact near_none (Nat.pow_pos (by decide))
theorem DecNear.ext {v n : Nat} {x x' : Int} {K : Nat} (hv : v < 10 ^ n) (hn : n ≤ 1000) (h : DecNear v x' K) (he : Ext x x') : DecNear v x K := by
  rcases he with rfl | ⟨h1, h2⟩ | ⟨h1, h2⟩
  · exact h
  · rcases Nat.eq_zero_or_pos v with rfl | h0
    · rw [h.zero]; exact dec_none x
    · have g : 10 ^ 0 ≤ v := by rw [Nat.pow_zero]; exact h0
      have a := dec_inf_great (n := 0) (x := x) g (by omega)
      have b := dec_inf_great (n := 0) (x := x') g (by omega)
      rw [h.unique b]; exact a
  · have a := dec_zero_small (x := x) hv (by omega)
    have b := dec_zero_small (x := x') hv (by omega)
    rw [h.unique b]; exact a
theorem dspec_digs {l ds : List UInt8} {x : Int} (h : dspec l = some (ds, x)) : (∀ c ∈ ds, isDig c = true) ∧ ds.length ≤ l.length ∧ ds ≠ [] := by
  have hw : ∀ l : List UInt8, (∀ c ∈ (digs l).1, isDig c = true) ∧ (digs l).1.length + (digs l).2.length = l.length := by
    intro l
    unfold digs
    constructor
    · intro c hc
      have : l.take (l.takeWhile isDig).length = l.takeWhile isDig := by
        have h1 := List.takeWhile_append_dropWhile (p := isDig) (l := l)
        conv => lhs; rw [← h1]
        rw [h1]
        conv => lhs; arg 2; rw [← h1]
        rw [List.take_left']; rfl
      simp only [this] at hc
      have key : ∀ m : List UInt8, ∀ c ∈ m.takeWhile isDig, isDig c = true := by
        intro m
        induction m with
        | nil => intro c hc; cases hc
        | cons a m ih =>
          intro c hc
          rw [List.takeWhile_cons] at hc
          split at hc
          · rename_i ha
            rcases List.mem_cons.1 hc with rfl | hc
            · exact ha
            · exact ih c hc
          · cases hc
      exact key l c hc
    · rw [← List.length_append, List.take_append_drop]
  have ht : ∀ ds' x' m, tailOf ds' x' m = some (ds, x) → ds = ds' ∧ ds' ≠ [] := by
    intro ds' x' m hm
    unfold tailOf at hm
    split at hm
    · cases hm
    · rename_i hne
      refine ⟨?_, hne⟩
      split at hm
      · injection hm with hm; injection hm with h1 h2; exact h1.symm
      · split at hm
        · rename_i r _
          cases he : expOf r with
          | none => rw [he] at hm; cases hm
          | some e => rw [he] at hm; simp only [Option.map_some, Option.some.injEq, Prod.mk.injEq] at hm; exact hm.1.symm
        · cases hm
  have h1 := hw l
  unfold dspec at h
  split at h
  · obtain ⟨rfl, h3⟩ := ht _ _ _ h
    exact ⟨h1.1, by omega, h3⟩
  · rename_i c r hcr
    rw [hcr, List.length_cons] at h1
    split at h
    · obtain ⟨rfl, h3⟩ := ht _ _ _ h
      have h2 := hw r
      refine ⟨?_, by rw [List.length_append]; omega, h3⟩
      intro c hc
      rcases List.mem_append.1 hc with hc | hc
      · exact h1.1 c hc
      · exact h2.1 c hc
    · obtain ⟨rfl, h3⟩ := ht _ _ _ h
      exact ⟨h1.1, by omega, h3⟩
end Go.Proofs.YtjlnfnfdibfniaaDoor.Pl

/- num reads a text as the document says: the float nearest to it. -/
namespace Go.Proofs.YtjlnfnfdibfniaaDoor.Pl
open F Hd Go.RowKit Go.Proofs.YtjlnfnfdibfniaaDoorW.PrintWords Go.Proofs.YtjlnfnfdibfniaaDoorW.PrintMore
def zs (l : List UInt8) : List UInt8 := l.dropWhile (fun c => c == 48)
theorem trimByte (l : List UInt8) : Runs (fun k => strings_trimLeftByte.l0 k (mk l) 48) (mk (zs l)) := by
  induction l with
  | nil =>
    refine Runs.suc ?_
    simp only [strings_trimLeftByte.l0]
    exact Runs.no (by rw [mk_size]; simp) (Runs.pure _)
  | cons c r ih =>
    refine Runs.suc ?_
    simp only [strings_trimLeftByte.l0]
    rw [mk_size, mk_bt0, mk_from]
    have hl : (c :: r).length = r.length + 1 := rfl
    refine Runs.yes (by omega) (Runs.yes (by omega) ?_)
    by_cases h : c.toNat = 48
    · have hc : c = 48 := UInt8.toNat_inj.1 h
      refine Runs.yes (by omega) (Runs.yes (by omega) ?_)
      have : zs (c :: r) = zs r := by unfold zs; rw [hc]; rfl
      rw [this]; exact ih
    · refine Runs.no (by omega) ((Runs.pure _).of ?_)
      have hc : (c == 48) = false := by
        rw [beq_eq_false_iff_ne]; intro e; rw [e] at h; exact h rfl
      unfold zs
      rw [List.dropWhile_cons, hc]; rfl
theorem trim_left (l : List UInt8) : Runs (fun k => strings_TrimLeft.f k (mk l) (⟨#[48]⟩ : ByteArray)) (mk (zs l)) := by
  simp only [strings_TrimLeft.f]
  rw [mk_list]
  have h48 : bt (⟨#[48]⟩ : ByteArray) 0 = 48 := rfl
  have hs : ((⟨#[48]⟩ : ByteArray).size : Int) = 1 := rfl
  by_cases h : l = []
  · refine Runs.yes h (Runs.suc ?_)
    simp only [strings_TrimLeft.j0]
    refine Runs.yes trivial ((Runs.pure _).of ?_)
    rw [h]; rfl
  · have hb : ((⟨#[48]⟩ : ByteArray).toList == ([] : List UInt8)) = false := by rw [ByteArray.toList_eq]; rfl
    refine Runs.no h (Runs.suc ?_)
    simp only [strings_TrimLeft.j0]
    rw [hb, h48, hs]
    refine Runs.no Bool.false_ne_true (Runs.yes rfl (Runs.yes (by decide) (Runs.suc ?_)))
    simp only [strings_TrimLeft.j1]
    rw [h48, hs]
    refine Runs.yes (by decide) (Runs.yes (by decide) ?_)
    simp only [strings_trimLeftByte.f]
    exact Runs.bind (trimByte l) (Runs.pure _)
theorem run_mk (l : List UInt8) (h : l.length ≤ 1000) : Runs (fun k => num_run.f k (mk l)) ((l.takeWhile isDig).length : Int) := by
  refine ⟨l.length + 1, fun k hk => ?_⟩
  have := run_f (mk l) (by rw [mk_size]; omega) k (by rw [mk_size]; omega)
  rwa [mk_data] at this
theorem exp_l0 (l : List UInt8) (hd : ∀ c ∈ l, isDig c = true) (hl : l.length ≤ 1000) (x6 x : Int) (hx6 : x6 = 1 ∨ x6 = -1) (hx : -1000 ≤ x) (hx' : x ≤ 1000) (ds : ByteArray) :
    ∀ d i, i + d = l.length → Runs (fun k => num_read.l0 k (mk l) x6 (min (val (l.take i)) 100000 : Nat) (l.length : Int) (i : Int) ds x) (ds, x + x6 * (min (val l) 100000 : Nat), true) := by
  intro d
  induction d with
  | zero =>
    intro i hi
    obtain rfl : i = l.length := by omega
    refine Runs.suc ?_
    simp only [num_read.l0]
    rw [List.take_length]
    refine Runs.no (by omega) ((Runs.pure _).of ?_)
    rcases hx6 with rfl | rfl
    · rw [w64 (n := 1 * _) (by omega) (by omega), w64 (by omega) (by omega)]
    · rw [w64 (n := -1 * _) (by omega) (by omega), w64 (by omega) (by omega)]
  | succ d ih =>
    intro i hi
    have hil : i < l.length := by omega
    refine Runs.suc ?_
    simp only [num_read.l0]
    obtain ⟨e1, e2⟩ := sub48 l[i] (hd _ (List.getElem_mem hil))
    rw [mk_size, mk_bt l i hil, e1, w64 (n := (i : Int) + 1) (by omega) (by omega)]
    refine Runs.yes (by omega) (Runs.yes (by omega) (Runs.yes (by omega) ?_))
    have e3 : mn (wrap64 (wrap64 (10 * ((min (val (l.take i)) 100000 : Nat) : Int)) + ((l[i].toNat - 48 : Nat) : Int))) 100000 = ((min (val (l.take (i + 1))) 100000 : Nat) : Int) := by
      rw [List.take_succ_eq_append_getElem hil, val_snoc]
      generalize val (l.take i) = v at *
      generalize l[i].toNat - 48 = w at *
      rw [w64 (n := 10 * _) (by omega) (by omega), w64 (by omega) (by omega)]
      unfold mn
      split <;> omega
    rw [e3]
    exact ih (i + 1) (by omega)
/-- What reading comes to. -/
def ReadOut (o : Option (List UInt8 × Int)) (g : Nat → Option (ByteArray × Int × Bool)) : Prop :=
  match o with
  | none => ∃ a b, Runs g (a, b, false)
  | some (ds, x) => ∃ x', Ext x x' ∧ -200000 ≤ x' ∧ x' ≤ 200000 ∧ Runs g (mk (zs ds), x', true)
theorem ReadOut.suc {o : Option (List UInt8 × Int)} {g : Nat → Option (ByteArray × Int × Bool)} (h : ReadOut o (fun k => g (k + 1))) : ReadOut o g := by
  unfold ReadOut at h ⊢
  split
  · obtain ⟨a, b, h⟩ := h
    exact ⟨a, b, h.suc⟩
  · obtain ⟨x', h1, h2, h3, h⟩ := h
    exact ⟨x', h1, h2, h3, h.suc⟩
theorem ReadOut.yes {o : Option (List UInt8 × Int)} {c : Prop} [Decidable c] {A B : Nat → Option (ByteArray × Int × Bool)} (hc : c) (h : ReadOut o A) : ReadOut o (fun k => if c then A k else B k) := by
  have : (fun k => if c then A k else B k) = A := funext fun k => if_pos hc
  rw [this]; exact h
theorem ReadOut.no {o : Option (List UInt8 × Int)} {c : Prop} [Decidable c] {A B : Nat → Option (ByteArray × Int × Bool)} (hc : ¬ c) (h : ReadOut o B) : ReadOut o (fun k => if c then A k else B k) := by
  have : (fun k => if c then A k else B k) = B := funext fun k => if_neg hc
  rw [this]; exact h
theorem ReadOut.bind {α : Type} {o : Option (List UInt8 × Int)} {g : Nat → Option α} {h : Nat → α → Option (ByteArray × Int × Bool)} {a : α} (hg : Runs g a) (hh : ReadOut o (fun k => h k a)) : ReadOut o (fun k => (g k).bind (h k)) := by
  unfold ReadOut at hh ⊢
  split
  · obtain ⟨x, y, hh⟩ := hh
    exact ⟨x, y, Runs.bind hg hh⟩
  · obtain ⟨x', h1, h2, h3, hh⟩ := hh
    exact ⟨x', h1, h2, h3, Runs.bind hg hh⟩
theorem allDig_iff (l : List UInt8) : allDig l = true ↔ ∀ c ∈ l, isDig c = true := by unfold allDig; rw [List.all_eq_true]
theorem read_j3 (ds r : List UInt8) (neg : Bool) (x : Int) (hr : r.length ≤ 1000) (hx : -1000 ≤ x) (hx' : x ≤ 1000) :
    ReadOut ((if r = [] ∨ allDig r = false then none else some (if neg = true then -(val r : Int) else (val r : Int))).map (fun e => (ds, x + e))) (fun k => num_read.j3 k (mk r) (if neg = true then -1 else 1) (mk (zs ds)) x) := by
  refine ReadOut.suc ?_
  simp only [num_read.j3]
  rw [mk_list, mk_size]
  by_cases h : r = []
  · rw [if_pos (show r = [] ∨ allDig r = false from .inl h)]
    refine ReadOut.yes h (ReadOut.suc ?_)
    simp only [num_read.j4]
    exact ⟨_, _, Runs.yes trivial (Runs.pure _)⟩
  · refine ReadOut.no h (ReadOut.bind (run_mk r hr) (ReadOut.suc ?_))
    simp only [num_read.j4]
    cases hd : allDig r with
    | false =>
      rw [if_pos (show r = [] ∨ false = false from .inr rfl)]
      refine ReadOut.yes ?_ ⟨_, _, Runs.pure _⟩
      rw [bne_iff_ne]
      intro e
      have e' : (r.takeWhile isDig).length = r.length := by omega
      have := (allDig_iff r).2 ((takeWhile_all r).1 e')
      rw [hd] at this; cases this
    | true =>
      rw [if_neg (show ¬ (r = [] ∨ true = false) from fun h' => h'.elim h (fun h'' => by cases h''))]
      have hall := (allDig_iff r).1 hd
      have e' := (takeWhile_all r).2 hall
      refine ReadOut.no ?_ ?_
      · rw [e']; simp
      · rw [mk_size]
        have := exp_l0 r hall hr (if neg = true then -1 else 1) x (by split <;> simp) hx hx' (mk (zs ds)) r.length 0 (by omega)
        rw [List.take_zero] at this
        refine ⟨_, ?_, ?_, ?_, this⟩
        · cases neg with
          | true =>
            rw [if_pos rfl, if_pos rfl]
            unfold Ext
            generalize val r = v
            omega
          | false =>
            rw [if_neg Bool.false_ne_true, if_neg Bool.false_ne_true]
            unfold Ext
            generalize val r = v
            omega
        · generalize val r = v
          split <;> omega
        · generalize val r = v
          split <;> omega
theorem read_j1 (ds r : List UInt8) (x : Int) (hr : r.length ≤ 1000) (hx : -1000 ≤ x) (hx' : x ≤ 1000) (c : UInt8) :
    ReadOut ((expOf r).map (fun e => (ds, x + e))) (fun k => num_read.j1 k (mk (c :: r)) false (mk (zs ds)) x) := by
  refine ReadOut.suc ?_
  simp only [num_read.j1]
  rw [mk_size, mk_from]
  have hl : (c :: r).length = r.length + 1 := rfl
  refine ReadOut.no (by decide) (ReadOut.yes (by omega) (ReadOut.bind (Runs.pure _) ?_))
  show ReadOut _ (fun k => if (mk r).toList = [] then _ else _)
  rw [mk_list]
  unfold expOf
  rcases r with _ | ⟨a, r⟩
  · refine ReadOut.yes rfl (ReadOut.suc ?_)
    simp only [num_read.j2]
    refine ReadOut.no (by decide) ?_
    exact read_j3 ds [] false x hr hx hx'
  · show ReadOut _ (fun k => if a :: r = [] then _ else if 0 < ((mk (a :: r)).size : Int) then if bt (mk (a :: r)) 0 = 43 then num_read.j2 k (mk (a :: r)) 1 true (mk (zs ds)) x else num_read.j2 k (mk (a :: r)) 1 (bt (mk (a :: r)) 0 == 45) (mk (zs ds)) x else none)
    rw [mk_size, mk_bt0]
    have hl2 : (a :: r).length = r.length + 1 := rfl
    refine ReadOut.no (by simp) (ReadOut.yes (by omega) ?_)
    by_cases h45 : a.toNat = 45
    · have es : sgn (a :: r) = (true, r) := by unfold sgn; simp only; rw [if_pos h45]
      rw [es]
      refine ReadOut.no (by omega) (ReadOut.suc ?_)
      simp only [num_read.j2]
      rw [mk_size, mk_bt0, mk_from]
      refine ReadOut.yes (by rw [h45]; rfl) (ReadOut.yes (by omega) (ReadOut.yes (by omega) (ReadOut.yes (by omega) ?_)))
      exact read_j3 ds r true x (by omega) hx hx'
    · by_cases h43 : a.toNat = 43
      · have es : sgn (a :: r) = (false, r) := by unfold sgn; simp only; rw [if_neg h45, if_pos h43]
        rw [es]
        refine ReadOut.yes (by omega) (ReadOut.suc ?_)
        simp only [num_read.j2]
        rw [mk_size, mk_bt0, mk_from]
        refine ReadOut.yes trivial (ReadOut.yes (by omega) (ReadOut.no (by omega) (ReadOut.yes (by omega) ?_)))
        exact read_j3 ds r false x (by omega) hx hx'
      · have es : sgn (a :: r) = (false, a :: r) := by unfold sgn; simp only; rw [if_neg h45, if_neg h43]
        rw [es]
        refine ReadOut.no (by omega) (ReadOut.suc ?_)
        simp only [num_read.j2]
        have hb : (((a.toNat : Int)) == 45) = false := by rw [beq_eq_false_iff_ne]; omega
        rw [hb]
        refine ReadOut.no (by decide) ?_
        exact read_j3 ds (a :: r) false x hr hx hx'
theorem read_j0 (ds m : List UInt8) (x : Int) (hm : m.length ≤ 1000) (hx : -1000 ≤ x) (hx' : x ≤ 1000) :
    ReadOut (tailOf ds x m) (fun k => num_read.j0 k (mk m) (mk ds) x) := by
  refine ReadOut.suc ?_
  simp only [num_read.j0]
  rw [mk_list, mk_list, mk_size]
  unfold tailOf
  by_cases h : ds = []
  · rw [if_pos h]
    exact ⟨_, _, Runs.yes h (Runs.pure _)⟩
  · rw [if_neg h]
    refine ReadOut.no h (ReadOut.bind (trim_left ds) ?_)
    rcases m with _ | ⟨c, r⟩
    · refine ⟨x, .inl rfl, by omega, by omega, Runs.yes rfl (Runs.pure _)⟩
    · have hl : (c :: r).length = r.length + 1 := rfl
      rw [mk_bt0]
      refine ReadOut.no (by simp) (ReadOut.yes (by omega) ?_)
      simp only
      by_cases h1 : c.toNat = 101
      · rw [if_pos (show c.toNat = 101 ∨ c.toNat = 69 from .inl h1)]
        exact ReadOut.yes (by omega) (read_j1 ds r x (by omega) hx hx' c)
      · refine ReadOut.no (by omega) ?_
        by_cases h2 : c.toNat = 69
        · rw [if_pos (show c.toNat = 101 ∨ c.toNat = 69 from .inr h2)]
          have hb : (((c.toNat : Int)) != 69) = false := by rw [h2]; rfl
          rw [hb]
          exact read_j1 ds r x (by omega) hx hx' c
        · rw [if_neg (show ¬ (c.toNat = 101 ∨ c.toNat = 69) by omega)]
          have hb : (((c.toNat : Int)) != 69) = true := by rw [bne_iff_ne]; omega
          rw [hb]
          refine ReadOut.suc ?_
          simp only [num_read.j1]
          exact ⟨_, _, Runs.yes trivial (Runs.pure _)⟩
theorem tw_len (l : List UInt8) : (l.takeWhile isDig).length ≤ l.length := by
  induction l with
  | nil => simp
  | cons a l ih => rw [List.takeWhile_cons]; split <;> simp <;> omega
theorem prefix_dot (c : UInt8) (r : List UInt8) : strings_HasPrefix.f (mk (c :: r)) (⟨#[46]⟩ : ByteArray) = some (decide (c.toNat = 46)) := by
  unfold strings_HasPrefix.f stringslite_HasPrefix.f
  have hone : (⟨#[46]⟩ : ByteArray).size = 1 := rfl
  have hol : (⟨#[46]⟩ : ByteArray).toList = [46] := by rw [ByteArray.toList_eq]
  have hl : (c :: r).length = r.length + 1 := rfl
  rw [hone, mk_size, hol]
  rw [if_pos (by omega), if_pos (by decide), if_pos (by omega)]
  have e : ((1 : Nat) : Int).toNat = 1 := rfl
  rw [e, mk_upto, mk_list, Option.bind_some]
  congr 1
  show (([c] : List UInt8) == [46]) = _
  by_cases h : c.toNat = 46
  · have hc : c = 46 := UInt8.toNat_inj.1 h
    rw [decide_eq_true h, hc]; rfl
  · rw [decide_eq_false h]
    rw [beq_eq_false_iff_ne]
    intro e; injection e with e; rw [e] at h; exact h rfl
theorem prefix_dot_nil : strings_HasPrefix.f (mk []) (⟨#[46]⟩ : ByteArray) = some false := by
  unfold strings_HasPrefix.f stringslite_HasPrefix.f
  have hone : (⟨#[46]⟩ : ByteArray).size = 1 := rfl
  rw [hone, mk_size, if_neg (by decide)]; rfl
theorem read_f (l : List UInt8) (hl : l.length ≤ 900) : ReadOut (dspec l) (fun k => num_read.f k (mk l)) := by
  simp only [num_read.f]
  have ht := tw_len l
  refine ReadOut.bind (run_mk l (by omega)) ?_
  rw [mk_size, Int.toNat_natCast, mk_upto, mk_from]
  refine ReadOut.yes (by omega) (ReadOut.yes (by omega) (ReadOut.bind (Runs.pure _) (ReadOut.bind (Runs.pure _) ?_)))
  have hd1 : (digs l).1 = l.take (l.takeWhile isDig).length := rfl
  have hd2 : (digs l).2 = l.drop (l.takeWhile isDig).length := rfl
  have hlen : (l.drop (l.takeWhile isDig).length).length ≤ 900 := by rw [List.length_drop]; omega
  unfold dspec
  rw [hd1, hd2]
  generalize l.drop (l.takeWhile isDig).length = m at hlen ⊢
  rcases m with _ | ⟨c, r⟩
  · simp only []
    rw [prefix_dot_nil]
    refine ReadOut.bind (Runs.pure _) (ReadOut.no (by decide) ?_)
    exact read_j0 _ [] 0 (by simp) (by omega) (by omega)
  · have hcl : (c :: r).length = r.length + 1 := rfl
    simp only []
    rw [prefix_dot]
    refine ReadOut.bind (Runs.pure _) ?_
    by_cases h : c.toNat = 46
    · rw [if_pos h, decide_eq_true h]
      have htr := tw_len r
      rw [mk_size, mk_from]
      refine ReadOut.yes rfl (ReadOut.yes (by omega) (ReadOut.bind (run_mk r (by omega)) ?_))
      show ReadOut _ (fun k => if (1 : Int) ≤ wrap64 (1 + ((r.takeWhile isDig).length : Int)) then _ else _)
      have ew : wrap64 (1 + ((r.takeWhile isDig).length : Int)) = ((1 + (r.takeWhile isDig).length : Nat) : Int) := by rw [w64 (by omega) (by omega)]; omega
      have ew2 : wrap64 (-((r.takeWhile isDig).length : Int)) = -((r.takeWhile isDig).length : Int) := w64 (by omega) (by omega)
      rw [ew, ew2, Int.toNat_natCast, mk_part, mk_from, mk_size]
      refine ReadOut.yes (by omega) (ReadOut.yes (by omega) (ReadOut.bind (Runs.pure _) ?_))
      rw [show 1 + (r.takeWhile isDig).length - 1 = (r.takeWhile isDig).length by omega, show 1 + (r.takeWhile isDig).length = (r.takeWhile isDig).length + 1 by omega]
      show ReadOut _ (fun k => if (mk (l.take _)).size + (mk (r.take _)).size ≤ 9223372036854775807 then if 0 ≤ (((r.takeWhile isDig).length + 1 : Nat) : Int) then num_read.j0 k (mk (r.drop _)) (mk (l.take _) ++ mk (r.take _)) (-((r.takeWhile isDig).length : Int)) else none else none)
      rw [mk_size, mk_size, mk_append]
      have hb1 : (l.take (l.takeWhile isDig).length).length ≤ 900 := by rw [List.length_take]; omega
      have hb2 : (r.take (r.takeWhile isDig).length).length = (r.takeWhile isDig).length := by rw [List.length_take]; omega
      refine ReadOut.yes (by omega) (ReadOut.yes (by omega) ?_)
      have e1 : (digs r).1 = r.take (r.takeWhile isDig).length := rfl
      have e2 : (digs r).2 = r.drop (r.takeWhile isDig).length := rfl
      rw [e1, e2, hb2]
      exact read_j0 _ _ _ (by rw [List.length_drop]; omega) (by omega) (by omega)
    · rw [if_neg h, decide_eq_false h]
      refine ReadOut.no (by decide) ?_
      exact read_j0 _ (c :: r) 0 (by omega) (by omega) (by omega)
theorem zs_val (l : List UInt8) : val (zs l) = val l := by
  induction l with
  | nil => rfl
  | cons c r ih =>
    unfold zs at ih ⊢
    rw [List.dropWhile_cons]
    split
    · rename_i h
      rw [ih]
      have hc : c = 48 := by simpa using h
      have := val_append [c] r
      rw [List.singleton_append] at this
      rw [this, hc]
      have : val [48] = 0 := rfl
      rw [this]; simp
    · rfl
theorem zs_head (l : List UInt8) (hd : ∀ c ∈ l, isDig c = true) : (∀ c r, zs l = c :: r → 49 ≤ c.toNat) ∧ (∀ c ∈ zs l, isDig c = true) ∧ (zs l).length ≤ l.length := by
  induction l with
  | nil => exact ⟨fun c r h => (by cases h), fun c h => (by cases h), Nat.le_refl _⟩
  | cons a l ih =>
    have ih := ih (fun c hc => hd c (List.mem_cons_of_mem _ hc))
    unfold zs at ih ⊢
    rw [List.dropWhile_cons]
    split
    · refine ⟨ih.1, ih.2.1, ?_⟩
      rw [List.length_cons]; omega
    · rename_i h
      refine ⟨?_, hd, Nat.le_refl _⟩
      intro c r e
      injection e with e _
      have h1 := hd a (List.mem_cons_self ..)
      rw [← e]
      simp only [isDig, Bool.and_eq_true, decide_eq_true_eq] at h1
      have : a.toNat ≠ 48 := by
        intro h2
        have : a = 48 := UInt8.toNat_inj.1 h2
        rw [this] at h; simp at h
      omega
theorem or_sign (K : Nat) (neg : Bool) (hK : K ≤ INF) : (Go.bits .or .u64 (K : Int) (if neg = true then 9223372036854775808 else 0)).toNat = K + signBit neg := by
  have hI : INF = 9218868437227405312 := rfl
  have e64 : (2 : Int) ^ 64 = 18446744073709551616 := by decide
  have e63 : (2 : Int) ^ 63 = 9223372036854775808 := by decide
  have hK0 := Go.IntKind.wrap_u64 0
  cases neg with
  | true =>
    rw [if_pos rfl]
    have h := (bits_nat .u64 64 (by decide) wraps_u64 K 9223372036854775808 (by omega) (by omega)).2
    have e : ((9223372036854775808 : Nat) : Int) = 9223372036854775808 := rfl
    rw [e] at h
    rw [h, Int.toNat_natCast]
    unfold signBit
    rw [if_pos rfl]
    have : K ||| 9223372036854775808 = 9223372036854775808 ||| K := Nat.or_comm ..
    rw [this]
    have h2 := Nat.two_pow_add_eq_or_of_lt (i := 63) (b := K) (by omega) 1
    rw [Nat.mul_one] at h2
    have e3 : (2 : Nat) ^ 63 = 9223372036854775808 := by decide
    rw [e3] at h2
    omega
  | false =>
    rw [if_neg Bool.false_ne_true]
    have h := (bits_nat .u64 64 (by decide) wraps_u64 K 0 (by omega) (by omega)).2
    have e : ((0 : Nat) : Int) = 0 := rfl
    rw [e] at h
    rw [h, Int.toNat_natCast, Nat.or_zero]
    rfl
theorem low_eq (l : List UInt8) : l.map low = l.map lowc := rfl
theorem small_mk (l : List UInt8) (hl : l.length ≤ 1000) : num_small.f (mk l) = some (mk (l.map lowc)) := by
  unfold num_small.f
  rw [mk_size, if_pos (by omega)]
  show some (smallF (mk l)) = _
  unfold smallF
  rw [mk_data]; rfl
theorem parse_j1 (l r : List UInt8) (neg : Bool) (hl : l.length ≤ 400) (hr : r.length ≤ 900) (hs : sgn l = (neg, r)) :
    ∃ b e, ParseTo l b e ∧ Runs (fun k => num_Parse.j1 k (mk r) (if neg = true then 9223372036854775808 else 0)) (b, e) := by
  simp only [ParseTo, if_neg (show ¬ 400 < l.length by omega), hs]
  have hor := or_sign
  have hI : INF = 9218868437227405312 := rfl
  by_cases h1 : r.map lowc = [110, 97, 110]
  · refine ⟨9221120237041090561, 0, by rw [if_pos h1]; exact ⟨rfl, rfl⟩, Runs.suc ?_⟩
    simp only [num_Parse.j1]
    rw [small_mk r (by omega)]
    refine Runs.bind (Runs.pure _) ?_
    show Runs (fun k => if (mk (r.map lowc)).toList = _ then _ else _) _
    rw [mk_list]
    exact Runs.yes h1 (Runs.pure _)
  · simp only [if_neg h1]
    by_cases h2 : r.map lowc = [105, 110, 102] ∨ r.map lowc = [105, 110, 102, 105, 110, 105, 116, 121]
    · refine ⟨INF + signBit neg, 0, by rw [if_pos h2]; exact ⟨rfl, rfl⟩, Runs.suc ?_⟩
      simp only [num_Parse.j1]
      rw [small_mk r (by omega)]
      refine Runs.bind (Runs.pure _) ?_
      have hp := hor INF neg (Nat.le_refl _)
      rw [hI] at hp
      show Runs (fun k => if (mk (r.map lowc)).toList = _ then _ else if (mk (r.map lowc)).toList = _ then _ else if (mk (r.map lowc)).toList = _ then _ else _) _
      rw [mk_list]
      refine Runs.no h1 ?_
      have hp' : (Go.bits .or .u64 9218868437227405312 (if neg = true then 9223372036854775808 else 0)).toNat = INF + signBit neg := hp
      rw [hp']
      by_cases h3 : r.map lowc = [105, 110, 102]
      · exact Runs.yes h3 (Runs.pure _)
      · refine Runs.no h3 (Runs.yes (h2.resolve_left h3) (Runs.pure _))
    · simp only [if_neg h2]
      have hro := read_f r hr
      have hds := fun ds x => dspec_digs (l := r) (ds := ds) (x := x)
      have cont : ∀ (b : Nat) (e : Int), Runs (fun k => (num_read.f k (mk r)).bind fun bt601 => (if bt601.2.2 = true then ((num_decimal_bits.f k bt601.1 bt601.2.1).bind fun t605 => (some (((Go.bits .or .u64 t605 (if neg = true then 9223372036854775808 else 0)) : Int).toNat, 0))) else (some (0, 8)))) (b, e) →
          Runs (fun k => num_Parse.j1 k (mk r) (if neg = true then 9223372036854775808 else 0)) (b, e) := by
        intro b e h
        refine Runs.suc ?_
        simp only [num_Parse.j1]
        rw [small_mk r (by omega)]
        refine Runs.bind (Runs.pure _) ?_
        show Runs (fun k => if (mk (r.map lowc)).toList = _ then _ else if (mk (r.map lowc)).toList = _ then _ else if (mk (r.map lowc)).toList = _ then _ else _) _
        rw [mk_list]
        exact Runs.no h1 (Runs.no (fun h => h2 (.inl h)) (Runs.no (fun h => h2 (.inr h)) h))
      cases hd : dspec r with
      | none =>
        rw [hd] at hro
        obtain ⟨a, c, hrun⟩ := hro
        exact ⟨0, 8, ⟨rfl, rfl⟩, cont 0 8 (Runs.bind hrun (Runs.no Bool.false_ne_true (Runs.pure _)))⟩
      | some p =>
        obtain ⟨ds, x⟩ := p
        rw [hd] at hro
        obtain ⟨x', hx, hx0, hx1, hrun⟩ := hro
        obtain ⟨g1, g2, g3⟩ := hds ds x hd
        obtain ⟨z1, z2, z3⟩ := zs_head ds g1
        obtain ⟨K, hK, hrunK⟩ := bits_f (zs ds) x' z2 z1 (by omega) (by omega) (by omega)
        have hv := val_lt ds g1
        rw [zs_val] at hK
        refine ⟨K + signBit neg, 0, ⟨rfl, K, hK.ext hv (by omega) hx, rfl⟩, cont _ 0 (Runs.bind hrun (Runs.yes rfl (Runs.bind hrunK ((Runs.pure _).of ?_))))⟩
        rw [or_sign K neg hK.le]
/-- num reads a text as the document says. -/
theorem parse_f (l : List UInt8) (hbig : l.length ≤ 140737488351232) : ∃ b e, ParseTo l b e ∧ Runs (fun k => num_Parse.f k (mk l)) (b, e) := by
  by_cases h : 400 < l.length
  · refine ⟨0, 8, by unfold ParseTo; rw [if_pos h]; exact ⟨rfl, rfl⟩, ?_⟩
    simp only [num_Parse.f]
    rw [mk_size]
    exact Runs.yes (by omega) (Runs.pure _)
  · rcases l with _ | ⟨c, r⟩
    · obtain ⟨b, e, hp, hrun⟩ := parse_j1 [] [] false (by simp) (by simp) rfl
      refine ⟨b, e, hp, ?_⟩
      simp only [num_Parse.f]
      rw [mk_size, mk_list]
      refine Runs.no (by simp) (Runs.yes rfl (Runs.suc ?_))
      simp only [num_Parse.j0]
      exact Runs.no (by decide) hrun
    · have hl : (c :: r).length = r.length + 1 := rfl
      have main : ∀ neg s, sgn (c :: r) = (neg, s) → s.length ≤ 900 → Runs (fun k => num_Parse.j1 k (mk s) (if neg = true then 9223372036854775808 else 0)) = Runs (fun k => num_Parse.f k (mk (c :: r))) → ∃ b e, ParseTo (c :: r) b e ∧ Runs (fun k => num_Parse.f k (mk (c :: r))) (b, e) := by
        intro neg s hs hs2 he
        obtain ⟨b, e, hp, hrun⟩ := parse_j1 (c :: r) s neg (by omega) hs2 hs
        exact ⟨b, e, hp, by rw [← he]; exact hrun⟩
      have step : ∀ neg s, s.length ≤ 900 → sgn (c :: r) = (neg, s) → (∀ b e, Runs (fun k => num_Parse.j1 k (mk s) (if neg = true then 9223372036854775808 else 0)) (b, e) → Runs (fun k => num_Parse.f k (mk (c :: r))) (b, e)) → ∃ b e, ParseTo (c :: r) b e ∧ Runs (fun k => num_Parse.f k (mk (c :: r))) (b, e) := by
        intro neg s hs2 hs he
        obtain ⟨b, e, hp, hrun⟩ := parse_j1 (c :: r) s neg (by omega) hs2 hs
        exact ⟨b, e, hp, he b e hrun⟩
      by_cases h45 : c.toNat = 45
      · refine step true r (by omega) (by unfold sgn; simp only; rw [if_pos h45]) (fun b e hrun => ?_)
        simp only [num_Parse.f]
        rw [mk_size, mk_list, mk_bt0]
        have hb : (((c.toNat : Int)) == 45) = true := by rw [beq_iff_eq]; omega
        rw [hb]
        refine Runs.no (by omega) (Runs.no (by simp) (Runs.yes (by omega) (Runs.no (by omega) (Runs.suc ?_))))
        simp only [num_Parse.j0]
        rw [mk_size, mk_bt0, mk_from]
        exact Runs.yes trivial (Runs.yes (by omega) (Runs.yes (by omega) (Runs.yes (by omega) hrun)))
      · have hb : (((c.toNat : Int)) == 45) = false := by rw [beq_eq_false_iff_ne]; omega
        by_cases h43 : c.toNat = 43
        · refine step false r (by omega) (by unfold sgn; simp only; rw [if_neg h45, if_pos h43]) (fun b e hrun => ?_)
          simp only [num_Parse.f]
          rw [mk_size, mk_list, mk_bt0]
          refine Runs.no (by omega) (Runs.no (by simp) (Runs.yes (by omega) (Runs.yes (by omega) (Runs.suc ?_))))
          simp only [num_Parse.j0]
          rw [mk_size, mk_bt0, mk_from]
          exact Runs.yes trivial (Runs.yes (by omega) (Runs.no (by omega) (Runs.yes (by omega) hrun)))
        · refine step false (c :: r) (by omega) (by unfold sgn; simp only; rw [if_neg h45, if_neg h43]) (fun b e hrun => ?_)
          simp only [num_Parse.f]
          rw [mk_size, mk_list, mk_bt0, hb]
          refine Runs.no (by omega) (Runs.no (by simp) (Runs.yes (by omega) (Runs.no (by omega) (Runs.suc ?_))))
          simp only [num_Parse.j0]
          exact Runs.no (by decide) hrun
end Go.Proofs.YtjlnfnfdibfniaaDoor.Pl

-- Written by a program of this session (wip/vprint.py): Lean checks it.
namespace Go.Proofs.YtjlnfnfdibfniaaDoor.F
open Go.RowKit Go.Proofs.YtjlnfnfdibfniaaDoorW.PrintWords Go.Proofs.YtjlnfnfdibfniaaDoorW.PrintLast Go.Proofs.YtjlnfnfdibfniaaDoorW.PrintMore
attribute [local go_sem] max2_int min2_int max_two min_two max_three min_three max_four min_four   -- for this text's walks alone
set_option linter.unusedVariables false
set_option linter.unusedSimpArgs false

/-! ### math_IsNaN: function 43 -/
def math_IsNaN.f (a0 : Nat) : Option (Bool) := some (FloatKind.f64.format.order a0 a0 != some Ordering.eq)
set_option maxHeartbeats 8000000 in
set_option maxRecDepth 100000 in
theorem math_IsNaN.calls (a0 : Nat) (r : Bool) (w : World) (h : math_IsNaN.f a0 = some r) :
  Calls Tryd.prog 43 #[.float .f64 a0] w fun e w' => e = .returned (.bool r) ∧ Drawn0 w w' := by
 have H : (some (FloatKind.f64.format.order a0 a0 != some Ordering.eq)) = some r := h
 clear h
 obtain rfl := Option.some.inj H
 go_enter Tryd.func43, Tryd.ntmps43
 go_wp2
 go_ret
 exact ⟨by first | rfl | (simp; done) | (simp [*]; done), by repeat (first | exact Drawn0.refl _ | apply Drawn0.step)⟩


/-! ### math_Abs: function 74 -/
def math_Abs.f (a0 : Nat) : Option (Nat) := some (((Go.bits .andNot .u64 (a0 : Int) 9223372036854775808) : Int).toNat)
set_option maxHeartbeats 8000000 in
set_option maxRecDepth 100000 in
theorem math_Abs.calls (a0 : Nat) (r : Nat) (w : World) (h : math_Abs.f a0 = some r) :
  Calls Tryd.prog 74 #[.float .f64 a0] w fun e w' => e = .returned (.float .f64 r) ∧ Drawn0 w w' := by
 have H : (some (((Go.bits .andNot .u64 (a0 : Int) 9223372036854775808) : Int).toNat)) = some r := h
 clear h
 obtain rfl := Option.some.inj H
 have hext0 := Hd.ext12
 have hext1 := Hd.ext54
 go_enter Tryd.func74, Tryd.ntmps74
 go_wp2
 go_ret
 exact ⟨by first | rfl | (simp; done) | (simp [*]; done), by repeat (first | exact Drawn0.refl _ | apply Drawn0.step)⟩


/-! ### math_IsInf: function 32 -/
def math_IsInf.f (a0 : Nat) (a1 : Int) : Option (Bool) := if a1 = 0 then ((math_Abs.f a0).bind fun t101 => (some (FloatKind.f64.format.order t101 9218868437227405311 == some Ordering.gt))) else (if a1 < 0 then (none) else (some (FloatKind.f64.format.order a0 9218868437227405311 == some Ordering.gt)))
set_option maxHeartbeats 8000000 in
set_option maxRecDepth 100000 in
theorem math_IsInf.calls (a0 : Nat) (a1 : Int) (r : Bool) (w : World) (h : math_IsInf.f a0 a1 = some r) :
  Calls Tryd.prog 32 #[.float .f64 a0, .int .i64 a1] w fun e w' => e = .returned (.bool r) ∧ Drawn0 w w' := by
 have H : (if a1 = 0 then ((math_Abs.f a0).bind fun t101 => (some (FloatKind.f64.format.order t101 9218868437227405311 == some Ordering.gt))) else (if a1 < 0 then (none) else (some (FloatKind.f64.format.order a0 9218868437227405311 == some Ordering.gt)))) = some r := h
 clear h
 by_cases c3 : a1 = 0
 ·
  rw [if_pos c3] at H
  have c3b0 : (a1 == 0) = true := beq_iff_eq.mpr c3
  have c3b1 : (a1 != 0) = false := bne_eq_false_iff_eq.mpr c3
  clear c3
  replace H := Option.bind_eq_some_iff.mp H
  obtain ⟨t101, A40, H⟩ := H
  replace H : (some (FloatKind.f64.format.order t101 9218868437227405311 == some Ordering.gt)) = some r := H
  have A4 := Aside0.mk A40
  clear A40
  obtain rfl := Option.some.inj H
  go_enter Tryd.func32, Tryd.ntmps32
  go_wp2_with (first | ((with_reducible refine gate_callee (f := 74) rfl ?_); refine gL (some 8) Tryd.func74 #[.float .f64 a0] ?_; (with_reducible refine (math_Abs.calls a0 t101 _ A4.out).mono ?_); rintro e w' ⟨rfl, ⟨nd, rfl⟩⟩; refine ⟨_, rfl, ?_⟩))
  go_ret
  exact ⟨by first | rfl | (simp; done) | (simp [*]; done), by repeat (first | exact Drawn0.refl _ | apply Drawn0.step)⟩
 ·
  rw [if_neg c3] at H
  have c3b0 : (a1 == 0) = false := beq_eq_false_iff_ne.mpr c3
  have c3b1 : (a1 != 0) = true := bne_iff_ne.mpr c3
  by_cases c5 : a1 < 0
  ·
   rw [if_pos c5] at H
   exact absurd H (by simp)
  ·
   rw [if_neg c5] at H
   have c5b0 : decide (a1 < 0) = false := decide_eq_false c5
   clear c5
   obtain rfl := Option.some.inj H
   go_enter Tryd.func32, Tryd.ntmps32
   go_wp2
   go_ret
   exact ⟨by first | rfl | (simp; done) | (simp [*]; done), by repeat (first | exact Drawn0.refl _ | apply Drawn0.step)⟩


/-! ### math_Signbit: function 42 -/
def math_Signbit.f (a0 : Nat) : Option (Bool) := some (decide ((wrap64 ((a0 : Int))) < 0))
set_option maxHeartbeats 8000000 in
set_option maxRecDepth 100000 in
theorem math_Signbit.calls (a0 : Nat) (r : Bool) (w : World) (h : math_Signbit.f a0 = some r) :
  Calls Tryd.prog 42 #[.float .f64 a0] w fun e w' => e = .returned (.bool r) ∧ Drawn0 w w' := by
 have H : (some (decide ((wrap64 ((a0 : Int))) < 0))) = some r := h
 clear h
 obtain rfl := Option.some.inj H
 have hext0 := Hd.ext54
 go_enter Tryd.func42, Tryd.ntmps42
 go_wp2
 go_ret
 exact ⟨by first | rfl | (simp; done) | (simp [*]; done), by repeat (first | exact Drawn0.refl _ | apply Drawn0.step)⟩


/-! ### num_parts: function 44 -/
def num_parts.f (a0 : Nat) : Option (Int × Int) := if (wrap64 (Go.bits .and .u64 ((a0 : Int) / 4503599627370496) 2047)) = 0 then (some (Go.bits .and .u64 (a0 : Int) 4503599627370495, (-1074))) else (some (Go.bits .or .u64 (Go.bits .and .u64 (a0 : Int) 4503599627370495) 4503599627370496, wrap64 ((wrap64 ((wrap64 (Go.bits .and .u64 ((a0 : Int) / 4503599627370496) 2047)) + (-1074))) - 1)))
set_option maxHeartbeats 8000000 in
set_option maxRecDepth 100000 in
theorem num_parts.calls (a0 : Nat) (r1 : Int) (r2 : Int) (w : World) (h : num_parts.f a0 = some (r1, r2)) :
  Calls Tryd.prog 44 #[.float .f64 a0] w fun e w' => e = .returned (.tuple #[.int .u64 r1, .int .i64 r2]) ∧ Drawn0 w w' := by
 have H : (if (wrap64 (Go.bits .and .u64 ((a0 : Int) / 4503599627370496) 2047)) = 0 then (some (Go.bits .and .u64 (a0 : Int) 4503599627370495, (-1074))) else (some (Go.bits .or .u64 (Go.bits .and .u64 (a0 : Int) 4503599627370495) 4503599627370496, wrap64 ((wrap64 ((wrap64 (Go.bits .and .u64 ((a0 : Int) / 4503599627370496) 2047)) + (-1074))) - 1)))) = some (r1, r2) := h
 clear h
 by_cases c2 : (wrap64 (Go.bits .and .u64 ((a0 : Int) / 4503599627370496) 2047)) = 0
 ·
  rw [if_pos c2] at H
  have c2b0 : ((wrap64 (Go.bits .and .u64 ((a0 : Int) / 4503599627370496) 2047)) == 0) = true := beq_iff_eq.mpr c2
  have c2b1 : ((wrap64 (Go.bits .and .u64 ((a0 : Int) / 4503599627370496) 2047)) != 0) = false := bne_eq_false_iff_eq.mpr c2
  clear c2
  simp only [Option.some.injEq, Prod.mk.injEq] at H
  obtain ⟨rfl, rfl⟩ := H
  have hext0 := Hd.ext54
  go_enter Tryd.func44, Tryd.ntmps44
  go_wp2
  go_ret2
  exact ⟨by first | rfl | (simp; done) | (simp [*]; done), by repeat (first | exact Drawn0.refl _ | apply Drawn0.step)⟩
 ·
  rw [if_neg c2] at H
  have c2b0 : ((wrap64 (Go.bits .and .u64 ((a0 : Int) / 4503599627370496) 2047)) == 0) = false := beq_eq_false_iff_ne.mpr c2
  have c2b1 : ((wrap64 (Go.bits .and .u64 ((a0 : Int) / 4503599627370496) 2047)) != 0) = true := bne_iff_ne.mpr c2
  simp only [Option.some.injEq, Prod.mk.injEq] at H
  obtain ⟨rfl, rfl⟩ := H
  have hext0 := Hd.ext54
  go_enter Tryd.func44, Tryd.ntmps44
  go_wp2
  go_ret2
  exact ⟨by first | rfl | (simp; done) | (simp [*]; done), by repeat (first | exact Drawn0.refl _ | apply Drawn0.step)⟩

end Go.Proofs.YtjlnfnfdibfniaaDoor.F

