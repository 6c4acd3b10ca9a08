/- Words and walked functions of the proof (part 4). -/
import Derived.Test.YtjlnfnfdibfniaaDoorCText3
import Derived.Below
import Derived.Laws.IdiomStrings
import Derived.Outline
import Derived.Shelf.Small.Bits
import Derived.Shelf.Strconv.Itoa0
import Derived.Shelf.Strings.Repeat
import Derived.Test.YtjlnfnfdibfniaaDoorProg
namespace Go.Proofs.YtjlnfnfdibfniaaDoor.F
open Go.RowKit Go.Proofs.YW.PWords Go.Proofs.YW.PLast Go.Proofs.YW.PMore
attribute [local go_sem] max2_int min2_int max_two min_two max_three min_three max_four min_four
set_option linter.unusedVariables false
set_option linter.unusedSimpArgs false
set_option maxRecDepth 100000
def q_Bits.f (a0 : Nat) (a1 : Nat) : Option (Bool) := some ((a0 : Int) == (a1 : Int))
set_option maxHeartbeats 8000000 in
theorem q_Bits.calls (a0 : Nat) (a1 : Nat) (r : Bool) (w : World) (h : q_Bits.f a0 a1 = some r) :
  Calls Tryd.prog 20 #[.float .f64 a0, .float .f64 a1] w fun e w' => e = .returned (.bool r) ∧ Drawn0 w w' := by
 have H : (some ((a0 : Int) == (a1 : Int))) = some r := h
 clear h
 obtain rfl := Option.some.inj H
 have hext0 := Hd.ext54
 go_enter Tryd.func20, Tryd.ntmps20
 go_wp2
 go_ret
 exact ⟨by first | rfl | (simp; done) | (simp [*]; done), by repeat (first | exact Drawn0.refl _ | apply Drawn0.step)⟩
def r_zeros.l0 : Nat → Int → ByteArray → Int → Option (ByteArray)
 | 0, _, _, _ => none
 | k + 1, x0, x3, x4 => if x4 < x0 then (if x3.size + 1 ≤ 9223372036854775807 then (r_zeros.l0 k x0 (x3 ++ (⟨#[48]⟩ : ByteArray)) (wrap64 (x4 + 1))) else (none)) else (some x3)
def r_zeros.f (k : Nat) (a0 : Int) : Option (ByteArray) := r_zeros.l0 k a0 (⟨#[]⟩ : ByteArray) 0
theorem r_zeros.mono_l : ∀ k, (∀ y0 y1 y2, LeO (r_zeros.l0 k y0 y1 y2) (r_zeros.l0 (k + 1) y0 y1 y2))
 | 0 => fun _ _ _ r h => by simp [r_zeros.l0] at h
 | k + 1 => by
  have ih0 := r_zeros.mono_l k
  ·
   intro y0 y1 y2
   unfold r_zeros.l0
   repeat' (with_reducible first | apply ih0 | apply LeO.refl | apply LeO.none | apply LeO.ite | refine LeO.bind ?_ (fun _ => ?_))
theorem r_zeros.mono : ∀ a0 k, LeO (r_zeros.f k a0) (r_zeros.f (k + 1) a0) := by
 intro a0 k
 have ih0 := r_zeros.mono_l k
 unfold r_zeros.f
 repeat' (with_reducible first | apply ih0 | apply LeO.refl | apply LeO.none | apply LeO.ite | refine LeO.bind ?_ (fun _ => ?_))
set_option maxHeartbeats 8000000 in
theorem r_zeros.calls (k : Nat) (a0 : Int) (r : ByteArray) (w : World) (h : r_zeros.f k a0 = some r) :
  Calls Tryd.prog 64 #[.int .i64 a0] w fun e w' => e = .returned (.string r) ∧ Drawn0 w w' := by
 have H : (r_zeros.l0 k a0 (⟨#[]⟩ : ByteArray) 0) = some r := h
 clear h
 have H' := am H
 clear H
 go_enter Tryd.func64, Tryd.ntmps64
 go_wp2
 go_loopg [3, 4] k (fun kq v3 v4 w' => ∃ (x3_1 : ByteArray) (x4_1 : Int), v3 = .string x3_1 ∧ v4 = .int .i64 x4_1 ∧ Aside0 (r_zeros.l0 kq a0 x3_1 x4_1 = some r) ∧ Aside0 (kq ≤ k) ∧ Drawn0 w w')
 case atStart => exact ⟨((⟨#[]⟩ : ByteArray)), (0), eqd, eqd, H', ⟨Nat.le_refl _⟩, by repeat (first | exact Drawn0.refl _ | apply Drawn0.step)⟩
 case round =>
  clear H'
  obtain ⟨x3_1, x4_1, rfl, rfl, HA, HK1, ⟨m1, rfl⟩⟩ := hrel
  cases gk with
  | zero => exact absurd HA.out (by simp [r_zeros.l0])
  | succ k1 =>
   have H := HA.out
   clear HA
   simp only [r_zeros.l0] at H
   by_cases c2 : x4_1 < a0
   ·
    rw [if_pos c2] at H
    have c2b0 := dt c2
    clear c2
    by_cases c3 : x3_1.size + 1 ≤ 9223372036854775807
    ·
     rw [if_pos c3] at H
     have c3b0 := eq_true c3
     have c3b1 := dt c3
     obtain ⟨y511, hy511⟩ : ∃ y_ : ByteArray, y_ = (x3_1 ++ (⟨#[48]⟩ : ByteArray)) := ⟨_, rfl⟩
     replace H : (r_zeros.l0 k1 a0 y511 (wrap64 (x4_1 + 1))) = some r := by first | (rw [hy511]; exact H) | exact H
     have Ny511 := am hy511
     clear hy511
     have H' := am H
     clear H
     obtain ⟨hcs4, hcs4'⟩ := sc Ny511
     go_wp2
     go_roundg k1
     case measure => have := HK1.out; omega
     case rel => exact ⟨(y511), (wrap64 (x4_1 + 1)), eqd, eqd, H', ⟨by have := HK1.out; omega⟩, by repeat (first | exact Drawn0.refl _ | apply Drawn0.step)⟩
    rw [if_neg c3] at H
    exact absurd H (by simp)
   rw [if_neg c2] at H
   have c2b0 := decide_eq_false c2
   clear c2
   obtain rfl := Option.some.inj H
   go_wp2
   go_ret
   exact ⟨by first | rfl | (simp; done) | (simp [*]; done), by repeat (first | exact Drawn0.refl _ | apply Drawn0.step)⟩
mutual
def r_Text.j0 : Nat → Nat → ByteArray → Int → Bool → ByteArray → Option (ByteArray)
 | 0, _, _, _, _, _ => none
 | k + 1, x0, x3, x4, x5, x6 => if (Go.bits .andNot .u64 (x0 : Int) 9223372036854775808) = 9218868437227405312 then (if x5 = true then (some (⟨#[45, 73, 110, 102]⟩ : ByteArray)) else (some (⟨#[43, 73, 110, 102]⟩ : ByteArray))) else (if x3.toList = ([] : List UInt8) then (if x6.size + 1 ≤ 9223372036854775807 then (some (x6 ++ (⟨#[48]⟩ : ByteArray))) else (none)) else (if x4 < (-5) then (r_Text.j1 k x3 x4 x6 true) else (r_Text.j1 k x3 x4 x6 (decide (x4 > 21)))))
def r_Text.j1 : Nat → ByteArray → Int → ByteArray → Bool → Option (ByteArray)
 | 0, _, _, _, _ => none
 | k + 1, x3, x4, x6, x32 => if x32 = true then (if 0 ≤ 1 then (if 1 ≤ (x3.size : Int) then ((some (x3.extract 0 1 : ByteArray)).bind fun y516 => (if x6.size + y516.size ≤ 9223372036854775807 then ((some (x6 ++ y516 : ByteArray)).bind fun y517 => (if (x3.size : Int) > 1 then (if y517.size + 1 ≤ 9223372036854775807 then ((some (y517 ++ (⟨#[46]⟩ : ByteArray) : ByteArray)).bind fun y518 => ((some (x3.extract 1 x3.size : ByteArray)).bind fun y519 => (if y518.size + y519.size ≤ 9223372036854775807 then (r_Text.j2 k x4 (y518 ++ y519)) else (none)))) else (none)) else (r_Text.j2 k x4 y517))) else (none))) else (none)) else (none)) else (if x4 ≤ 0 then (if x6.size + 2 ≤ 9223372036854775807 then ((some (x6 ++ (⟨#[48, 46]⟩ : ByteArray) : ByteArray)).bind fun y537 => ((r_zeros.f k (wrap64 (-x4))).bind fun t538 => (if y537.size + t538.size ≤ 9223372036854775807 then ((some (y537 ++ t538 : ByteArray)).bind fun y539 => (if y539.size + x3.size ≤ 9223372036854775807 then (some (y539 ++ x3)) else (none))) else (none)))) else (none)) else (if x4 ≥ (x3.size : Int) then (if x6.size + x3.size ≤ 9223372036854775807 then ((some (x6 ++ x3 : ByteArray)).bind fun y541 => ((r_zeros.f k (wrap64 (x4 - (x3.size : Int)))).bind fun t542 => (if y541.size + t542.size ≤ 9223372036854775807 then (some (y541 ++ t542)) else (none)))) else (none)) else (if 0 ≤ x4 then (if x4 ≤ (x3.size : Int) then ((some (x3.extract 0 (x4 : Int).toNat : ByteArray)).bind fun y544 => (if x6.size + y544.size ≤ 9223372036854775807 then ((some (x6 ++ y544 : ByteArray)).bind fun y545 => (if y545.size + 1 ≤ 9223372036854775807 then ((some (y545 ++ (⟨#[46]⟩ : ByteArray) : ByteArray)).bind fun y546 => ((some (x3.extract (x4 : Int).toNat x3.size : ByteArray)).bind fun y547 => (if y546.size + y547.size ≤ 9223372036854775807 then (some (y546 ++ y547)) else (none)))) else (none))) else (none))) else (none)) else (none))))
def r_Text.j2 : Nat → Int → ByteArray → Option (ByteArray)
 | 0, _, _ => none
 | k + 1, x4, x7 => if (wrap64 (x4 - 1)) < 0 then ((r_plain.f k (wrap64 (-(wrap64 (x4 - 1))))).bind fun t521 => (if (t521.size : Int) < 2 then (if 1 + t521.size ≤ 9223372036854775807 then ((some ((⟨#[48]⟩ : ByteArray) ++ t521 : ByteArray)).bind fun y522 => (if x7.size + 1 ≤ 9223372036854775807 then ((some (x7 ++ (⟨#[101]⟩ : ByteArray) : ByteArray)).bind fun y523 => (if y523.size + 1 ≤ 9223372036854775807 then ((some (y523 ++ (⟨#[45]⟩ : ByteArray) : ByteArray)).bind fun y524 => (if y524.size + y522.size ≤ 9223372036854775807 then (some (y524 ++ y522)) else (none))) else (none))) else (none))) else (none)) else (if x7.size + 1 ≤ 9223372036854775807 then ((some (x7 ++ (⟨#[101]⟩ : ByteArray) : ByteArray)).bind fun y526 => (if y526.size + 1 ≤ 9223372036854775807 then ((some (y526 ++ (⟨#[45]⟩ : ByteArray) : ByteArray)).bind fun y527 => (if y527.size + t521.size ≤ 9223372036854775807 then (some (y527 ++ t521)) else (none))) else (none))) else (none)))) else ((r_plain.f k (wrap64 (x4 - 1))).bind fun t529 => (if (t529.size : Int) < 2 then (if 1 + t529.size ≤ 9223372036854775807 then ((some ((⟨#[48]⟩ : ByteArray) ++ t529 : ByteArray)).bind fun y530 => (if x7.size + 1 ≤ 9223372036854775807 then ((some (x7 ++ (⟨#[101]⟩ : ByteArray) : ByteArray)).bind fun y531 => (if y531.size + 1 ≤ 9223372036854775807 then ((some (y531 ++ (⟨#[43]⟩ : ByteArray) : ByteArray)).bind fun y532 => (if y532.size + y530.size ≤ 9223372036854775807 then (some (y532 ++ y530)) else (none))) else (none))) else (none))) else (none)) else (if x7.size + 1 ≤ 9223372036854775807 then ((some (x7 ++ (⟨#[101]⟩ : ByteArray) : ByteArray)).bind fun y534 => (if y534.size + 1 ≤ 9223372036854775807 then ((some (y534 ++ (⟨#[43]⟩ : ByteArray) : ByteArray)).bind fun y535 => (if y535.size + t529.size ≤ 9223372036854775807 then (some (y535 ++ t529)) else (none))) else (none))) else (none))))
end
def r_Text.f (k : Nat) (a0 : Nat) : Option (ByteArray) := if (FloatKind.f64.format.order a0 a0 != some Ordering.eq) = true then (some (⟨#[78, 97, 78]⟩ : ByteArray)) else ((r_Digits.f k a0).bind fun bt512 => (if bt512.2.2 = true then (r_Text.j0 k a0 bt512.1 bt512.2.1 bt512.2.2 (⟨#[45]⟩ : ByteArray)) else (r_Text.j0 k a0 bt512.1 bt512.2.1 bt512.2.2 (⟨#[]⟩ : ByteArray))))
theorem r_Text.mono_l : ∀ k, (∀ y0 y1 y2 y3 y4, LeO (r_Text.j0 k y0 y1 y2 y3 y4) (r_Text.j0 (k + 1) y0 y1 y2 y3 y4)) ∧ (∀ y0 y1 y2 y3, LeO (r_Text.j1 k y0 y1 y2 y3) (r_Text.j1 (k + 1) y0 y1 y2 y3)) ∧ (∀ y0 y1, LeO (r_Text.j2 k y0 y1) (r_Text.j2 (k + 1) y0 y1))
 | 0 => ⟨fun _ _ _ _ _ r h => by simp [r_Text.j0] at h, fun _ _ _ _ r h => by simp [r_Text.j1] at h, fun _ _ r h => by simp [r_Text.j2] at h⟩
 | k + 1 => by
  obtain ⟨ih0, ih1, ih2⟩ := r_Text.mono_l k
  refine ⟨?_, ?_, ?_⟩ <;> intros <;> (first | unfold r_Text.j0 | unfold r_Text.j1 | unfold r_Text.j2) <;> repeat' (with_reducible first | apply ih0 | apply ih1 | apply ih2 | apply r_Digits.mono | apply r_plain.mono | apply r_zeros.mono | apply LeO.refl | apply LeO.none | apply LeO.ite | refine LeO.bind ?_ (fun _ => ?_))
theorem r_Text.mono : ∀ a0 k, LeO (r_Text.f k a0) (r_Text.f (k + 1) a0) := by
 intro a0 k
 obtain ⟨ih0, ih1, ih2⟩ := r_Text.mono_l k
 unfold r_Text.f
 repeat' (with_reducible first | apply ih0 | apply ih1 | apply ih2 | apply r_Digits.mono | apply r_plain.mono | apply r_zeros.mono | apply LeO.refl | apply LeO.none | apply LeO.ite | refine LeO.bind ?_ (fun _ => ?_))
set_option maxHeartbeats 8000000 in
theorem r_Text.calls (k : Nat) (a0 : Nat) (r : ByteArray) (w : World) (h : r_Text.f k a0 = some r) :
  Calls Tryd.prog 16 #[.float .f64 a0] w fun e w' => e = .returned (.string r) ∧ Below w.heap.size w w' := by
 have HB := am (Below.refl w.heap.size w)
 have H : (if (FloatKind.f64.format.order a0 a0 != some Ordering.eq) = true then (some (⟨#[78, 97, 78]⟩ : ByteArray)) else ((r_Digits.f k a0).bind fun bt512 => (if bt512.2.2 = true then (r_Text.j0 k a0 bt512.1 bt512.2.1 bt512.2.2 (⟨#[45]⟩ : ByteArray)) else (r_Text.j0 k a0 bt512.1 bt512.2.1 bt512.2.2 (⟨#[]⟩ : ByteArray))))) = some r := h
 clear h
 by_cases c2 : (FloatKind.f64.format.order a0 a0 != some Ordering.eq) = true
 ·
  rw [if_pos c2] at H
  have c2b0 : (FloatKind.f64.format.order a0 a0 != some Ordering.eq) = true := c2
  (try (have c2b1 : decide (FloatKind.f64.format.order a0 a0 = some Ordering.eq) = false := by simpa using c2))
  (try (have c2b2 : (FloatKind.f64.format.order a0 a0 == some Ordering.eq) = false := by simpa using c2))
  (try (have c2b3 : ¬ (FloatKind.f64.format.order a0 a0 = some Ordering.eq) := by simpa using c2))
  clear c2
  obtain rfl := Option.some.inj H
  have hext0 := Hd.ext54
  go_enter Tryd.func16, Tryd.ntmps16
  go_wp2
  repeat (go_quiet (fail); try go_wp2)
  go_ret
  exact ex (lk HB)
 rw [if_neg c2] at H
 have c2b0 : (FloatKind.f64.format.order a0 a0 != some Ordering.eq) = false := by simpa using c2
 (try (have c2b1 : decide (FloatKind.f64.format.order a0 a0 = some Ordering.eq) = true := by simpa using c2))
 (try (have c2b2 : (FloatKind.f64.format.order a0 a0 == some Ordering.eq) = true := by simpa using c2))
 clear c2
 replace H := bm H
 obtain ⟨⟨t512, t513, t514⟩, A30, H⟩ := H
 replace H : (if t514 = true then (r_Text.j0 k a0 t512 t513 t514 (⟨#[45]⟩ : ByteArray)) else (r_Text.j0 k a0 t512 t513 t514 (⟨#[]⟩ : ByteArray))) = some r := H
 have A3 := am A30
 clear A30
 have HC4 := am H
 clear H
 have hext0 := Hd.ext54
 go_enter Tryd.func16, Tryd.ntmps16
 go_upto_if 20 with (first | (go_at_call 14; (with_reducible refine (r_Digits.calls k a0 t512 t513 t514 _ A3.out).mono ?_); rintro e w5 ⟨rfl, hb⟩; replace HB := lb HB hb))
 repeat (go_quiet (first | (go_at_call 14; (with_reducible refine (r_Digits.calls k a0 t512 t513 t514 _ A3.out).mono ?_); rintro e w5 ⟨rfl, hb⟩; replace HB := lb HB hb)); go_upto_if 20 with (first | (go_at_call 14; (with_reducible refine (r_Digits.calls k a0 t512 t513 t514 _ A3.out).mono ?_); rintro e w5 ⟨rfl, hb⟩; replace HB := lb HB hb)))
 (try simp only [Act.put, List.setIfInBounds_toArray, List.set_cons_zero, List.set_cons_succ])
 go_cut [6] (fun v6 wc => ∃ (kq : Nat) (x6_3 : ByteArray), v6 = .string x6_3 ∧ Aside0 (r_Text.j0 kq a0 t512 t513 t514 x6_3 = some r) ∧ Aside0 (kq ≤ k) ∧ Aside0 (Below w.heap.size w wc))
 case first =>
  have H := HC4.out
  clear HC4
  by_cases c6 : t514 = true
  ·
   subst c6
   rw [if_pos rfl] at H
   have H' := am H
   clear H
   go_wp2
   repeat (go_quiet (fail); try go_wp2)
   go_meet
   case rel => exact ⟨_, ((⟨#[45]⟩ : ByteArray)), eqd, H', ol, ⟨lk HB⟩⟩
  replace c6 := Bool.eq_false_iff.mpr c6
  subst c6
  rw [if_neg (show ¬ (false = true) by decide)] at H
  have H' := am H
  clear H
  go_wp2
  repeat (go_quiet (fail); try go_wp2)
  go_meet
  case rel => exact ⟨_, ((⟨#[]⟩ : ByteArray)), eqd, H', ol, ⟨lk HB⟩⟩
 case rest =>
  clear HC4
  obtain ⟨kq, x6_3, rfl, HA, HJ3, HB⟩ := hcut
  cases kq with
  | zero => exact absurd HA.out (by simp [r_Text.j0])
  | succ kj3 =>
   have H := HA.out
   clear HA
   simp only [r_Text.j0] at H
   by_cases c7 : (Go.bits .andNot .u64 (a0 : Int) 9223372036854775808) = 9218868437227405312
   ·
    rw [if_pos c7] at H
    have c7b0 : ((Go.bits .andNot .u64 (a0 : Int) 9223372036854775808) == 9218868437227405312) = true := beq_iff_eq.mpr c7
    have c7b1 : ((Go.bits .andNot .u64 (a0 : Int) 9223372036854775808) != 9218868437227405312) = false := bne_eq_false_iff_eq.mpr c7
    clear c7
    by_cases c8 : t514 = true
    ·
     subst c8
     rw [if_pos rfl] at H
     obtain rfl := Option.some.inj H
     go_wp2
     repeat (go_quiet (fail); try go_wp2)
     go_ret
     exact ex (lk HB)
    replace c8 := Bool.eq_false_iff.mpr c8
    subst c8
    rw [if_neg (show ¬ (false = true) by decide)] at H
    obtain rfl := Option.some.inj H
    go_wp2
    repeat (go_quiet (fail); try go_wp2)
    go_ret
    exact ex (lk HB)
   rw [if_neg c7] at H
   have c7b0 : ((Go.bits .andNot .u64 (a0 : Int) 9223372036854775808) == 9218868437227405312) = false := beq_eq_false_iff_ne.mpr c7
   have c7b1 : ((Go.bits .andNot .u64 (a0 : Int) 9223372036854775808) != 9218868437227405312) = true := bne_iff_ne.mpr c7
   by_cases c9 : t512.toList = ([] : List UInt8)
   ·
    rw [if_pos c9] at H
    have c9b0 : (t512.toList == ([] : List UInt8)) = true := beq_iff_eq.mpr c9
    have c9b1 : (t512.toList != ([] : List UInt8)) = false := bne_eq_false_iff_eq.mpr c9
    clear c9
    by_cases c10 : x6_3.size + 1 ≤ 9223372036854775807
    ·
     rw [if_pos c10] at H
     have c10b0 := eq_true c10
     have c10b1 := dt c10
     obtain ⟨y515, hy515⟩ : ∃ y_ : ByteArray, y_ = (x6_3 ++ (⟨#[48]⟩ : ByteArray)) := ⟨_, rfl⟩
     replace H : (some y515) = some r := by first | (rw [hy515]; exact H) | exact H
     have Ny515 := am hy515
     clear hy515
     obtain rfl := Option.some.inj H
     obtain ⟨hcs11, hcs11'⟩ := sc Ny515
     go_wp2
     repeat (go_quiet (fail); try go_wp2)
     go_ret
     exact ex (lk HB)
    rw [if_neg c10] at H
    exact absurd H (by simp)
   rw [if_neg c9] at H
   have c9b0 : (t512.toList == ([] : List UInt8)) = false := beq_eq_false_iff_ne.mpr c9
   have c9b1 : (t512.toList != ([] : List UInt8)) = true := bne_iff_ne.mpr c9
   have HC12 := am H
   clear H
   go_upto_region 13 with (fail)
   repeat (go_quiet (fail); go_upto_region 13 with (fail))
   go_cut [32] (fun v32 wc => ∃ (kq : Nat) (x32_11 : Bool), v32 = .bool x32_11 ∧ Aside0 (r_Text.j1 kq t512 t513 x6_3 x32_11 = some r) ∧ Aside0 (kq ≤ kj3) ∧ Aside0 (Below w.heap.size w wc))
   case first =>
    have H := HC12.out
    clear HC12
    by_cases c13 : t513 < (-5)
    ·
     rw [if_pos c13] at H
     have c13b0 := dt c13
     clear c13
     (first | rw [c13b0] | (simp only [i64_w, i32_w]; rw [c13b0]) | skip)
     have H' := am H
     clear H
     go_wp2
     repeat (go_quiet (fail); try go_wp2)
     go_meet
     case rel => exact ⟨_, (true), eqd, H', ⟨by have := HJ3.out; first | omega | exact Nat.le_refl _⟩, ⟨lk HB⟩⟩
    rw [if_neg c13] at H
    have c13b0 := decide_eq_false c13
    clear c13
    (first | rw [c13b0] | (simp only [i64_w, i32_w]; rw [c13b0]) | skip)
    have H' := am H
    clear H
    go_wp2
    repeat (go_quiet (fail); try go_wp2)
    go_meet
    case rel => exact ⟨_, (decide (t513 > 21)), eqd, H', ⟨by have := HJ3.out; first | omega | exact Nat.le_refl _⟩, ⟨lk HB⟩⟩
   case rest =>
    clear HC12
    obtain ⟨kq, x32_11, rfl, HA, HJ11, HB⟩ := hcut
    cases kq with
    | zero => exact absurd HA.out (by simp [r_Text.j1])
    | succ kj11 =>
     have H := HA.out
     clear HA
     simp only [r_Text.j1] at H
     by_cases c14 : x32_11 = true
     ·
      subst c14
      rw [if_pos rfl] at H
      by_cases c15 : 0 ≤ 1
      ·
       rw [if_pos c15] at H
       have c15b0 := eq_true c15
       have c15b1 := dt c15
       clear c15
       by_cases c16 : 1 ≤ (t512.size : Int)
       ·
        rw [if_pos c16] at H
        have c16b0 := eq_true c16
        have c16b1 := dt c16
        clear c16
        obtain ⟨y516, Ny516, H⟩ := yb H
        by_cases c17 : x6_3.size + y516.size ≤ 9223372036854775807
        ·
         rw [if_pos c17] at H
         have c17b0 := eq_true c17
         have c17b1 := dt c17
         obtain ⟨y517, Ny517, H⟩ := yb H
         have HC18 := am H
         clear H
         have hcs19 := Hd.str_to (P := Tryd.prog) (k := .i64) Tryd.underlying9 (j := 1) (s := t512) (y := y516) oo oo Ny516.out
         obtain ⟨hcs20, hcs20'⟩ := sc Ny517
         go_upto_if 45 with (fail)
         repeat (go_quiet (fail); go_upto_if 45 with (fail))
         go_cut [7] (fun v7 wc => ∃ (kq : Nat) (x7_17 : ByteArray), v7 = .string x7_17 ∧ Aside0 (r_Text.j2 kq t513 x7_17 = some r) ∧ Aside0 (kq ≤ kj11) ∧ Aside0 (Below w.heap.size w wc))
         case first =>
          have H := HC18.out
          clear HC18
          by_cases c21 : (t512.size : Int) > 1
          ·
           rw [if_pos c21] at H
           have c21b0 : decide (1 < (t512.size : Int)) = true := dt c21
           have c21b1 : decide (1 < t512.size) = true := dt (by omega)
           clear c21
           (first | rw [c21b0] | (simp only [i64_w, i32_w]; rw [c21b0]) | skip)
           by_cases c22 : y517.size + 1 ≤ 9223372036854775807
           ·
            rw [if_pos c22] at H
            have c22b0 := eq_true c22
            have c22b1 := dt c22
            obtain ⟨y518, Ny518, H⟩ := yb H
            have c23b0 := eq_true (od : 1 ≤ (t512.size : Int))
            obtain ⟨y519, Ny519, H⟩ := yb H
            by_cases c24 : y518.size + y519.size ≤ 9223372036854775807
            ·
             rw [if_pos c24] at H
             have c24b0 := eq_true c24
             have c24b1 := dt c24
             obtain ⟨y520, hy520⟩ : ∃ y_ : ByteArray, y_ = (y518 ++ y519) := ⟨_, rfl⟩
             replace H : (r_Text.j2 kj11 t513 y520) = some r := by first | (rw [hy520]; exact H) | exact H
             have Ny520 := am hy520
             clear hy520
             have H' := am H
             clear H
             obtain ⟨hcs25, hcs25'⟩ := sc Ny518
             have hcs26 := Hd.str_from (P := Tryd.prog) (k := .i64) Tryd.underlying9 (i := 1) (s := t512) (y := y519) oo oo Ny519.out
             obtain ⟨hcs27, hcs27'⟩ := sc Ny520
             go_wp2
             repeat (go_quiet (fail); try go_wp2)
             go_meet
             case rel => exact ⟨_, (y520), eqd, H', ⟨by have := HJ3.out; have := HJ11.out; first | omega | exact Nat.le_refl _⟩, ⟨lk HB⟩⟩
            rw [if_neg c24] at H
            exact absurd H (by simp)
           rw [if_neg c22] at H
           exact absurd H (by simp)
          rw [if_neg c21] at H
          have c21b0 : decide (1 < (t512.size : Int)) = false := decide_eq_false c21
          have c21b1 : decide (1 < t512.size) = false := decide_eq_false (by omega)
          clear c21
          (first | rw [c21b0] | (simp only [i64_w, i32_w]; rw [c21b0]) | skip)
          have H' := am H
          clear H
          go_wp2
          repeat (go_quiet (fail); try go_wp2)
          go_meet
          case rel => exact ⟨_, (y517), eqd, H', ⟨by have := HJ3.out; have := HJ11.out; first | omega | exact Nat.le_refl _⟩, ⟨lk HB⟩⟩
         case rest =>
          clear HC18
          obtain ⟨kq, x7_17, rfl, HA, HJ17, HB⟩ := hcut
          cases kq with
          | zero => exact absurd HA.out (by simp [r_Text.j2])
          | succ kj17 =>
           have H := HA.out
           clear HA
           simp only [r_Text.j2] at H
           by_cases c28 : (wrap64 (t513 - 1)) < 0
           ·
            rw [if_pos c28] at H
            have c28b0 := dt c28
            clear c28
            replace H := bm H
            obtain ⟨t521, A290, H⟩ := H
            have A29 := am A290
            clear A290
            by_cases c30 : (t521.size : Int) < 2
            ·
             rw [if_pos c30] at H
             have c30b0 := dt c30
             have c30b1 : decide (t521.size < 2) = true := dt (by omega)
             clear c30
             by_cases c31 : 1 + t521.size ≤ 9223372036854775807
             ·
              rw [if_pos c31] at H
              have c31b0 := eq_true c31
              have c31b1 := dt c31
              obtain ⟨y522, Ny522, H⟩ := yb H
              by_cases c32 : x7_17.size + 1 ≤ 9223372036854775807
              ·
               rw [if_pos c32] at H
               have c32b0 := eq_true c32
               have c32b1 := dt c32
               obtain ⟨y523, Ny523, H⟩ := yb H
               by_cases c33 : y523.size + 1 ≤ 9223372036854775807
               ·
                rw [if_pos c33] at H
                have c33b0 := eq_true c33
                have c33b1 := dt c33
                obtain ⟨y524, Ny524, H⟩ := yb H
                by_cases c34 : y524.size + y522.size ≤ 9223372036854775807
                ·
                 rw [if_pos c34] at H
                 have c34b0 := eq_true c34
                 have c34b1 := dt c34
                 obtain ⟨y525, hy525⟩ : ∃ y_ : ByteArray, y_ = (y524 ++ y522) := ⟨_, rfl⟩
                 replace H : (some y525) = some r := by first | (rw [hy525]; exact H) | exact H
                 have Ny525 := am hy525
                 clear hy525
                 obtain rfl := Option.some.inj H
                 go_wp2_with (first | (go_at_call 63; (with_reducible refine (r_plain.calls kj17 (wrap64 (-(wrap64 (t513 - 1)))) t521 _ A29.out).mono ?_); rintro e w35 ⟨rfl, hb⟩; replace HB := lb HB hb; obtain ⟨hcs36, hcs36'⟩ := sc Ny522; obtain ⟨hcs37, hcs37'⟩ := sc Ny523; obtain ⟨hcs38, hcs38'⟩ := sc Ny524; obtain ⟨hcs39, hcs39'⟩ := sc Ny525))
                 repeat (go_quiet (first | (go_at_call 63; (with_reducible refine (r_plain.calls kj17 (wrap64 (-(wrap64 (t513 - 1)))) t521 _ A29.out).mono ?_); rintro e w35 ⟨rfl, hb⟩; replace HB := lb HB hb; obtain ⟨hcs36, hcs36'⟩ := sc Ny522; obtain ⟨hcs37, hcs37'⟩ := sc Ny523; obtain ⟨hcs38, hcs38'⟩ := sc Ny524; obtain ⟨hcs39, hcs39'⟩ := sc Ny525)); try go_wp2_with (first | (go_at_call 63; (with_reducible refine (r_plain.calls kj17 (wrap64 (-(wrap64 (t513 - 1)))) t521 _ A29.out).mono ?_); rintro e w35 ⟨rfl, hb⟩; replace HB := lb HB hb; obtain ⟨hcs36, hcs36'⟩ := sc Ny522; obtain ⟨hcs37, hcs37'⟩ := sc Ny523; obtain ⟨hcs38, hcs38'⟩ := sc Ny524; obtain ⟨hcs39, hcs39'⟩ := sc Ny525)))
                 go_ret
                 exact ex (lk HB)
                rw [if_neg c34] at H
                exact absurd H (by simp)
               rw [if_neg c33] at H
               exact absurd H (by simp)
              rw [if_neg c32] at H
              exact absurd H (by simp)
             rw [if_neg c31] at H
             exact absurd H (by simp)
            rw [if_neg c30] at H
            have c30b0 := decide_eq_false c30
            have c30b1 : decide (t521.size < 2) = false := decide_eq_false (by omega)
            clear c30
            by_cases c40 : x7_17.size + 1 ≤ 9223372036854775807
            ·
             rw [if_pos c40] at H
             have c40b0 := eq_true c40
             have c40b1 := dt c40
             obtain ⟨y526, Ny526, H⟩ := yb H
             by_cases c41 : y526.size + 1 ≤ 9223372036854775807
             ·
              rw [if_pos c41] at H
              have c41b0 := eq_true c41
              have c41b1 := dt c41
              obtain ⟨y527, Ny527, H⟩ := yb H
              by_cases c42 : y527.size + t521.size ≤ 9223372036854775807
              ·
               rw [if_pos c42] at H
               have c42b0 := eq_true c42
               have c42b1 := dt c42
               obtain ⟨y528, hy528⟩ : ∃ y_ : ByteArray, y_ = (y527 ++ t521) := ⟨_, rfl⟩
               replace H : (some y528) = some r := by first | (rw [hy528]; exact H) | exact H
               have Ny528 := am hy528
               clear hy528
               obtain rfl := Option.some.inj H
               go_wp2_with (first | (go_at_call 63; (with_reducible refine (r_plain.calls kj17 (wrap64 (-(wrap64 (t513 - 1)))) t521 _ A29.out).mono ?_); rintro e w43 ⟨rfl, hb⟩; replace HB := lb HB hb; obtain ⟨hcs44, hcs44'⟩ := sc Ny526; obtain ⟨hcs45, hcs45'⟩ := sc Ny527; obtain ⟨hcs46, hcs46'⟩ := sc Ny528))
               repeat (go_quiet (first | (go_at_call 63; (with_reducible refine (r_plain.calls kj17 (wrap64 (-(wrap64 (t513 - 1)))) t521 _ A29.out).mono ?_); rintro e w43 ⟨rfl, hb⟩; replace HB := lb HB hb; obtain ⟨hcs44, hcs44'⟩ := sc Ny526; obtain ⟨hcs45, hcs45'⟩ := sc Ny527; obtain ⟨hcs46, hcs46'⟩ := sc Ny528)); try go_wp2_with (first | (go_at_call 63; (with_reducible refine (r_plain.calls kj17 (wrap64 (-(wrap64 (t513 - 1)))) t521 _ A29.out).mono ?_); rintro e w43 ⟨rfl, hb⟩; replace HB := lb HB hb; obtain ⟨hcs44, hcs44'⟩ := sc Ny526; obtain ⟨hcs45, hcs45'⟩ := sc Ny527; obtain ⟨hcs46, hcs46'⟩ := sc Ny528)))
               go_ret
               exact ex (lk HB)
              rw [if_neg c42] at H
              exact absurd H (by simp)
             rw [if_neg c41] at H
             exact absurd H (by simp)
            rw [if_neg c40] at H
            exact absurd H (by simp)
           rw [if_neg c28] at H
           have c28b0 := decide_eq_false c28
           clear c28
           replace H := bm H
           obtain ⟨t529, A470, H⟩ := H
           have A47 := am A470
           clear A470
           by_cases c48 : (t529.size : Int) < 2
           ·
            rw [if_pos c48] at H
            have c48b0 := dt c48
            have c48b1 : decide (t529.size < 2) = true := dt (by omega)
            clear c48
            by_cases c49 : 1 + t529.size ≤ 9223372036854775807
            ·
             rw [if_pos c49] at H
             have c49b0 := eq_true c49
             have c49b1 := dt c49
             obtain ⟨y530, Ny530, H⟩ := yb H
             by_cases c50 : x7_17.size + 1 ≤ 9223372036854775807
             ·
              rw [if_pos c50] at H
              have c50b0 := eq_true c50
              have c50b1 := dt c50
              obtain ⟨y531, Ny531, H⟩ := yb H
              by_cases c51 : y531.size + 1 ≤ 9223372036854775807
              ·
               rw [if_pos c51] at H
               have c51b0 := eq_true c51
               have c51b1 := dt c51
               obtain ⟨y532, Ny532, H⟩ := yb H
               by_cases c52 : y532.size + y530.size ≤ 9223372036854775807
               ·
                rw [if_pos c52] at H
                have c52b0 := eq_true c52
                have c52b1 := dt c52
                obtain ⟨y533, hy533⟩ : ∃ y_ : ByteArray, y_ = (y532 ++ y530) := ⟨_, rfl⟩
                replace H : (some y533) = some r := by first | (rw [hy533]; exact H) | exact H
                have Ny533 := am hy533
                clear hy533
                obtain rfl := Option.some.inj H
                go_wp2_with (first | (go_at_call 63; (with_reducible refine (r_plain.calls kj17 (wrap64 (t513 - 1)) t529 _ A47.out).mono ?_); rintro e w53 ⟨rfl, hb⟩; replace HB := lb HB hb; obtain ⟨hcs54, hcs54'⟩ := sc Ny530; obtain ⟨hcs55, hcs55'⟩ := sc Ny531; obtain ⟨hcs56, hcs56'⟩ := sc Ny532; obtain ⟨hcs57, hcs57'⟩ := sc Ny533))
                repeat (go_quiet (first | (go_at_call 63; (with_reducible refine (r_plain.calls kj17 (wrap64 (t513 - 1)) t529 _ A47.out).mono ?_); rintro e w53 ⟨rfl, hb⟩; replace HB := lb HB hb; obtain ⟨hcs54, hcs54'⟩ := sc Ny530; obtain ⟨hcs55, hcs55'⟩ := sc Ny531; obtain ⟨hcs56, hcs56'⟩ := sc Ny532; obtain ⟨hcs57, hcs57'⟩ := sc Ny533)); try go_wp2_with (first | (go_at_call 63; (with_reducible refine (r_plain.calls kj17 (wrap64 (t513 - 1)) t529 _ A47.out).mono ?_); rintro e w53 ⟨rfl, hb⟩; replace HB := lb HB hb; obtain ⟨hcs54, hcs54'⟩ := sc Ny530; obtain ⟨hcs55, hcs55'⟩ := sc Ny531; obtain ⟨hcs56, hcs56'⟩ := sc Ny532; obtain ⟨hcs57, hcs57'⟩ := sc Ny533)))
                go_ret
                exact ex (lk HB)
               rw [if_neg c52] at H
               exact absurd H (by simp)
              rw [if_neg c51] at H
              exact absurd H (by simp)
             rw [if_neg c50] at H
             exact absurd H (by simp)
            rw [if_neg c49] at H
            exact absurd H (by simp)
           rw [if_neg c48] at H
           have c48b0 := decide_eq_false c48
           have c48b1 : decide (t529.size < 2) = false := decide_eq_false (by omega)
           clear c48
           by_cases c58 : x7_17.size + 1 ≤ 9223372036854775807
           ·
            rw [if_pos c58] at H
            have c58b0 := eq_true c58
            have c58b1 := dt c58
            obtain ⟨y534, Ny534, H⟩ := yb H
            by_cases c59 : y534.size + 1 ≤ 9223372036854775807
            ·
             rw [if_pos c59] at H
             have c59b0 := eq_true c59
             have c59b1 := dt c59
             obtain ⟨y535, Ny535, H⟩ := yb H
             by_cases c60 : y535.size + t529.size ≤ 9223372036854775807
             ·
              rw [if_pos c60] at H
              have c60b0 := eq_true c60
              have c60b1 := dt c60
              obtain ⟨y536, hy536⟩ : ∃ y_ : ByteArray, y_ = (y535 ++ t529) := ⟨_, rfl⟩
              replace H : (some y536) = some r := by first | (rw [hy536]; exact H) | exact H
              have Ny536 := am hy536
              clear hy536
              obtain rfl := Option.some.inj H
              go_wp2_with (first | (go_at_call 63; (with_reducible refine (r_plain.calls kj17 (wrap64 (t513 - 1)) t529 _ A47.out).mono ?_); rintro e w61 ⟨rfl, hb⟩; replace HB := lb HB hb; obtain ⟨hcs62, hcs62'⟩ := sc Ny534; obtain ⟨hcs63, hcs63'⟩ := sc Ny535; obtain ⟨hcs64, hcs64'⟩ := sc Ny536))
              repeat (go_quiet (first | (go_at_call 63; (with_reducible refine (r_plain.calls kj17 (wrap64 (t513 - 1)) t529 _ A47.out).mono ?_); rintro e w61 ⟨rfl, hb⟩; replace HB := lb HB hb; obtain ⟨hcs62, hcs62'⟩ := sc Ny534; obtain ⟨hcs63, hcs63'⟩ := sc Ny535; obtain ⟨hcs64, hcs64'⟩ := sc Ny536)); try go_wp2_with (first | (go_at_call 63; (with_reducible refine (r_plain.calls kj17 (wrap64 (t513 - 1)) t529 _ A47.out).mono ?_); rintro e w61 ⟨rfl, hb⟩; replace HB := lb HB hb; obtain ⟨hcs62, hcs62'⟩ := sc Ny534; obtain ⟨hcs63, hcs63'⟩ := sc Ny535; obtain ⟨hcs64, hcs64'⟩ := sc Ny536)))
              go_ret
              exact ex (lk HB)
             rw [if_neg c60] at H
             exact absurd H (by simp)
            rw [if_neg c59] at H
            exact absurd H (by simp)
           rw [if_neg c58] at H
           exact absurd H (by simp)
        rw [if_neg c17] at H
        exact absurd H (by simp)
       rw [if_neg c16] at H
       exact absurd H (by simp)
      rw [if_neg c15] at H
      exact absurd H (by simp)
     replace c14 := Bool.eq_false_iff.mpr c14
     subst c14
     rw [if_neg (show ¬ (false = true) by decide)] at H
     by_cases c65 : t513 ≤ 0
     ·
      rw [if_pos c65] at H
      have c65b0 := dt c65
      clear c65
      by_cases c66 : x6_3.size + 2 ≤ 9223372036854775807
      ·
       rw [if_pos c66] at H
       have c66b0 := eq_true c66
       have c66b1 := dt c66
       obtain ⟨y537, Ny537, H⟩ := yb H
       replace H := bm H
       obtain ⟨t538, A670, H⟩ := H
       have A67 := am A670
       clear A670
       by_cases c68 : y537.size + t538.size ≤ 9223372036854775807
       ·
        rw [if_pos c68] at H
        have c68b0 := eq_true c68
        have c68b1 := dt c68
        obtain ⟨y539, Ny539, H⟩ := yb H
        by_cases c69 : y539.size + t512.size ≤ 9223372036854775807
        ·
         rw [if_pos c69] at H
         have c69b0 := eq_true c69
         have c69b1 := dt c69
         obtain ⟨y540, hy540⟩ : ∃ y_ : ByteArray, y_ = (y539 ++ t512) := ⟨_, rfl⟩
         replace H : (some y540) = some r := by first | (rw [hy540]; exact H) | exact H
         have Ny540 := am hy540
         clear hy540
         obtain rfl := Option.some.inj H
         obtain ⟨hcs70, hcs70'⟩ := sc Ny537
         go_wp2_with (first | (go_at_call 64; (with_reducible refine (r_zeros.calls kj11 (wrap64 (-t513)) t538 _ A67.out).mono ?_); rintro e w' ⟨rfl, ⟨nd, rfl⟩⟩; (try first | exact ⟨rfl, _, World.drewN_drewN _ _ _⟩ | exact ⟨rfl, _, Eq.trans (World.drewN_drewN _ _ _) (congrArg (World.drewN _) (Nat.add_assoc _ _ _))⟩); obtain ⟨hcs71, hcs71'⟩ := sc Ny539; obtain ⟨hcs72, hcs72'⟩ := sc Ny540))
         repeat (go_quiet (first | (go_at_call 64; (with_reducible refine (r_zeros.calls kj11 (wrap64 (-t513)) t538 _ A67.out).mono ?_); rintro e w' ⟨rfl, ⟨nd, rfl⟩⟩; (try first | exact ⟨rfl, _, World.drewN_drewN _ _ _⟩ | exact ⟨rfl, _, Eq.trans (World.drewN_drewN _ _ _) (congrArg (World.drewN _) (Nat.add_assoc _ _ _))⟩); obtain ⟨hcs71, hcs71'⟩ := sc Ny539; obtain ⟨hcs72, hcs72'⟩ := sc Ny540)); try go_wp2_with (first | (go_at_call 64; (with_reducible refine (r_zeros.calls kj11 (wrap64 (-t513)) t538 _ A67.out).mono ?_); rintro e w' ⟨rfl, ⟨nd, rfl⟩⟩; (try first | exact ⟨rfl, _, World.drewN_drewN _ _ _⟩ | exact ⟨rfl, _, Eq.trans (World.drewN_drewN _ _ _) (congrArg (World.drewN _) (Nat.add_assoc _ _ _))⟩); obtain ⟨hcs71, hcs71'⟩ := sc Ny539; obtain ⟨hcs72, hcs72'⟩ := sc Ny540)))
         go_ret
         exact ex (lk HB)
        rw [if_neg c69] at H
        exact absurd H (by simp)
       rw [if_neg c68] at H
       exact absurd H (by simp)
      rw [if_neg c66] at H
      exact absurd H (by simp)
     rw [if_neg c65] at H
     have c65b0 := decide_eq_false c65
     clear c65
     by_cases c73 : t513 ≥ (t512.size : Int)
     ·
      rw [if_pos c73] at H
      have c73b0 : decide ((t512.size : Int) ≤ t513) = true := dt c73
      clear c73
      by_cases c74 : x6_3.size + t512.size ≤ 9223372036854775807
      ·
       rw [if_pos c74] at H
       have c74b0 := eq_true c74
       have c74b1 := dt c74
       obtain ⟨y541, Ny541, H⟩ := yb H
       replace H := bm H
       obtain ⟨t542, A750, H⟩ := H
       have A75 := am A750
       clear A750
       by_cases c76 : y541.size + t542.size ≤ 9223372036854775807
       ·
        rw [if_pos c76] at H
        have c76b0 := eq_true c76
        have c76b1 := dt c76
        obtain ⟨y543, hy543⟩ : ∃ y_ : ByteArray, y_ = (y541 ++ t542) := ⟨_, rfl⟩
        replace H : (some y543) = some r := by first | (rw [hy543]; exact H) | exact H
        have Ny543 := am hy543
        clear hy543
        obtain rfl := Option.some.inj H
        obtain ⟨hcs77, hcs77'⟩ := sc Ny541
        go_wp2_with (first | (go_at_call 64; (with_reducible refine (r_zeros.calls kj11 (wrap64 (t513 - (t512.size : Int))) t542 _ A75.out).mono ?_); rintro e w' ⟨rfl, ⟨nd, rfl⟩⟩; (try first | exact ⟨rfl, _, World.drewN_drewN _ _ _⟩ | exact ⟨rfl, _, Eq.trans (World.drewN_drewN _ _ _) (congrArg (World.drewN _) (Nat.add_assoc _ _ _))⟩); obtain ⟨hcs78, hcs78'⟩ := sc Ny543))
        repeat (go_quiet (first | (go_at_call 64; (with_reducible refine (r_zeros.calls kj11 (wrap64 (t513 - (t512.size : Int))) t542 _ A75.out).mono ?_); rintro e w' ⟨rfl, ⟨nd, rfl⟩⟩; (try first | exact ⟨rfl, _, World.drewN_drewN _ _ _⟩ | exact ⟨rfl, _, Eq.trans (World.drewN_drewN _ _ _) (congrArg (World.drewN _) (Nat.add_assoc _ _ _))⟩); obtain ⟨hcs78, hcs78'⟩ := sc Ny543)); try go_wp2_with (first | (go_at_call 64; (with_reducible refine (r_zeros.calls kj11 (wrap64 (t513 - (t512.size : Int))) t542 _ A75.out).mono ?_); rintro e w' ⟨rfl, ⟨nd, rfl⟩⟩; (try first | exact ⟨rfl, _, World.drewN_drewN _ _ _⟩ | exact ⟨rfl, _, Eq.trans (World.drewN_drewN _ _ _) (congrArg (World.drewN _) (Nat.add_assoc _ _ _))⟩); obtain ⟨hcs78, hcs78'⟩ := sc Ny543)))
        go_ret
        exact ex (lk HB)
       rw [if_neg c76] at H
       exact absurd H (by simp)
      rw [if_neg c74] at H
      exact absurd H (by simp)
     rw [if_neg c73] at H
     have c73b0 : decide ((t512.size : Int) ≤ t513) = false := decide_eq_false c73
     clear c73
     by_cases c79 : 0 ≤ t513
     ·
      rw [if_pos c79] at H
      have c79b0 := eq_true c79
      have c79b1 := dt c79
      clear c79
      by_cases c80 : t513 ≤ (t512.size : Int)
      ·
       rw [if_pos c80] at H
       have c80b0 := eq_true c80
       have c80b1 := dt c80
       clear c80
       obtain ⟨y544, Ny544, H⟩ := yb H
       by_cases c81 : x6_3.size + y544.size ≤ 9223372036854775807
       ·
        rw [if_pos c81] at H
        have c81b0 := eq_true c81
        have c81b1 := dt c81
        obtain ⟨y545, Ny545, H⟩ := yb H
        by_cases c82 : y545.size + 1 ≤ 9223372036854775807
        ·
         rw [if_pos c82] at H
         have c82b0 := eq_true c82
         have c82b1 := dt c82
         obtain ⟨y546, Ny546, H⟩ := yb H
         have c83b0 := eq_true (od : 0 ≤ t513)
         have c84b0 := eq_true (od : t513 ≤ (t512.size : Int))
         obtain ⟨y547, Ny547, H⟩ := yb H
         by_cases c85 : y546.size + y547.size ≤ 9223372036854775807
         ·
          rw [if_pos c85] at H
          have c85b0 := eq_true c85
          have c85b1 := dt c85
          obtain ⟨y548, hy548⟩ : ∃ y_ : ByteArray, y_ = (y546 ++ y547) := ⟨_, rfl⟩
          replace H : (some y548) = some r := by first | (rw [hy548]; exact H) | exact H
          have Ny548 := am hy548
          clear hy548
          obtain rfl := Option.some.inj H
          have hcs86 := Hd.str_to (P := Tryd.prog) (k := .i64) Tryd.underlying9 (j := t513) (s := t512) (y := y544) oo oo Ny544.out
          obtain ⟨hcs87, hcs87'⟩ := sc Ny545
          obtain ⟨hcs88, hcs88'⟩ := sc Ny546
          have hcs89 := Hd.str_from (P := Tryd.prog) (k := .i64) Tryd.underlying9 (i := t513) (s := t512) (y := y547) oo oo Ny547.out
          obtain ⟨hcs90, hcs90'⟩ := sc Ny548
          go_wp2
          repeat (go_quiet (fail); try go_wp2)
          go_ret
          exact ex (lk HB)
         rw [if_neg c85] at H
         exact absurd H (by simp)
        rw [if_neg c82] at H
        exact absurd H (by simp)
       rw [if_neg c81] at H
       exact absurd H (by simp)
      rw [if_neg c80] at H
      exact absurd H (by simp)
     rw [if_neg c79] at H
     exact absurd H (by simp)
end Go.Proofs.YtjlnfnfdibfniaaDoor.F
namespace Go.Proofs.YtjlnfnfdibfniaaDoor.Hd
def decF : Nat → Nat → List UInt8
 | 0, _ => []
 | f + 1, n => (if n < 10 then [] else decF f (n / 10)) ++ [UInt8.ofNat (48 + n % 10)]
def dec (n : Nat) : List UInt8 := decF 20 n
def dec0 (n : Nat) : List UInt8 := if n = 0 then [] else dec n
theorem decF_stable : ∀ (f n : Nat), n < 10 ^ (f + 1) → decF (f + 2) n = decF (f + 1) n
 | 0, n, h => by
  have : n < 10 := by simpa using h
  simp [decF, this]
 | f + 1, n, h => by
  by_cases hn : n < 10
  ·
   simp [decF, hn]
  ·
   have hd : n / 10 < 10 ^ (f + 1) := by
    rw [Nat.pow_succ] at h
    omega
   have := decF_stable f (n / 10) hd
   show (if n < 10 then [] else decF (f + 2) (n / 10)) ++ _ = (if n < 10 then [] else decF (f + 1) (n / 10)) ++ _
   rw [this]
theorem dec_step (n : Nat) (h : n < 10 ^ 20) : dec n = dec0 (n / 10) ++ [UInt8.ofNat (48 + n % 10)] := by
 unfold dec dec0
 by_cases hn : n < 10
 ·
  have : n / 10 = 0 := by omega
  simp [decF, hn, this]
 ·
  have h0 : ¬ n / 10 = 0 := by omega
  rw [if_neg h0]
  have hs : decF 20 (n / 10) = decF 19 (n / 10) := decF_stable 18 (n / 10) (by omega)
  unfold dec
  rw [hs, decF, if_neg hn]
theorem decF_length : ∀ f n, (decF f n).length ≤ f
 | 0, _ => by simp [decF]
 | f + 1, n => by
  have := decF_length f (n / 10)
  rw [decF]
  split <;> simp <;> omega
theorem dec_length (n : Nat) : (dec n).length ≤ 20 := decF_length 20 n
def intText (n : Int) : ByteArray := if n < 0 then ⟨(45 :: dec (-n).toNat).toArray⟩ else ⟨(dec n.toNat).toArray⟩
structure IntLoop (U p m : Nat) (first : Bool) (acc : List UInt8) (arr : Array Value) : Prop where
 hp : p ≤ 20
 hacc : acc.length = 20 - p
 hsz : arr.size = 20
 hcell : ∀ i (h : i < acc.length), arr[p + i]? = some (.int .u8 (acc[i].toNat : Int))
 hold : ∀ i, i < 20 → ∃ v, arr[i]? = some (.int .u8 v)
 hm : m < 10 ^ p
 hU : U < 10 ^ 20
 hrel : (first = true ∧ p = 20 ∧ m = U ∧ acc = []) ∨ (first = false ∧ dec U = dec0 m ++ acc)
theorem IntLoop.start (U : Nat) (hU : U < 10 ^ 20) (arr : Array Value) (h : arr.size = 20) (ho : ∀ i, i < 20 → ∃ v, arr[i]? = some (.int .u8 v)) : IntLoop U 20 U true [] arr :=
 ⟨Nat.le_refl _, rfl, h, fun i hi => by simp at hi, ho, hU, hU, .inl ⟨rfl, rfl, rfl, rfl⟩⟩
theorem IntLoop.round {U q m : Nat} {first : Bool} {acc : List UInt8} {arr : Array Value} (h : IntLoop U (q + 1) m first acc arr) (hgo : first = true ∨ 0 < m) :
  IntLoop U q (m / 10) false (UInt8.ofNat (48 + m % 10) :: acc) (arr.setIfInBounds q (.int .u8 (48 + m % 10 : Nat))) := by
 have hb : (UInt8.ofNat (48 + m % 10)).toNat = 48 + m % 10 := by
  rw [UInt8.toNat_ofNat']; omega
 have hq := h.hp
 refine ⟨by omega, by have := h.hacc; simp; omega, by simpa using h.hsz, ?_, ?_, ?_, h.hU, .inr ⟨rfl, ?_⟩⟩
 ·
  intro i hi
  cases i with
  | zero =>
   simp only [Nat.add_zero, List.getElem_cons_zero, hb]
   rw [Array.getElem?_setIfInBounds_self_of_lt (by rw [h.hsz]; omega)]
  | succ i =>
   have hi' : i < acc.length := by simpa using hi
   have := h.hcell i hi'
   rw [Array.getElem?_setIfInBounds_ne (by omega)]
   simp only [List.getElem_cons_succ]
   rw [show q + (i + 1) = q + 1 + i from by omega]
   exact this
 ·
  intro i hi
  by_cases e : q = i
  ·
   subst e
   exact ⟨_, by rw [Array.getElem?_setIfInBounds_self_of_lt (by rw [h.hsz]; omega)]⟩
  ·
   rw [Array.getElem?_setIfInBounds_ne e]
   exact h.hold i hi
 ·
  have := h.hm
  rw [Nat.pow_succ] at this
  omega
 ·
  have hm20 : m < 10 ^ 20 := Nat.lt_of_lt_of_le h.hm (Nat.pow_le_pow_right (by omega) h.hp)
  rcases h.hrel with ⟨_, _, rfl, rfl⟩ | ⟨hf, hd⟩
  ·
   exact dec_step m hm20
  ·
   have hm0 : m ≠ 0 := by
    rcases hgo with hg | hg
    ·
     rw [hf] at hg; cases hg
    ·
     omega
   rw [hd, show dec0 m = dec m from if_neg hm0, dec_step m hm20, List.append_assoc]
   rfl
theorem IntLoop.exit {U p : Nat} {acc : List UInt8} {arr : Array Value} (h : IntLoop U p 0 false acc arr) : acc = dec U := by
 rcases h.hrel with ⟨hf, _⟩ | ⟨_, hd⟩
 ·
  cases hf
 ·
  rw [hd]; simp [dec0]
theorem dec_ne (n : Nat) : 1 ≤ (dec n).length := by
 unfold dec
 rw [decF]
 simp
theorem IntLoop.lt {U p : Nat} {arr : Array Value} (h : IntLoop U p 0 false (dec U) arr) : p < 20 := by
 have := h.hacc
 have := dec_ne U
 omega
theorem IntLoop.pos {U p m : Nat} {first : Bool} {acc : List UInt8} {arr : Array Value} (h : IntLoop U p m first acc arr) (hgo : first = true ∨ 0 < m) : 1 ≤ p := by
 rcases Nat.eq_zero_or_pos p with rfl | hp
 ·
  have := h.hm
  rcases h.hrel with ⟨_, hp, _⟩ | ⟨hf, _⟩
  ·
   omega
  ·
   rcases hgo with hg | hg
   ·
    rw [hf] at hg; cases hg
   ·
    simp at this; omega
 ·
  exact hp
end Go.Proofs.YtjlnfnfdibfniaaDoor.Hd
namespace Go.Proofs.YtjlnfnfdibfniaaDoor.Hd
open Go.RowKit Go.Proofs.YW.PWords Go.Proofs.YW.PLast Go.Proofs.YW.PMore
set_option linter.unusedVariables false
set_option linter.unusedSimpArgs false
def num_Digits_1.f (k : Nat) (l0 l1 l2 : List Int) (a3 : Bool) : Option Bool :=
 (F.num_nat_plus.f k l0 l1).bind fun p => (F.num_nat_against.f k p l2).bind fun c => some (if c > 0 then true else if (c == 0) = true then a3 else false)
theorem num_Digits_1.mono : ∀ a0 a1 a2 a3 k, LeO (num_Digits_1.f k a0 a1 a2 a3) (num_Digits_1.f (k + 1) a0 a1 a2 a3) := by
 intro a0 a1 a2 a3 k r h
 unfold num_Digits_1.f at h ⊢
 obtain ⟨p, hp, h⟩ := Option.bind_eq_some_iff.mp h
 obtain ⟨c, hc, h⟩ := Option.bind_eq_some_iff.mp h
 rw [F.num_nat_plus.mono _ _ _ _ hp, Option.bind_some, F.num_nat_against.mono _ _ _ _ hc, Option.bind_some, h]
def T47 : Bool × List (List Nat × List Nat) := (true, [([], []), ([], []), ([0, 1], [0, 1]), ([], []), ([2, 3, 2], [2, 3]), ([4, 4, 0, 1, 2, 3, 4], [4])])
def B47 : List Nat := [0, 0, 3, 0, 15, 31]
theorem tab47 : rtab .any (opsOf Tryd.f47 1) = T47 := by kernel_rfl
theorem bits47 : waitsOk T47.2 B47 = true := by kernel_rfl
set_option maxRecDepth 100000 in
theorem num_Digits_1.calls (k : Nat) (g0 g1 g2 g3 : Nat) (A0 : Option Addr) (c0 : Nat) (l0 : List Int) (A1 : Option Addr) (c1 : Nat) (l1 : List Int) (A2 : Option Addr) (c2 : Nat) (l2 : List Int) (a3 : Bool) (r : Bool) (w : World)
  (hb0 : w.heap[g0]? = some (.cells #[.slice A0 l0.length c0] 56 (0, 0))) (hb1 : w.heap[g1]? = some (.cells #[.slice A1 l1.length c1] 56 (0, 0))) (hb2 : w.heap[g2]? = some (.cells #[.slice A2 l2.length c2] 56 (0, 0))) (hb3 : w.heap[g3]? = some (.cells #[.bool a3] 4 (0, 0)))
  (hr0 : Kd.C (Kd.int .u32) w A0 l0.length l0) (hc0 : l0.length ≤ c0) (hr1 : Kd.C (Kd.int .u32) w A1 l1.length l1) (hc1 : l1.length ≤ c1) (hr2 : Kd.C (Kd.int .u32) w A2 l2.length l2) (hc2 : l2.length ≤ c2) (h : num_Digits_1.f k l0 l1 l2 a3 = some r) :
  Calls Tryd.prog 47 #[.pointer (some ⟨g0, 0, none⟩), .pointer (some ⟨g1, 0, none⟩), .pointer (some ⟨g2, 0, none⟩), .pointer (some ⟨g3, 0, none⟩)] w fun e w' => e = .returned (.bool r) ∧ Below w.heap.size w w' := by
 unfold num_Digits_1.f at h
 obtain ⟨p, hp, h⟩ := Option.bind_eq_some_iff.mp h
 obtain ⟨c, hc, h⟩ := Option.bind_eq_some_iff.mp h
 have hp := Aside0.mk hp
 have hc := Aside0.mk hc
 have hz := Aside0.mk (Option.some.inj h)
 clear h
 have HB := Aside0.mk (Below.refl w.heap.size w)
 have HR0 := Aside0.mk hr0
 have HR1 := Aside0.mk hr1
 have HR2 := Aside0.mk hr2
 have BK0 := Aside0.mk hb0
 have BK1 := Aside0.mk hb1
 have BK2 := Aside0.mk hb2
 have BK3 := Aside0.mk hb3
 clear hr0 hr1 hr2 hb0 hb1 hb2 hb3
 go_enter Tryd.func47, Tryd.ntmps47
 go_wp2
 refine start_ (n := 6) (S := fun w' => w'.cell? ⟨g0, 0, none⟩ = some (.slice A0 l0.length c0) ∧ w'.cell? ⟨g1, 0, none⟩ = some (.slice A1 l1.length c1) ∧ w'.cell? ⟨g2, 0, none⟩ = some (.slice A2 l2.length c2)) (ds := []) #[false, false, false, false, false, false] (by kernel_rfl) rfl rfl ⟨(blk_cell BK0.out 0).trans rfl, (blk_cell BK1.out 0).trans rfl, (blk_cell BK2.out 0).trans rfl⟩ (fun hHeld => ?_); refine with_tabW tab47 bits47 (fun HT_ HW_ => ?_)
 have HB := Aside0.mk (below_drew1 HB.out)
 have HR0 := Aside0.mk (Kd.C_drew HR0.out)
 have HR1 := Aside0.mk (Kd.C_drew HR1.out)
 have HR2 := Aside0.mk (Kd.C_drew HR2.out)
 have BK0 := Aside0.mk (blk_drew BK0.out)
 have BK1 := Aside0.mk (blk_drew BK1.out)
 have BK2 := Aside0.mk (blk_drew BK2.out)
 have BK3 := Aside0.mk (blk_drew BK3.out)
 generalize w.drew = w1 at HR0 HR1 HR2 BK0 BK1 BK2 BK3 HB hHeld ⊢
 refine take_ (i := 0) (N := some 6) (v := ?_) (a' := ?_) #[true, false, false, false, false, false] rfl rfl (take_ofW HT_.out HW_.out (by kernel_rfl)) (fun _ _ _ h => h) (Or.inl ⟨by rfl, ?_⟩) hHeld ?_ ?_
 rotate_left
 ·
  rintro w' ⟨s0, s1, s2⟩
  go_simp
  with_reducible rfl
 rotate_left
 ·
  simp only [Act.put, List.setIfInBounds_toArray, List.set_cons_zero, List.set_cons_succ, i64_w, i32_w]
  rfl
 refine take_ (i := 1) (N := some 7) (v := ?_) (a' := ?_) #[true, true, false, false, false, false] rfl rfl (take_ofW HT_.out HW_.out (by kernel_rfl)) (fun _ _ _ h => h) (Or.inl ⟨by rfl, ?_⟩) hHeld ?_ ?_
 rotate_left
 ·
  rintro w' ⟨s0, s1, s2⟩
  go_simp
  with_reducible rfl
 rotate_left
 ·
  simp only [Act.put, List.setIfInBounds_toArray, List.set_cons_zero, List.set_cons_succ, i64_w, i32_w]
  rfl
 refine take_ (i := 3) (N := some 9) (v := ?_) (a' := ?_) #[true, true, false, true, false, false] rfl rfl (take_ofW HT_.out HW_.out (by kernel_rfl)) (fun _ _ _ h => h) (Or.inl ⟨by rfl, ?_⟩) hHeld ?_ ?_
 rotate_left
 ·
  rintro w' ⟨s0, s1, s2⟩
  go_simp
  with_reducible rfl
 rotate_left
 ·
  simp only [Act.put, List.setIfInBounds_toArray, List.set_cons_zero, List.set_cons_succ, i64_w, i32_w]
  rfl
 refine one_ (i := 2) (N := some 8) #[true, true, true, true, false, false] rfl rfl (one_of HT_.out (by kernel_rfl)) (by decide) (fun K hK => ?_)
 refine goes_ Tryd.func48 (by kernel_rfl) rfl #[.slice A0 l0.length c0, .slice A1 l1.length c1] (by rfl) rfl rfl (by (try simp only [List.map_toArray, List.map_cons, List.map_nil]); rfl) ?_
 refine (F.num_nat_plus.calls k A0 c0 l0 A1 c1 l1 p _ HR0.out hc0 HR1.out hc1 hp.out).mono ?_
 rintro e w2 ⟨v0, rfl, ho0, hb⟩
 refine ⟨_, rfl, ?_⟩
 obtain ⟨Ap, cp, rfl⟩ := Kd.V_slice ho0
 have HR2 := Aside0.mk (Kd.C_below HR2.out hb)
 have BK0 := Aside0.mk (blk_below BK0.out hb)
 have BK1 := Aside0.mk (blk_below BK1.out hb)
 have BK2 := Aside0.mk (blk_below BK2.out hb)
 have BK3 := Aside0.mk (blk_below BK3.out hb)
 have HB := Aside0.mk (below_step HB.out hb)
 refine hK.out _ _ ⟨(blk_cell BK0.out 0).trans rfl, (blk_cell BK1.out 0).trans rfl, (blk_cell BK2.out 0).trans rfl⟩ (fun hHeld => ?_)
 clear hK K
 refine norm_ (a' := ?_) ?_ ?_
 rotate_left
 ·
  show Act.put _ (some 8) _ = _
  simp only [Act.put, List.setIfInBounds_toArray, List.set_cons_zero, List.set_cons_succ, i64_w, i32_w]
  rfl
 refine one_ (i := 4) (N := some 10) #[true, true, true, true, true, false] rfl rfl (one_of HT_.out (by kernel_rfl)) (by decide) (fun K hK => ?_)
 refine goes_ Tryd.func49 (by kernel_rfl) rfl #[.slice Ap p.length cp, .slice A2 l2.length c2] (by rfl) rfl rfl (by (try simp only [List.map_toArray, List.map_cons, List.map_nil]); rfl) ?_
 refine (F.num_nat_against.calls k Ap cp p A2 c2 l2 c _ (Kd.V_reads' ho0).2.2 (Kd.V_reads' ho0).2.1 HR2.out hc2 hc.out).mono ?_
 rintro e w' ⟨rfl, ⟨nd, rfl⟩⟩
 refine ⟨_, rfl, ?_⟩
 refine hK.out _ _ ⟨(blk_cell BK0.out 0).trans rfl, (blk_cell BK1.out 0).trans rfl, (blk_cell BK2.out 0).trans rfl⟩ (fun hHeld => ?_)
 clear hK K
 refine norm_ (a' := ?_) ?_ ?_
 rotate_left
 ·
  show Act.put _ (some 10) _ = _
  simp only [Act.put, List.setIfInBounds_toArray, List.set_cons_zero, List.set_cons_succ, i64_w, i32_w]
  rfl
 refine pure_ (i := 5) (N := some 5) (v := ?_) (a' := ?_) #[true, true, true, true, true, true] rfl rfl (any_of HT_.out (by kernel_rfl)) (fun _ _ _ h => h) (Or.inl ⟨by rfl, ?_⟩) ?_ ?_
 rotate_left
 ·
  intro w'
  go_simp
  with_reducible rfl
 rotate_left
 ·
  simp only [Act.put, List.setIfInBounds_toArray, List.set_cons_zero, List.set_cons_succ, i64_w, i32_w]
  rfl
 refine done_ (done_of HT_.out (by kernel_rfl)) ?_
 have hcz : w2.cell? ⟨g3, 0, none⟩ = some (.bool a3) := (blk_cell BK3.out 0).trans rfl
 have hfz := blk_frozen BK3.out 0
 have hz := hz.out
 by_cases hc0 : c > 0
 ·
  rw [if_pos hc0] at hz
  subst hz
  have hb0 : decide (0 < c) = true := decide_eq_true hc0
  have hb1 : decide (c > 0) = true := decide_eq_true hc0
  go_wp2
  go_ret
  exact ⟨rfl, by repeat (first | exact HB.out | apply pw_below_drewN | apply below_drew1)⟩
 ·
  rw [if_neg hc0] at hz
  have hb0 : decide (0 < c) = false := decide_eq_false hc0
  have hb1 : decide (c > 0) = false := decide_eq_false hc0
  cases hce : (c == 0) with
  | true =>
   rw [hce, if_pos rfl] at hz
   subst hz
   go_wp2
   go_ret
   exact ⟨rfl, by repeat (first | exact HB.out | apply pw_below_drewN | apply below_drew1)⟩
  | false =>
   rw [hce, if_neg (by decide)] at hz
   subst hz
   go_wp2
   go_ret
   exact ⟨rfl, by repeat (first | exact HB.out | apply pw_below_drewN | apply below_drew1)⟩
end Go.Proofs.YtjlnfnfdibfniaaDoor.Hd
namespace Go.Proofs.YtjlnfnfdibfniaaDoor.Hd
open Go.RowKit Go.Proofs.YW.PWords Go.Proofs.YW.PLast
def BRow (w : World) (B : Nat) (bs : List UInt8) : Prop :=
 ∃ C : Array Value, w.heap[B]? = some (.cells C 5 (C.size, C.size + 1)) ∧ bs.length ≤ C.size ∧ ∀ i (h : i < bs.length), C[i]? = some (.int .u8 (bs[i].toNat : Int))
theorem BRow.cell {w : World} {B : Nat} {bs : List UInt8} (h : BRow w B bs) (i : Nat) (hi : i < bs.length) : w.cell? ⟨B, i, none⟩ = some (.int .u8 (bs[i].toNat : Int)) := by
 obtain ⟨C, h1, h2, h3⟩ := h
 unfold World.cell?
 dsimp only
 rw [h1]
 simpa using h3 i hi
theorem BRow.free {w : World} {B : Nat} {bs : List UInt8} (h : BRow w B bs) (i : Nat) (hi : i < bs.length) : w.frozen? ⟨B, i, none⟩ = false := by
 obtain ⟨C, h1, h2, h3⟩ := h
 unfold World.frozen?
 dsimp only
 rw [h1]
 simp
 omega
theorem BRow.set {w : World} {B : Nat} {bs : List UInt8} (h : BRow w B bs) (i : Nat) (v : UInt8) (z : Int) (hz : z = (v.toNat : Int)) : BRow (w.setCell ⟨B, i, none⟩ (.int .u8 z)) B (bs.set i v) := by
 subst hz
 obtain ⟨C, h1, h2, h3⟩ := h
 refine ⟨C.setIfInBounds i (.int .u8 (v.toNat : Int)), ?_, by simpa using h2, ?_⟩
 ·
  unfold World.setCell
  simp only [Array.getElem?_modify, if_true, h1]
  simp
 ·
  intro j hj
  have hj' : j < bs.length := by simpa using hj
  by_cases e : i = j
  ·
   subst e
   rw [Array.getElem?_setIfInBounds_self_of_lt (by omega)]
   simp
  ·
   rw [Array.getElem?_setIfInBounds_ne e, h3 j hj', List.getElem_set_ne e]
theorem BRow.string {w : World} {B : Nat} {bs : List UInt8} (h : BRow w B bs) (n cap : Nat) (hn : n = bs.length) :
  (convert 43 9 (.slice (some ⟨B, 0, none⟩) n cap)).run Tryd.prog w = .ok (.string ⟨bs.toArray⟩) w := by
 subst hn
 refine run_convert_bytes_back w 43 9 5 _ cap bs Tryd.underlying43 Tryd.underlying5 Tryd.underlying9 fun j hj => ?_
 have : (⟨B, 0, none⟩ : Addr).add j = ⟨B, j, none⟩ := by
  unfold Addr.add
  split
  ·
   rename_i e; subst e; rfl
  ·
   simp
 rw [this]
 exact h.cell j hj
theorem conv_bytes (s : ByteArray) (w : World) : ∃ (cap : Nat) (o : Obj), (convert 9 43 (.string s)).run Tryd.prog w = .ok (.slice (some ⟨w.heap.size, 0, none⟩) s.size cap) ((w.alloc o).drew) ∧ BRow ((w.alloc o).drew) w.heap.size s.data.toList := by
 have h := run_bytes_of_string (P := Tryd.prog) w 9 43 5 s Tryd.underlying9 Tryd.underlying43 Tryd.underlying5
 refine ⟨_, _, h, bytesRow s (grownCap w s.size 0 5), ?_, ?_, ?_⟩
 ·
  show (w.heap.push _)[w.heap.size]? = _
  simp
 ·
  simp [bytesRow]
 ·
  intro i hi
  have hi' : i < s.data.size := by simpa using hi
  unfold bytesRow
  rw [Array.getElem?_append_left (by simpa using hi'), Array.getElem?_map, Array.getElem?_eq_getElem hi']
  rfl
def mixed (f : UInt8 → UInt8) (bs : List UInt8) (i : Nat) : List UInt8 := (bs.take i).map f ++ bs.drop i
theorem mixed_zero (f : UInt8 → UInt8) (bs : List UInt8) : mixed f bs 0 = bs := by simp [mixed]
theorem mixed_length (f : UInt8 → UInt8) (bs : List UInt8) (i : Nat) : (mixed f bs i).length = bs.length := by simp [mixed]; omega
theorem mixed_all (f : UInt8 → UInt8) (bs : List UInt8) : mixed f bs bs.length = bs.map f := by simp [mixed]
theorem mixed_get (f : UInt8 → UInt8) (bs : List UInt8) (i : Nat) (h : i < bs.length) : (mixed f bs i)[i]'(by rw [mixed_length]; exact h) = bs[i] := by
 unfold mixed
 have hl : ((bs.take i).map f).length = i := by simp; omega
 rw [List.getElem_append_right (by omega)]
 simp only [hl, Nat.sub_self, List.getElem_drop, Nat.add_zero]
theorem mixed_set (f : UInt8 → UInt8) (bs : List UInt8) (i : Nat) (h : i < bs.length) : (mixed f bs i).set i (f bs[i]) = mixed f bs (i + 1) := by
 unfold mixed
 have hl : ((bs.take i).map f).length = i := by simp; omega
 rw [List.set_append_right _ _ (by omega), hl, Nat.sub_self, List.drop_eq_getElem_cons h, List.set_cons_zero]
 rw [List.take_succ_eq_append_getElem h, List.map_append, List.append_assoc]
 rfl
theorem mixed_same (f : UInt8 → UInt8) (bs : List UInt8) (i : Nat) (h : i < bs.length) (hf : f bs[i] = bs[i]) : mixed f bs (i + 1) = mixed f bs i := by
 rw [← mixed_set f bs i h, hf]
 apply List.ext_getElem
 ·
  simp
 ·
  intro j h1 h2
  by_cases e : i = j
  ·
   subst e
   simp [mixed_get f bs i h]
  ·
   rw [List.getElem_set_ne e]
end Go.Proofs.YtjlnfnfdibfniaaDoor.Hd
namespace Go.Proofs.YtjlnfnfdibfniaaDoor.Hd
open Go.RowKit Go.Proofs.YW.PWords Go.Proofs.YW.PLast
def low (c : UInt8) : UInt8 := if 65 ≤ c.toNat ∧ c.toNat ≤ 90 then UInt8.ofNat (c.toNat + 32) else c
theorem low_hit (c : UInt8) (h1 : 65 ≤ c.toNat) (h2 : c.toNat ≤ 90) : ((low c).toNat : Int) = (c.toNat : Int) + 32 := by
 unfold low
 rw [if_pos ⟨h1, h2⟩, UInt8.toNat_ofNat']
 omega
def smallF (s : ByteArray) : ByteArray := ⟨(s.data.toList.map low).toArray⟩
def num_small.f (a0 : ByteArray) : Option ByteArray := if a0.size ≤ 9223372036854775807 then some (smallF a0) else none
set_option maxHeartbeats 2000000 in
set_option maxRecDepth 100000 in
theorem small_any (s : ByteArray) (w : World) (hs : s.size ≤ 9223372036854775807) :
  Calls Tryd.prog 65 #[.string s] w fun e w' => e = .returned (.string (smallF s)) ∧ Below w.heap.size w w' := by
 obtain ⟨cap, o, hrun, hrow⟩ := conv_bytes s w
 have HW := Aside0.mk (rfl : s.data.toList.length = s.size)
 obtain ⟨bs, hbs⟩ : ∃ bs, bs = s.data.toList := ⟨_, rfl⟩
 obtain ⟨n, hn⟩ : ∃ n, n = s.size := ⟨_, rfl⟩
 rw [← hn] at hs hrun
 rw [← hbs] at hrow
 have HN := Aside0.mk hn
 have HBS := Aside0.mk hbs
 have HRow := Aside0.mk hrow
 have hlen : Aside0 (bs.length = n) := ⟨by rw [hbs, hn]; rfl⟩
 clear hn hbs hrow HW
 go_enter Tryd.func65, Tryd.ntmps65
 go_wp2
 go_loopg [10] (n + 1) (fun kq v10 wr => ∃ i : Nat, v10 = .int .i64 (i : Int) ∧ i ≤ n ∧ Aside0 (BRow wr w.heap.size (mixed low bs i)) ∧ Aside0 (Below w.heap.size w wr) ∧ Aside0 (n - i < kq))
 case atStart => exact ⟨0, rfl, Nat.zero_le _, ⟨by rw [mixed_zero]; exact HRow.out⟩, ⟨below_drew1 ((Below.refl _ _).alloc (Nat.le_refl _) _)⟩, ⟨by omega⟩⟩
 case round =>
  obtain ⟨i, rfl, hi, HR, HB, HK⟩ := hrel
  by_cases hlt : i < n
  ·
   obtain ⟨c, hcell, hfree, HC, HD⟩ : ∃ c : UInt8, wr.cell? ⟨w.heap.size, i, none⟩ = some (.int .u8 (c.toNat : Int)) ∧ wr.frozen? ⟨w.heap.size, i, none⟩ = false ∧
     Aside0 (∀ z : Int, z = ((low c).toNat : Int) → BRow (wr.setCell ⟨w.heap.size, i, none⟩ (.int .u8 z)) w.heap.size (mixed low bs (i + 1))) ∧
     Aside0 (low c = c → BRow wr w.heap.size (mixed low bs (i + 1))) := by
    have hil : i < bs.length := by rw [hlen.out]; exact hlt
    have hil' : i < (mixed low bs i).length := by rw [mixed_length]; exact hil
    refine ⟨bs[i], ?_, HR.out.free i hil', ⟨fun z hz => ?_⟩, ⟨fun h => ?_⟩⟩
    ·
     rw [← mixed_get low bs i hil]; exact HR.out.cell i hil'
    ·
     rw [← mixed_set low bs i hil]; exact HR.out.set i _ z hz
    ·
     rw [mixed_same low bs i hil h]; exact HR.out
   clear HR
   have hc255 := c.toNat_lt
   by_cases h1 : 65 ≤ c.toNat
   ·
    by_cases h2 : c.toNat ≤ 90
    ·
     have hb1 : decide ((65 : Int) ≤ (c.toNat : Int)) = true := by simp; omega
     have hb2 : decide ((c.toNat : Int) ≤ (90 : Int)) = true := by simp; omega
     go_wp2
     go_roundg (gk - 1)
     case measure => have := HK.out; omega
     case rel => exact ⟨i + 1, by go_num, by omega, ⟨HC.out _ (by rw [low_hit c h1 h2] <;> omega)⟩, ⟨below_set HB.out (Nat.le_refl _)⟩, ⟨by have := HK.out; omega⟩⟩
    ·
     have hb1 : decide ((65 : Int) ≤ (c.toNat : Int)) = true := by simp; omega
     have hb2 : decide ((c.toNat : Int) ≤ (90 : Int)) = false := by simp; omega
     go_wp2
     go_roundg (gk - 1)
     case measure => have := HK.out; omega
     case rel => exact ⟨i + 1, by go_num, by omega, ⟨HD.out (by unfold low; rw [if_neg (by omega)])⟩, HB, ⟨by have := HK.out; omega⟩⟩
   ·
    have hb1 : decide ((65 : Int) ≤ (c.toNat : Int)) = false := by simp; omega
    go_wp2
    go_roundg (gk - 1)
    case measure => have := HK.out; omega
    case rel => exact ⟨i + 1, by go_num, by omega, ⟨HD.out (by unfold low; rw [if_neg (by omega)])⟩, HB, ⟨by have := HK.out; omega⟩⟩
  ·
   obtain rfl : i = n := by omega
   have hst := HR.out.string i cap (by rw [mixed_length]; exact hlen.out.symm)
   have he : Aside0 (ByteArray.mk (mixed low bs i).toArray = smallF s) := ⟨by rw [← hlen.out, mixed_all, HBS.out]; rfl⟩
   go_wp2
   go_ret
   exact ⟨by rw [← he.out]; rfl, HB.out⟩
theorem num_small.calls (a0 : ByteArray) (r : ByteArray) (w : World) (h : num_small.f a0 = some r) :
  Calls Tryd.prog 65 #[.string a0] w fun e w' => e = .returned (.string r) ∧ Below w.heap.size w w' := by
 unfold num_small.f at h
 split at h
 ·
  cases h
  exact small_any a0 w (by assumption)
 ·
  cases h
end Go.Proofs.YtjlnfnfdibfniaaDoor.Hd
namespace Go.Proofs.YtjlnfnfdibfniaaDoor.Hd
open Go.RowKit Go.Proofs.YW.PWords Go.Proofs.YW.PLast
def num_IntText.f (a0 : Int) : Option ByteArray := if -9223372036854775808 ≤ a0 ∧ a0 ≤ 9223372036854775807 then some (intText a0) else none
theorem heap_last (w : World) (o : Obj) : (w.alloc o).heap[w.heap.size]? = some o := by
 show (w.heap.push o)[w.heap.size]? = _
 simp
theorem cell_arr (w : World) (arr : Array Value) (T : TypeId) (i : Nat) (v : Value) (h : arr[i]? = some v) : (w.alloc (.cells arr T)).cell? ⟨w.heap.size, i, none⟩ = some v := by
 unfold World.cell?
 dsimp only
 rw [heap_last]
 simpa using h
theorem frozen_arr (w : World) (arr : Array Value) (T : TypeId) (i : Nat) : (w.alloc (.cells arr T)).frozen? ⟨w.heap.size, i, none⟩ = false := by
 unfold World.frozen?
 dsimp only
 rw [heap_last]
 simp
theorem string_tail (w : World) (arr : Array Value) (p : Nat) (acc : List UInt8) (h : ∀ i (h : i < acc.length), arr[p + i]? = some (.int .u8 (acc[i].toNat : Int))) (n cap : Nat) (hn : n = acc.length) :
  (convert 43 9 (.slice (some ⟨w.heap.size, p, none⟩) n cap)).run Tryd.prog (w.alloc (.cells arr 89)) = .ok (.string ⟨acc.toArray⟩) (w.alloc (.cells arr 89)) := by
 subst hn
 refine run_convert_bytes_back _ 43 9 5 _ cap acc Tryd.underlying43 Tryd.underlying5 Tryd.underlying9 fun j hj => ?_
 have : (⟨w.heap.size, p, none⟩ : Addr).add j = ⟨w.heap.size, p + j, none⟩ := by
  unfold Addr.add
  split
  ·
   rename_i e; subst e; rfl
  ·
   rfl
 rw [this]
 exact cell_arr w arr 89 (p + j) _ (h j hj)
theorem slice_arr (B p : Nat) (hp : p < 20) (w : World) : (Instr.sliceAt 89 (.pointer (some ⟨B, 0, none⟩)) (some (.int .i64 (p : Int))) none none).run Tryd.prog w = .ok (.slice (some ⟨B, p, none⟩) (20 - p) (20 - p)) w := by
 have ht : Tryd.prog.underlying 89 = some (.array (Tryd.prog.arrayLen 89) (Tryd.prog.elem 89)) := by kernel_rfl
 have hl : Tryd.prog.arrayLen 89 = 20 := by kernel_rfl
 have he : Tryd.prog.elem 89 = 5 := by kernel_rfl
 have hs : (sizeOf 5).run Tryd.prog w = .ok 1 w := by kernel_rfl
 rw [run_sliceAt_array_l w 89 _ ht .i64 (p : Int) (by omega) (by rw [hl]; omega), hl, he, hs]
 simp only [Result.andThen, slicedAt, Int.toNat_natCast]
 rw [if_neg (by omega)]
 unfold Addr.add
 split
 ·
  rename_i e
  have : p = 0 := by omega
  subst this
  rfl
 ·
  simp
theorem zeros20 : ∀ i, i < 20 → ∃ v, (#[Value.int .u8 0, .int .u8 0, .int .u8 0, .int .u8 0, .int .u8 0, .int .u8 0, .int .u8 0, .int .u8 0, .int .u8 0, .int .u8 0, .int .u8 0, .int .u8 0, .int .u8 0, .int .u8 0, .int .u8 0, .int .u8 0, .int .u8 0, .int .u8 0, .int .u8 0, .int .u8 0])[i]? = some (.int .u8 v) := by
 intro i hi
 refine ⟨0, ?_⟩
 have : (#[Value.int .u8 0, .int .u8 0, .int .u8 0, .int .u8 0, .int .u8 0, .int .u8 0, .int .u8 0, .int .u8 0, .int .u8 0, .int .u8 0, .int .u8 0, .int .u8 0, .int .u8 0, .int .u8 0, .int .u8 0, .int .u8 0, .int .u8 0, .int .u8 0, .int .u8 0, .int .u8 0]) = Array.replicate 20 (.int .u8 0) := rfl
 rw [this, Array.getElem?_replicate, if_pos hi]
set_option maxHeartbeats 2000000 in
set_option maxRecDepth 100000 in
theorem loop_pos (n : Int) (U : Nat) (w : World) (hn : decide (n < 0) = false) (hU : n = (U : Int)) (hU20 : U < 10 ^ 20) (hU64 : IntKind.u64.wrap n = (U : Int)) (hU64' : (U : Int) ≤ 18446744073709551615) :
  Calls Tryd.prog 26 #[.int .i64 n] w fun e w' => e = .returned (.string ⟨(dec U).toArray⟩) ∧ Below w.heap.size w w' := by
 have HU := Aside0.mk hU
 clear hU
 have HU20 := Aside0.mk hU20
 clear hU20
 go_enter Tryd.func26, Tryd.ntmps26
 go_wp2
 go_loopg [3, 5, 6] 30 (fun kq v3 v5 v6 wr => ∃ (p m : Nat) (first : Bool) (acc : List UInt8) (arr : Array Value), v3 = .int .u64 (m : Int) ∧ v5 = .int .i64 (p : Int) ∧ v6 = .bool first ∧ wr = w.alloc (.cells arr 89) ∧ Aside0 (IntLoop U p m first acc arr) ∧ Aside0 (p < kq) ∧ (m : Int) ≤ 18446744073709551615)
 case atStart => exact ⟨20, U, true, [], _, by first | rfl | simp [hU64], rfl, rfl, rfl, ⟨IntLoop.start U HU20.out _ rfl zeros20⟩, ⟨by omega⟩, hU64'⟩
 case round =>
  obtain ⟨p, m, first, acc, arr, rfl, rfl, rfl, rfl, HL, HK, hmm⟩ := hrel
  by_cases hgo : first = true ∨ 0 < m
  ·
   have hp := HL.out.pos hgo
   obtain ⟨q, rfl⟩ : ∃ q, p = q + 1 := ⟨p - 1, by omega⟩
   have hp20 := HL.out.hp
   obtain ⟨ov, hov⟩ := HL.out.hold q (by omega)
   have hcell := cell_arr w arr 89 q _ hov
   have hfz := frozen_arr w arr 89 q
   clear hov
   have HR := Aside0.mk (HL.out.round hgo)
   clear HL
   have HG := Aside0.mk hgo
   clear hgo
   cases first with
   | true =>
    go_wp2
    go_roundg (gk - 1)
    case measure => have := HK.out; omega
    case rel => exact ⟨q, m / 10, false, _, _, by go_num, by go_num, rfl, rfl, HR, ⟨by have := HK.out; omega⟩, by omega⟩
   | false =>
    have hm : decide (0 < (m : Int)) = true := by rcases HG.out with h | h; cases h; simpa using h
    have hm2 : decide (0 < m) = true := by simpa using hm
    go_wp2
    go_roundg (gk - 1)
    case measure => have := HK.out; omega
    case rel => exact ⟨q, m / 10, false, _, _, by go_num, by go_num, rfl, rfl, HR, ⟨by have := HK.out; omega⟩, by omega⟩
  ·
   obtain ⟨rfl, rfl⟩ : first = false ∧ m = 0 := by
    refine ⟨?_, by omega⟩
    cases first
    ·
     rfl
    ·
     exact absurd (.inl rfl) hgo
   clear hgo
   have hst := string_tail w arr p acc HL.out.hcell (20 - p) (20 - p) HL.out.hacc.symm
   have he := HL.out.exit
   have hp20 := HL.out.hp
   subst he
   have hsl := slice_arr w.heap.size p HL.out.lt
   clear HL
   go_wp2
   go_ret
   exact ⟨rfl, (Below.refl _ _).alloc (Nat.le_refl _) _⟩
set_option maxHeartbeats 2000000 in
set_option maxRecDepth 100000 in
theorem loop_neg (n : Int) (U : Nat) (w : World) (hn : decide (n < 0) = true) (hU : -n = (U : Int)) (hU20 : U < 10 ^ 20) (M : Int) (hM : IntKind.u64.wrap n = M) (hU64 : IntKind.u64.wrap (-M) = (U : Int)) (hU64' : (U : Int) ≤ 18446744073709551615) :
  Calls Tryd.prog 26 #[.int .i64 n] w fun e w' => e = .returned (.string ⟨(45 :: dec U).toArray⟩) ∧ Below w.heap.size w w' := by
 have HU := Aside0.mk hU
 clear hU
 have HU20 := Aside0.mk hU20
 clear hU20
 go_enter Tryd.func26, Tryd.ntmps26
 go_wp2
 go_loopg [3, 5, 6] 30 (fun kq v3 v5 v6 wr => ∃ (p m : Nat) (first : Bool) (acc : List UInt8) (arr : Array Value), v3 = .int .u64 (m : Int) ∧ v5 = .int .i64 (p : Int) ∧ v6 = .bool first ∧ wr = w.alloc (.cells arr 89) ∧ Aside0 (IntLoop U p m first acc arr) ∧ Aside0 (p < kq) ∧ (m : Int) ≤ 18446744073709551615)
 case atStart => exact ⟨20, U, true, [], _, by first | rfl | simp [hU64], rfl, rfl, rfl, ⟨IntLoop.start U HU20.out _ rfl zeros20⟩, ⟨by omega⟩, hU64'⟩
 case round =>
  obtain ⟨p, m, first, acc, arr, rfl, rfl, rfl, rfl, HL, HK, hmm⟩ := hrel
  by_cases hgo : first = true ∨ 0 < m
  ·
   have hp := HL.out.pos hgo
   obtain ⟨q, rfl⟩ : ∃ q, p = q + 1 := ⟨p - 1, by omega⟩
   have hp20 := HL.out.hp
   obtain ⟨ov, hov⟩ := HL.out.hold q (by omega)
   have hcell := cell_arr w arr 89 q _ hov
   have hfz := frozen_arr w arr 89 q
   clear hov
   have HR := Aside0.mk (HL.out.round hgo)
   clear HL
   have HG := Aside0.mk hgo
   clear hgo
   cases first with
   | true =>
    go_wp2
    go_roundg (gk - 1)
    case measure => have := HK.out; omega
    case rel => exact ⟨q, m / 10, false, _, _, by go_num, by go_num, rfl, rfl, HR, ⟨by have := HK.out; omega⟩, by omega⟩
   | false =>
    have hm : decide (0 < (m : Int)) = true := by rcases HG.out with h | h; cases h; simpa using h
    have hm2 : decide (0 < m) = true := by simpa using hm
    go_wp2
    go_roundg (gk - 1)
    case measure => have := HK.out; omega
    case rel => exact ⟨q, m / 10, false, _, _, by go_num, by go_num, rfl, rfl, HR, ⟨by have := HK.out; omega⟩, by omega⟩
  ·
   obtain ⟨rfl, rfl⟩ : first = false ∧ m = 0 := by
    refine ⟨?_, by omega⟩
    cases first
    ·
     rfl
    ·
     exact absurd (.inl rfl) hgo
   clear hgo
   have hst := string_tail w arr p acc HL.out.hcell (20 - p) (20 - p) HL.out.hacc.symm
   have he := HL.out.exit
   have hp20 := HL.out.hp
   subst he
   have hsl := slice_arr w.heap.size p HL.out.lt
   clear HL
   have hdl := dec_length U
   go_wp2
   go_ret
   exact ⟨by first | rfl | (congr 2), (Below.refl _ _).alloc (Nat.le_refl _) _⟩
theorem num_IntText.calls (a0 : Int) (r : ByteArray) (w : World) (h : num_IntText.f a0 = some r) :
  Calls Tryd.prog 26 #[.int .i64 a0] w fun e w' => e = .returned (.string r) ∧ Below w.heap.size w w' := by
 unfold num_IntText.f at h
 split at h
 ·
  rename_i hb
  cases h
  unfold intText
  by_cases hn : a0 < 0
  ·
   rw [if_pos hn]
   refine loop_neg a0 (-a0).toNat w (decide_eq_true hn) (by omega) (by omega) (a0 + 18446744073709551616) ?_ ?_ (by omega)
   ·
    unfold IntKind.wrap; simp [IntKind.bits, IntKind.signed]; omega
   ·
    unfold IntKind.wrap; simp [IntKind.bits, IntKind.signed]; omega
  ·
   rw [if_neg hn]
   refine loop_pos a0 a0.toNat w (decide_eq_false hn) (by omega) (by omega) ?_ (by omega)
   unfold IntKind.wrap; simp [IntKind.bits, IntKind.signed]; omega
 ·
  cases h
end Go.Proofs.YtjlnfnfdibfniaaDoor.Hd
namespace Go.Proofs.YtjlnfnfdibfniaaDoor.F
open Go.RowKit Go.Proofs.YW.PWords Go.Proofs.YW.PLast Go.Proofs.YW.PMore
attribute [local go_sem] max2_int min2_int max_two min_two max_three min_three max_four min_four
set_option linter.unusedVariables false
set_option linter.unusedSimpArgs false
set_option maxRecDepth 100000
def num_scientific.j0 : Nat → Int → ByteArray → Option (ByteArray)
 | 0, _, _ => none
 | k + 1, x1, x5 => if x5.size + 1 ≤ 9223372036854775807 then ((some (x5 ++ (⟨#[101]⟩ : ByteArray) : ByteArray)).bind fun y477 => (if x1 < 0 then (if y477.size + 1 ≤ 9223372036854775807 then ((some (y477 ++ (⟨#[45]⟩ : ByteArray) : ByteArray)).bind fun y478 => (if (wrap64 (-x1)) < 10 then (if y478.size + 1 ≤ 9223372036854775807 then ((some (y478 ++ (⟨#[48]⟩ : ByteArray) : ByteArray)).bind fun y479 => ((Hd.num_IntText.f (wrap64 (-x1))).bind fun t480 => (if y479.size + t480.size ≤ 9223372036854775807 then (some (y479 ++ t480)) else (none)))) else (none)) else ((Hd.num_IntText.f (wrap64 (-x1))).bind fun t482 => (if y478.size + t482.size ≤ 9223372036854775807 then (some (y478 ++ t482)) else (none))))) else (none)) else (if y477.size + 1 ≤ 9223372036854775807 then ((some (y477 ++ (⟨#[43]⟩ : ByteArray) : ByteArray)).bind fun y484 => (if x1 < 10 then (if y484.size + 1 ≤ 9223372036854775807 then ((some (y484 ++ (⟨#[48]⟩ : ByteArray) : ByteArray)).bind fun y485 => ((Hd.num_IntText.f x1).bind fun t486 => (if y485.size + t486.size ≤ 9223372036854775807 then (some (y485 ++ t486)) else (none)))) else (none)) else ((Hd.num_IntText.f x1).bind fun t488 => (if y484.size + t488.size ≤ 9223372036854775807 then (some (y484 ++ t488)) else (none))))) else (none)))) else (none)
def num_scientific.f (k : Nat) (a0 : ByteArray) (a1 : Int) : Option (ByteArray) := if 0 ≤ 1 then (if 1 ≤ (a0.size : Int) then ((some (a0.extract 0 1 : ByteArray)).bind fun y473 => (if (a0.size : Int) > 1 then ((some (a0.extract 1 a0.size : ByteArray)).bind fun y474 => (if 1 + y474.size ≤ 9223372036854775807 then ((some ((⟨#[46]⟩ : ByteArray) ++ y474 : ByteArray)).bind fun y475 => (if y473.size + y475.size ≤ 9223372036854775807 then (num_scientific.j0 k a1 (y473 ++ y475)) else (none))) else (none))) else (num_scientific.j0 k a1 y473))) else (none)) else (none)
theorem num_scientific.mono_l : ∀ k, (∀ y0 y1, LeO (num_scientific.j0 k y0 y1) (num_scientific.j0 (k + 1) y0 y1))
 | 0 => fun _ _ r h => by simp [num_scientific.j0] at h
 | k + 1 => by
  have ih0 := num_scientific.mono_l k
  ·
   intro y0 y1
   unfold num_scientific.j0
   repeat' (with_reducible first | apply ih0 | apply LeO.refl | apply LeO.none | apply LeO.ite | refine LeO.bind ?_ (fun _ => ?_))
theorem num_scientific.mono : ∀ a0 a1 k, LeO (num_scientific.f k a0 a1) (num_scientific.f (k + 1) a0 a1) := by
 intro a0 a1 k
 have ih0 := num_scientific.mono_l k
 unfold num_scientific.f
 repeat' (with_reducible first | apply ih0 | apply LeO.refl | apply LeO.none | apply LeO.ite | refine LeO.bind ?_ (fun _ => ?_))
set_option maxHeartbeats 8000000 in
theorem num_scientific.calls (k : Nat) (a0 : ByteArray) (a1 : Int) (r : ByteArray) (w : World) (h : num_scientific.f k a0 a1 = some r) :
  Calls Tryd.prog 61 #[.string a0, .int .i64 a1] w fun e w' => e = .returned (.string r) ∧ Below w.heap.size w w' := by
 have HB := am (Below.refl w.heap.size w)
 have H : (if 0 ≤ 1 then (if 1 ≤ (a0.size : Int) then ((some (a0.extract 0 1 : ByteArray)).bind fun y473 => (if (a0.size : Int) > 1 then ((some (a0.extract 1 a0.size : ByteArray)).bind fun y474 => (if 1 + y474.size ≤ 9223372036854775807 then ((some ((⟨#[46]⟩ : ByteArray) ++ y474 : ByteArray)).bind fun y475 => (if y473.size + y475.size ≤ 9223372036854775807 then (num_scientific.j0 k a1 (y473 ++ y475)) else (none))) else (none))) else (num_scientific.j0 k a1 y473))) else (none)) else (none)) = some r := h
 clear h
 by_cases c3 : 0 ≤ 1
 ·
  rw [if_pos c3] at H
  have c3b0 := eq_true c3
  have c3b1 := dt c3
  clear c3
  by_cases c4 : 1 ≤ (a0.size : Int)
  ·
   rw [if_pos c4] at H
   have c4b0 := eq_true c4
   have c4b1 := dt c4
   clear c4
   obtain ⟨y473, Ny473, H⟩ := yb H
   have HC5 := am H
   clear H
   have hcs6 := Hd.str_to (P := Tryd.prog) (k := .i64) Tryd.underlying9 (j := 1) (s := a0) (y := y473) oo oo Ny473.out
   go_enter Tryd.func61, Tryd.ntmps61
   go_upto_if 10 with (fail)
   go_cut [5] (fun v5 wc => ∃ (kq : Nat) (x5_4 : ByteArray), v5 = .string x5_4 ∧ Aside0 (num_scientific.j0 kq a1 x5_4 = some r) ∧ Aside0 (kq ≤ k) ∧ Aside0 (Below w.heap.size w wc))
   case first =>
    have H := HC5.out
    clear HC5
    by_cases c7 : (a0.size : Int) > 1
    ·
     rw [if_pos c7] at H
     have c7b0 : decide (1 < (a0.size : Int)) = true := dt c7
     have c7b1 : decide (1 < a0.size) = true := dt (by omega)
     clear c7
     (first | rw [c7b0] | (simp only [i64_w, i32_w]; rw [c7b0]) | skip)
     have c8b0 := eq_true (od : 1 ≤ (a0.size : Int))
     obtain ⟨y474, Ny474, H⟩ := yb H
     by_cases c9 : 1 + y474.size ≤ 9223372036854775807
     ·
      rw [if_pos c9] at H
      have c9b0 := eq_true c9
      have c9b1 := dt c9
      obtain ⟨y475, Ny475, H⟩ := yb H
      by_cases c10 : y473.size + y475.size ≤ 9223372036854775807
      ·
       rw [if_pos c10] at H
       have c10b0 := eq_true c10
       have c10b1 := dt c10
       obtain ⟨y476, hy476⟩ : ∃ y_ : ByteArray, y_ = (y473 ++ y475) := ⟨_, rfl⟩
       replace H : (num_scientific.j0 k a1 y476) = some r := by first | (rw [hy476]; exact H) | exact H
       have Ny476 := am hy476
       clear hy476
       have H' := am H
       clear H
       have hcs11 := Hd.str_from (P := Tryd.prog) (k := .i64) Tryd.underlying9 (i := 1) (s := a0) (y := y474) oo oo Ny474.out
       obtain ⟨hcs12, hcs12'⟩ := sc Ny475
       obtain ⟨hcs13, hcs13'⟩ := sc Ny476
       go_wp2
       go_meet
       case rel => exact ⟨_, (y476), eqd, H', ol, ⟨lk HB⟩⟩
      rw [if_neg c10] at H
      exact absurd H (by simp)
     rw [if_neg c9] at H
     exact absurd H (by simp)
    rw [if_neg c7] at H
    have c7b0 : decide (1 < (a0.size : Int)) = false := decide_eq_false c7
    have c7b1 : decide (1 < a0.size) = false := decide_eq_false (by omega)
    clear c7
    (first | rw [c7b0] | (simp only [i64_w, i32_w]; rw [c7b0]) | skip)
    have H' := am H
    clear H
    go_wp2
    go_meet
    case rel => exact ⟨_, (y473), eqd, H', ol, ⟨lk HB⟩⟩
   case rest =>
    clear HC5
    obtain ⟨kq, x5_4, rfl, HA, HJ4, HB⟩ := hcut
    cases kq with
    | zero => exact absurd HA.out (by simp [num_scientific.j0])
    | succ kj4 =>
     have H := HA.out
     clear HA
     simp only [num_scientific.j0] at H
     by_cases c14 : x5_4.size + 1 ≤ 9223372036854775807
     ·
      rw [if_pos c14] at H
      have c14b0 := eq_true c14
      have c14b1 := dt c14
      obtain ⟨y477, Ny477, H⟩ := yb H
      by_cases c15 : a1 < 0
      ·
       rw [if_pos c15] at H
       have c15b0 := dt c15
       clear c15
       by_cases c16 : y477.size + 1 ≤ 9223372036854775807
       ·
        rw [if_pos c16] at H
        have c16b0 := eq_true c16
        have c16b1 := dt c16
        obtain ⟨y478, Ny478, H⟩ := yb H
        by_cases c17 : (wrap64 (-a1)) < 10
        ·
         rw [if_pos c17] at H
         have c17b0 := dt c17
         clear c17
         by_cases c18 : y478.size + 1 ≤ 9223372036854775807
         ·
          rw [if_pos c18] at H
          have c18b0 := eq_true c18
          have c18b1 := dt c18
          obtain ⟨y479, Ny479, H⟩ := yb H
          replace H := bm H
          obtain ⟨t480, A190, H⟩ := H
          have A19 := am A190
          clear A190
          by_cases c20 : y479.size + t480.size ≤ 9223372036854775807
          ·
           rw [if_pos c20] at H
           have c20b0 := eq_true c20
           have c20b1 := dt c20
           obtain ⟨y481, hy481⟩ : ∃ y_ : ByteArray, y_ = (y479 ++ t480) := ⟨_, rfl⟩
           replace H : (some y481) = some r := by first | (rw [hy481]; exact H) | exact H
           have Ny481 := am hy481
           clear hy481
           obtain rfl := Option.some.inj H
           obtain ⟨hcs21, hcs21'⟩ := sc Ny477
           obtain ⟨hcs22, hcs22'⟩ := sc Ny478
           obtain ⟨hcs23, hcs23'⟩ := sc Ny479
           go_wp2_with (first | (refine gL (some 32) Tryd.func26 #[.int .i64 (wrap64 (-a1))] ?_; (with_reducible refine (Hd.num_IntText.calls (wrap64 (-a1)) t480 _ A19.out).mono ?_); rintro e w24 ⟨rfl, hb⟩; refine ⟨_, rfl, ?_⟩; replace HB := lb HB hb; obtain ⟨hcs25, hcs25'⟩ := sc Ny481))
           go_ret
           exact ex (lk HB)
          rw [if_neg c20] at H
          exact absurd H (by simp)
         rw [if_neg c18] at H
         exact absurd H (by simp)
        rw [if_neg c17] at H
        have c17b0 := decide_eq_false c17
        clear c17
        replace H := bm H
        obtain ⟨t482, A260, H⟩ := H
        have A26 := am A260
        clear A260
        by_cases c27 : y478.size + t482.size ≤ 9223372036854775807
        ·
         rw [if_pos c27] at H
         have c27b0 := eq_true c27
         have c27b1 := dt c27
         obtain ⟨y483, hy483⟩ : ∃ y_ : ByteArray, y_ = (y478 ++ t482) := ⟨_, rfl⟩
         replace H : (some y483) = some r := by first | (rw [hy483]; exact H) | exact H
         have Ny483 := am hy483
         clear hy483
         obtain rfl := Option.some.inj H
         obtain ⟨hcs28, hcs28'⟩ := sc Ny477
         obtain ⟨hcs29, hcs29'⟩ := sc Ny478
         go_wp2_with (first | (refine gL (some 32) Tryd.func26 #[.int .i64 (wrap64 (-a1))] ?_; (with_reducible refine (Hd.num_IntText.calls (wrap64 (-a1)) t482 _ A26.out).mono ?_); rintro e w30 ⟨rfl, hb⟩; refine ⟨_, rfl, ?_⟩; replace HB := lb HB hb; obtain ⟨hcs31, hcs31'⟩ := sc Ny483))
         go_ret
         exact ex (lk HB)
        rw [if_neg c27] at H
        exact absurd H (by simp)
       rw [if_neg c16] at H
       exact absurd H (by simp)
      rw [if_neg c15] at H
      have c15b0 := decide_eq_false c15
      clear c15
      by_cases c32 : y477.size + 1 ≤ 9223372036854775807
      ·
       rw [if_pos c32] at H
       have c32b0 := eq_true c32
       have c32b1 := dt c32
       obtain ⟨y484, Ny484, H⟩ := yb H
       by_cases c33 : a1 < 10
       ·
        rw [if_pos c33] at H
        have c33b0 := dt c33
        clear c33
        by_cases c34 : y484.size + 1 ≤ 9223372036854775807
        ·
         rw [if_pos c34] at H
         have c34b0 := eq_true c34
         have c34b1 := dt c34
         obtain ⟨y485, Ny485, H⟩ := yb H
         replace H := bm H
         obtain ⟨t486, A350, H⟩ := H
         have A35 := am A350
         clear A350
         by_cases c36 : y485.size + t486.size ≤ 9223372036854775807
         ·
          rw [if_pos c36] at H
          have c36b0 := eq_true c36
          have c36b1 := dt c36
          obtain ⟨y487, hy487⟩ : ∃ y_ : ByteArray, y_ = (y485 ++ t486) := ⟨_, rfl⟩
          replace H : (some y487) = some r := by first | (rw [hy487]; exact H) | exact H
          have Ny487 := am hy487
          clear hy487
          obtain rfl := Option.some.inj H
          obtain ⟨hcs37, hcs37'⟩ := sc Ny477
          obtain ⟨hcs38, hcs38'⟩ := sc Ny484
          obtain ⟨hcs39, hcs39'⟩ := sc Ny485
          go_wp2_with (first | (refine gL (some 32) Tryd.func26 #[.int .i64 a1] ?_; (with_reducible refine (Hd.num_IntText.calls a1 t486 _ A35.out).mono ?_); rintro e w40 ⟨rfl, hb⟩; refine ⟨_, rfl, ?_⟩; replace HB := lb HB hb; obtain ⟨hcs41, hcs41'⟩ := sc Ny487))
          go_ret
          exact ex (lk HB)
         rw [if_neg c36] at H
         exact absurd H (by simp)
        rw [if_neg c34] at H
        exact absurd H (by simp)
       rw [if_neg c33] at H
       have c33b0 := decide_eq_false c33
       clear c33
       replace H := bm H
       obtain ⟨t488, A420, H⟩ := H
       have A42 := am A420
       clear A420
       by_cases c43 : y484.size + t488.size ≤ 9223372036854775807
       ·
        rw [if_pos c43] at H
        have c43b0 := eq_true c43
        have c43b1 := dt c43
        obtain ⟨y489, hy489⟩ : ∃ y_ : ByteArray, y_ = (y484 ++ t488) := ⟨_, rfl⟩
        replace H : (some y489) = some r := by first | (rw [hy489]; exact H) | exact H
        have Ny489 := am hy489
        clear hy489
        obtain rfl := Option.some.inj H
        obtain ⟨hcs44, hcs44'⟩ := sc Ny477
        obtain ⟨hcs45, hcs45'⟩ := sc Ny484
        go_wp2_with (first | (refine gL (some 32) Tryd.func26 #[.int .i64 a1] ?_; (with_reducible refine (Hd.num_IntText.calls a1 t488 _ A42.out).mono ?_); rintro e w46 ⟨rfl, hb⟩; refine ⟨_, rfl, ?_⟩; replace HB := lb HB hb; obtain ⟨hcs47, hcs47'⟩ := sc Ny489))
        go_ret
        exact ex (lk HB)
       rw [if_neg c43] at H
       exact absurd H (by simp)
      rw [if_neg c32] at H
      exact absurd H (by simp)
     rw [if_neg c14] at H
     exact absurd H (by simp)
  rw [if_neg c4] at H
  exact absurd H (by simp)
 rw [if_neg c3] at H
 exact absurd H (by simp)
mutual
def num_DurationText.j0 : Nat → Int → ByteArray → Option (ByteArray)
 | 0, _, _ => none
 | k + 1, x3, x4 => (num_units.f).bind fun t609 => (num_DurationText.l0 k x3 x4 t609 (t609.length : Int) 0)
def num_DurationText.l0 : Nat → Int → ByteArray → List (S98) → Int → Int → Option (ByteArray)
 | 0, _, _, _, _, _ => none
 | k + 1, x3, x4, x16, x17, x18 => if x18 < x17 then (if 0 ≤ x18 then (if x18 < (x16.length : Int) then (if (IntKind.u64.wrap ((rd_T98 x16 x18).f1)) = 0 then (none) else (if (IntKind.u64.wrap (Int.tdiv x3 (IntKind.u64.wrap ((rd_T98 x16 x18).f1)))) > 0 then ((Hd.num_IntText.f (wrap64 (IntKind.u64.wrap (Int.tdiv x3 (IntKind.u64.wrap ((rd_T98 x16 x18).f1)))))).bind fun t614 => (if t614.size + ((rd_T98 x16 x18).f0).size ≤ 9223372036854775807 then ((some (t614 ++ ((rd_T98 x16 x18).f0) : ByteArray)).bind fun y615 => (if x4.size + y615.size ≤ 9223372036854775807 then (num_DurationText.l0 k (Int.tmod x3 (IntKind.u64.wrap ((rd_T98 x16 x18).f1))) (x4 ++ y615) x16 x17 (wrap64 (x18 + 1))) else (none))) else (none))) else (num_DurationText.l0 k x3 x4 x16 x17 (wrap64 (x18 + 1))))) else (none)) else (none)) else (some x4)
end
def num_DurationText.f (k : Nat) (a0 : Int) : Option (ByteArray) := if a0 = 0 then (some (⟨#[48, 115]⟩ : ByteArray)) else (if a0 < 0 then (num_DurationText.j0 k (IntKind.u64.wrap (-(IntKind.u64.wrap (a0)))) (⟨#[45]⟩ : ByteArray)) else (num_DurationText.j0 k (IntKind.u64.wrap (a0)) (⟨#[]⟩ : ByteArray)))
theorem num_DurationText.mono_l : ∀ k, (∀ y0 y1, LeO (num_DurationText.j0 k y0 y1) (num_DurationText.j0 (k + 1) y0 y1)) ∧ (∀ y0 y1 y2 y3 y4, LeO (num_DurationText.l0 k y0 y1 y2 y3 y4) (num_DurationText.l0 (k + 1) y0 y1 y2 y3 y4))
 | 0 => ⟨fun _ _ r h => by simp [num_DurationText.j0] at h, fun _ _ _ _ _ r h => by simp [num_DurationText.l0] at h⟩
 | k + 1 => by
  obtain ⟨ih0, ih1⟩ := num_DurationText.mono_l k
  refine ⟨?_, ?_⟩ <;> intros <;> (first | unfold num_DurationText.j0 | unfold num_DurationText.l0) <;> repeat' (with_reducible first | apply ih0 | apply ih1 | apply LeO.refl | apply LeO.none | apply LeO.ite | refine LeO.bind ?_ (fun _ => ?_))
theorem num_DurationText.mono : ∀ a0 k, LeO (num_DurationText.f k a0) (num_DurationText.f (k + 1) a0) := by
 intro a0 k
 obtain ⟨ih0, ih1⟩ := num_DurationText.mono_l k
 unfold num_DurationText.f
 repeat' (with_reducible first | apply ih0 | apply ih1 | apply LeO.refl | apply LeO.none | apply LeO.ite | refine LeO.bind ?_ (fun _ => ?_))
def num_DurationText.T11 : Bool × List (List Nat × List Nat) := (true, [([], []), ([], []), ([1], [1]), ([2], [2]), ([], []), ([4], [4]), ([3, 5], [3, 5]), ([0, 6], [0, 6]), ([7, 3, 0, 1, 2, 3, 4, 5, 6, 7], [0, 7])])
def num_DurationText.B11 : List Nat := [0, 0, 2, 6, 0, 16, 62, 127, 255]
theorem num_DurationText.tab11 : rtab .any (opsOf Tryd.f38 11) = num_DurationText.T11 := by kernel_rfl
theorem num_DurationText.bits11 : waitsOk num_DurationText.T11.2 num_DurationText.B11 = true := by kernel_rfl
set_option maxHeartbeats 8000000 in
theorem num_DurationText.calls (k : Nat) (a0 : Int) (r : ByteArray) (w : World) (h : num_DurationText.f k a0 = some r) :
  Calls Tryd.prog 38 #[.int .i64 a0] w fun e w' => e = .returned (.string r) ∧ Below w.heap.size w w' := by
 have hu98 := Tryd.underlying98
 have HB := am (Below.refl w.heap.size w)
 have H : (if a0 = 0 then (some (⟨#[48, 115]⟩ : ByteArray)) else (if a0 < 0 then (num_DurationText.j0 k (IntKind.u64.wrap (-(IntKind.u64.wrap (a0)))) (⟨#[45]⟩ : ByteArray)) else (num_DurationText.j0 k (IntKind.u64.wrap (a0)) (⟨#[]⟩ : ByteArray)))) = some r := h
 clear h
 by_cases c2 : a0 = 0
 ·
  rw [if_pos c2] at H
  have c2b0 : (a0 == 0) = true := beq_iff_eq.mpr c2
  have c2b1 : (a0 != 0) = false := bne_eq_false_iff_eq.mpr c2
  clear c2
  obtain rfl := Option.some.inj H
  go_enter Tryd.func38, Tryd.ntmps38
  go_wp2
  go_ret
  exact ex (lk HB)
 rw [if_neg c2] at H
 have c2b0 : (a0 == 0) = false := beq_eq_false_iff_ne.mpr c2
 have c2b1 : (a0 != 0) = true := bne_iff_ne.mpr c2
 have HC3 := am H
 clear H
 go_enter Tryd.func38, Tryd.ntmps38
 go_upto_if 13 with (fail)
 go_cut [3, 4] (fun v3 v4 wc => ∃ (kq : Nat) (x3_2 : Int) (x4_2 : ByteArray), v3 = .int .u64 x3_2 ∧ v4 = .string x4_2 ∧ Aside0 (num_DurationText.j0 kq x3_2 x4_2 = some r) ∧ Aside0 (kq ≤ k) ∧ Aside0 (Below w.heap.size w wc))
 case first =>
  have H := HC3.out
  clear HC3
  by_cases c4 : a0 < 0
  ·
   rw [if_pos c4] at H
   have c4b0 := dt c4
   clear c4
   (first | rw [c4b0] | (simp only [i64_w, i32_w]; rw [c4b0]) | skip)
   have H' := am H
   clear H
   go_wp2
   go_meet
   case rel => exact ⟨_, (IntKind.u64.wrap (-(IntKind.u64.wrap (a0)))), ((⟨#[45]⟩ : ByteArray)), eqd, eqd, H', ol, ⟨lk HB⟩⟩
  rw [if_neg c4] at H
  have c4b0 := decide_eq_false c4
  clear c4
  (first | rw [c4b0] | (simp only [i64_w, i32_w]; rw [c4b0]) | skip)
  have H' := am H
  clear H
  go_wp2
  go_meet
  case rel => exact ⟨_, (IntKind.u64.wrap (a0)), ((⟨#[]⟩ : ByteArray)), eqd, eqd, H', ol, ⟨lk HB⟩⟩
 case rest =>
  clear HC3
  obtain ⟨kq, x3_2, x4_2, rfl, rfl, HA, HJ2, HB⟩ := hcut
  cases kq with
  | zero => exact absurd HA.out (by simp [num_DurationText.j0])
  | succ kj2 =>
   have H := HA.out
   clear HA
   simp only [num_DurationText.j0] at H
   replace H := bm H
   obtain ⟨t609, A50, H⟩ := H
   have A5 := am A50
   clear A50
   have H' := am H
   clear H
   go_wp2_with (first | (refine gL (some 16) Tryd.func77 #[] ?_; (with_reducible refine (num_units.calls  t609 _ A5.out).mono ?_); rintro e w6 ⟨v610, rfl, ho0, hb⟩; refine ⟨_, rfl, ?_⟩; have HO611 := am (Kd.R_lower ho0 (below_size (lk HB))); replace HB := lb HB hb; obtain ⟨Ao7, co7, eo7⟩ := Kd.R_slice HO611.out; subst eo7))
   go_loopg [3, 4, 18] kj2 (fun kq v3 v4 v18 w' => ∃ (x3_2 : Int) (x4_2 : ByteArray) (x18_2 : Int), v3 = .int .u64 x3_2 ∧ v4 = .string x4_2 ∧ v18 = .int .i64 x18_2 ∧ Aside0 (num_DurationText.l0 kq x3_2 x4_2 t609 (t609.length : Int) x18_2 = some r) ∧ Aside0 (kq ≤ kj2) ∧ Aside0 (Kd.R k98 98 w' w.heap.size (fun _ => True) (.slice Ao7 t609.length co7) t609) ∧ Aside0 (Below w.heap.size w w'))
   case atStart => exact ⟨(x3_2), (x4_2), (0), eqd, eqd, eqd, H', ⟨Nat.le_refl _⟩, ⟨rk HO611⟩, ⟨lk HB⟩⟩
   case round =>
    clear H'
    obtain ⟨x3_2, x4_2, x18_2, rfl, rfl, rfl, HA, HK2, HO_16, HB⟩ := hrel
    cases gk with
    | zero => exact absurd HA.out (by simp [num_DurationText.l0])
    | succ k2 =>
     have H := HA.out
     clear HA
     simp only [num_DurationText.l0] at H
     by_cases c8 : x18_2 < (t609.length : Int)
     ·
      rw [if_pos c8] at H
      have c8b0 := dt c8
      clear c8
      by_cases c9 : 0 ≤ x18_2
      ·
       rw [if_pos c9] at H
       have c9b0 := dt c9
       clear c9
       by_cases c10 : x18_2 < (t609.length : Int)
       ·
        rw [if_pos c10] at H
        have c10b0 := dt c10
        clear c10
        by_cases c11 : (IntKind.u64.wrap ((rd_T98 t609 x18_2).f1)) = 0
        ·
         rw [if_pos c11] at H
         exact absurd H (by simp)
        rw [if_neg c11] at H
        have c11b0 : ((IntKind.u64.wrap ((rd_T98 t609 x18_2).f1)) == 0) = false := beq_eq_false_iff_ne.mpr c11
        have c11b1 : ((IntKind.u64.wrap ((rd_T98 t609 x18_2).f1)) != 0) = true := bne_iff_ne.mpr c11
        by_cases c12 : (IntKind.u64.wrap (Int.tdiv x3_2 (IntKind.u64.wrap ((rd_T98 t609 x18_2).f1)))) > 0
        ·
         rw [if_pos c12] at H
         have c12b0 : decide (0 < (IntKind.u64.wrap (Int.tdiv x3_2 (IntKind.u64.wrap ((rd_T98 t609 x18_2).f1))))) = true := dt c12
         clear c12
         replace H := bm H
         obtain ⟨t614, A130, H⟩ := H
         have A13 := am A130
         clear A130
         by_cases c14 : t614.size + ((rd_T98 t609 x18_2).f0).size ≤ 9223372036854775807
         ·
          rw [if_pos c14] at H
          have c14b0 := eq_true c14
          have c14b1 := dt c14
          obtain ⟨y615, Ny615, H⟩ := yb H
          by_cases c15 : x4_2.size + y615.size ≤ 9223372036854775807
          ·
           rw [if_pos c15] at H
           have c15b0 := eq_true c15
           have c15b1 := dt c15
           obtain ⟨y616, hy616⟩ : ∃ y_ : ByteArray, y_ = (x4_2 ++ y615) := ⟨_, rfl⟩
           replace H : (num_DurationText.l0 k2 (Int.tmod x3_2 (IntKind.u64.wrap ((rd_T98 t609 x18_2).f1))) y616 t609 (t609.length : Int) (wrap64 (x18_2 + 1))) = some r := by first | (rw [hy616]; exact H) | exact H
           have Ny616 := am hy616
           clear hy616
           have H' := am H
           clear H
           have p612 : 0 ≤ (x18_2 : Int) := od
           have q612 : x18_2 < (t609.length : Int) := od
           obtain ⟨ad612, e612, hx612_0, hx612_1⟩ := at_T98 (Kd.R_reads' HO_16.out).2.2 x18_2 p612 q612
           cases e612
           replace p612 := eq_true p612
           replace q612 := eq_true q612
           try go_wp2_with (first | ((with_reducible refine gate_dst (N := 6) rfl ?_); refine box_event ?hg (N := 6) ?hd (cs := #[.string (⟨#[]⟩ : ByteArray), .int .i64 0]) (t := 98) ?hr ?_; (case hd => rfl); (case hg => rfl); (case hr => first | (go_simp; done) | (go_simp; rfl)); intro gb613 hg w16 hbox hb; replace HO_16 := am (Kd.R_below (Kd.R_elderB (rk HO_16) gb613 (Nat.le_of_eq hg.symm)) hb); have BK613 := am (hbox); have GW613 := am ((by rw [hg]; exact (below_size (lk HB)) : w.heap.size ≤ gb613)); have GE613 := GW613; replace HB := lb HB hb; clear hb hbox hg; have hcz17_0 : w16.cell? ⟨gb613, 0, none⟩ = some (.string (⟨#[]⟩ : ByteArray)) := (blk_cell BK613.out 0).trans rfl; have hcz17_1 : w16.cell? ⟨gb613, 1, none⟩ = some (.int .i64 0) := (blk_cell BK613.out 1).trans rfl; have hfz17_0 := blk_frozen BK613.out 0; have hfz17_1 := blk_frozen BK613.out 1))
           (first | refine Hd.letter_ (fun w18 hw => ?_) | refine Hd.letterL_ (fun w18 hw => ?_) | refine Hd.letterE_ (fun w18 hw => ?_))
           have n0_ : Aside0 (Kd.R k98 98 w18 w.heap.size (fun k_ => k_ ≠ gb613) (.slice (some ad612) t609.length co7) t609) := ⟨by rw [hw]; exact (by exact ry <| Kd.R_mono (Kd.R_far (p := ⟨gb613, 1, none⟩) (Kd.R_far (p := ⟨gb613, 0, none⟩) (Kd.R_mono HO_16.out (fun k_ hk => (⟨hk, hk.2⟩ : _ ∧ k_ ≠ gb613))) (fun _ hk => hk.2) (.string ((rd_T98 t609 x18_2).f0))) (fun _ hk => hk.2) (.int .i64 ((rd_T98 t609 x18_2).f1))) (fun _ hk => hk.1.2))⟩
           have n1_ : Aside0 (w18.heap[gb613]? = some (.cells #[.string ((rd_T98 t609 x18_2).f0), .int .i64 ((rd_T98 t609 x18_2).f1)] 98 (0, 0))) := ⟨by rw [hw]; exact (by (with_reducible repeat (first | refine blk_drewN ?_ _ | refine blk_drew ?_ | refine blk_alloc ?_ _)); refine blk_put (cs := #[.string ((rd_T98 t609 x18_2).f0), .int .i64 0]) ?_ 1 _ rfl; (with_reducible repeat (first | refine blk_drewN ?_ _ | refine blk_drew ?_ | refine blk_alloc ?_ _)); refine blk_put (cs := #[.string (⟨#[]⟩ : ByteArray), .int .i64 0]) ?_ 0 _ rfl; exact bk BK613)⟩
           have n2_ : Aside0 (Below w.heap.size w w18) := ⟨by rw [hw]; exact (lk HB)⟩
           clear hw
           (try clear HO_16)
           (try clear BK613)
           (try clear HB)
           have HO_16 := n0_
           have BK613 := n1_
           have HB := n2_
           clear n0_ n1_ n2_
           have n0_ := am (Kd.R_drew HO_16.out)
           have n1_ := am (blk_drew BK613.out)
           have n2_ := am (below_drew1 HB.out)
           clear HO_16
           clear BK613
           clear HB
           have HO_16 := n0_
           have BK613 := n1_
           have HB := n2_
           clear n0_ n1_ n2_
           refine start_ (n := 9) (S := fun w' => w'.cell? ⟨gb613, 0, none⟩ = some (.string ((rd_T98 t609 x18_2).f0)) ∧ w'.cell? ⟨gb613, 1, none⟩ = some (.int .i64 ((rd_T98 t609 x18_2).f1))) (ds := []) #[false, false, false, false, false, false, false, false, false] (by kernel_rfl) rfl rfl ⟨(blk_cell BK613.out 0).trans rfl, (blk_cell BK613.out 1).trans rfl⟩ (fun hHeld => ?_); refine with_tabW num_DurationText.tab11 num_DurationText.bits11 (fun HT_ HW_ => ?_)
           generalize w18.drew = w19 at HO_16 BK613 HB hHeld ⊢
           refine pure_ (i := 0) (N := some 29) (v := ?_) (a' := ?_) #[true, false, false, false, false, false, false, false, false] rfl rfl (any_of HT_.out (by kernel_rfl)) (fun _ _ _ h => h) (Or.inl ⟨by rfl, ?_⟩) ?_ ?_
           rotate_left
           ·
            intro w'
            go_simp
            with_reducible rfl
           rotate_left
           ·
            exact pz
           refine pure_ (i := 1) (N := some 30) (v := ?_) (a' := ?_) #[true, true, false, false, false, false, false, false, false] rfl rfl (any_of HT_.out (by kernel_rfl)) (fun _ _ _ h => h) (Or.inl ⟨by rfl, ?_⟩) ?_ ?_
           rotate_left
           ·
            intro w'
            go_simp
            with_reducible rfl
           rotate_left
           ·
            exact pz
           refine pure_ (i := 2) (N := some 31) (v := ?_) (a' := ?_) #[true, true, true, false, false, false, false, false, false] rfl rfl (any_of HT_.out (by kernel_rfl)) (fun _ _ _ h => h) (Or.inl ⟨by rfl, ?_⟩) ?_ ?_
           rotate_left
           ·
            intro w'
            go_simp
            with_reducible rfl
           rotate_left
           ·
            exact pz
           refine pure_ (i := 4) (N := some 33) (v := ?_) (a' := ?_) #[true, true, true, false, true, false, false, false, false] rfl rfl (any_of HT_.out (by kernel_rfl)) (fun _ _ _ h => h) (Or.inl ⟨by rfl, ?_⟩) ?_ ?_
           rotate_left
           ·
            intro w'
            go_simp
            with_reducible rfl
           rotate_left
           ·
            exact pz
           refine take_ (i := 5) (N := some 34) (v := ?_) (a' := ?_) #[true, true, true, false, true, true, false, false, false] rfl rfl (take_ofW HT_.out HW_.out (by kernel_rfl)) (fun _ _ _ h => h) (Or.inl ⟨by rfl, ?_⟩) hHeld ?_ ?_
           rotate_left
           ·
            rintro w' ⟨s0, s1⟩
            go_simp
            with_reducible rfl
           rotate_left
           ·
            exact pz
           refine one_ (i := 3) (N := some 32) #[true, true, true, true, true, true, false, false, false] rfl rfl (one_of HT_.out (by kernel_rfl)) (by decide) (fun K hK => ?_)
           refine goes_ Tryd.func26 (by kernel_rfl) rfl #[.int .i64 (wrap64 (IntKind.u64.wrap (Int.tdiv x3_2 (IntKind.u64.wrap ((rd_T98 t609 x18_2).f1)))))] (by rfl) rfl rfl (by (try simp only [List.map_toArray, List.map_cons, List.map_nil]); first | done | rfl | (simp only [List.length_drop, List.length_take]; rfl) | (simp [Act.eval, Hd.wrap_u8]; done)) ?_
           with_reducible refine (Hd.num_IntText.calls (wrap64 (IntKind.u64.wrap (Int.tdiv x3_2 (IntKind.u64.wrap ((rd_T98 t609 x18_2).f1))))) t614 _ A13.out).mono ?_
           rintro e w20 ⟨rfl, hb⟩
           refine ⟨_, rfl, ?_⟩
           have n0_ := am (Kd.R_below (rk HO_16) hb)
           have n1_ := bb BK613 hb
           have n2_ := lb HB hb
           clear HO_16
           clear BK613
           clear HB
           have HO_16 := n0_
           have BK613 := n1_
           have HB := n2_
           clear n0_ n1_ n2_
           (try clear hb)
           (try clear hb2)
           (try clear hk)
           (try clear hi)
           obtain ⟨hcs21, hcs21'⟩ := sc Ny615
           obtain ⟨hcs22, hcs22'⟩ := sc Ny616
           refine hK.out _ _ ⟨(blk_cell BK613.out 0).trans rfl, (blk_cell BK613.out 1).trans rfl⟩ (fun hHeld => ?_)
           clear hK K
           refine norm_ (a' := ?_) ?_ ?_
           rotate_left
           ·
            show Act.put _ (some 32) _ = _
            exact pz
           refine pure_ (i := 6) (N := some 35) (v := ?_) (a' := ?_) #[true, true, true, true, true, true, true, false, false] rfl rfl (any_of HT_.out (by kernel_rfl)) (fun _ _ _ h => h) (Or.inl ⟨by rfl, ?_⟩) ?_ ?_
           rotate_left
           ·
            intro w'
            go_simp
            with_reducible rfl
           rotate_left
           ·
            exact pz
           refine pure_ (i := 7) (N := some 36) (v := ?_) (a' := ?_) #[true, true, true, true, true, true, true, true, false] rfl rfl (any_of HT_.out (by kernel_rfl)) (fun _ _ _ h => h) (Or.inl ⟨by rfl, ?_⟩) ?_ ?_
           rotate_left
           ·
            intro w'
            go_simp
            with_reducible rfl
           rotate_left
           ·
            exact pz
           refine pure_ (i := 8) (N := some 4) (v := ?_) (a' := ?_) #[true, true, true, true, true, true, true, true, true] rfl rfl (any_of HT_.out (by kernel_rfl)) (fun _ _ _ h => h) (Or.inl ⟨by rfl, ?_⟩) ?_ ?_
           rotate_left
           ·
            intro w'
            go_simp
            with_reducible rfl
           rotate_left
           ·
            exact pz
           refine done_ (done_of HT_.out (by kernel_rfl)) ?_
           have hcz23_0 : w20.cell? ⟨gb613, 0, none⟩ = some (.string ((rd_T98 t609 x18_2).f0)) := (blk_cell BK613.out 0).trans rfl
           have hcz23_1 : w20.cell? ⟨gb613, 1, none⟩ = some (.int .i64 ((rd_T98 t609 x18_2).f1)) := (blk_cell BK613.out 1).trans rfl
           have hfz23_0 := blk_frozen BK613.out 0
           have hfz23_1 := blk_frozen BK613.out 1
           try go_wp2
           go_roundg k2
           case measure => have := HJ2.out; have := HK2.out; omega
           case rel => exact ⟨(Int.tmod x3_2 (IntKind.u64.wrap ((rd_T98 t609 x18_2).f1))), (y616), (wrap64 (x18_2 + 1)), eqd, eqd, eqd, H', ⟨by have := HJ2.out; have := HK2.out; omega⟩, ⟨by exact ry <| Kd.R_mono HO_16.out (fun _ hk => trivial)⟩, ⟨lk HB⟩⟩
          rw [if_neg c15] at H
          exact absurd H (by simp)
         rw [if_neg c14] at H
         exact absurd H (by simp)
        rw [if_neg c12] at H
        have c12b0 : decide (0 < (IntKind.u64.wrap (Int.tdiv x3_2 (IntKind.u64.wrap ((rd_T98 t609 x18_2).f1))))) = false := decide_eq_false c12
        clear c12
        have H' := am H
        clear H
        have p612 : 0 ≤ (x18_2 : Int) := od
        have q612 : x18_2 < (t609.length : Int) := od
        obtain ⟨ad612, e612, hx612_0, hx612_1⟩ := at_T98 (Kd.R_reads' HO_16.out).2.2 x18_2 p612 q612
        cases e612
        replace p612 := eq_true p612
        replace q612 := eq_true q612
        go_wp2_with (first | ((with_reducible refine gate_dst (N := 6) rfl ?_); refine box_event ?hg (N := 6) ?hd (cs := #[.string (⟨#[]⟩ : ByteArray), .int .i64 0]) (t := 98) ?hr ?_; (case hd => rfl); (case hg => rfl); (case hr => first | (go_simp; done) | (go_simp; rfl)); intro gb613 hg w24 hbox hb; replace HO_16 := am (Kd.R_below (Kd.R_elderB (rk HO_16) gb613 (Nat.le_of_eq hg.symm)) hb); have BK613 := am (hbox); have GW613 := am ((by rw [hg]; exact (below_size (lk HB)) : w.heap.size ≤ gb613)); have GE613 := GW613; replace HB := lb HB hb; clear hb hbox hg; have hcz25_0 : w24.cell? ⟨gb613, 0, none⟩ = some (.string (⟨#[]⟩ : ByteArray)) := (blk_cell BK613.out 0).trans rfl; have hcz25_1 : w24.cell? ⟨gb613, 1, none⟩ = some (.int .i64 0) := (blk_cell BK613.out 1).trans rfl; have hfz25_0 := blk_frozen BK613.out 0; have hfz25_1 := blk_frozen BK613.out 1))
        go_roundg k2
        case measure => have := HJ2.out; have := HK2.out; omega
        case rel => exact ⟨(x3_2), (x4_2), (wrap64 (x18_2 + 1)), eqd, eqd, eqd, H', ⟨by have := HJ2.out; have := HK2.out; omega⟩, ⟨by exact ry <| Kd.R_mono (Kd.R_far (p := ⟨gb613, 1, none⟩) (Kd.R_far (p := ⟨gb613, 0, none⟩) (Kd.R_mono HO_16.out (fun k_ hk => (⟨hk, hk.2⟩ : _ ∧ k_ ≠ gb613))) (fun _ hk => hk.2) (.string ((rd_T98 t609 x18_2).f0))) (fun _ hk => hk.2) (.int .i64 ((rd_T98 t609 x18_2).f1))) (fun _ hk => trivial)⟩, ⟨lk HB⟩⟩
       rw [if_neg c10] at H
       exact absurd H (by simp)
      rw [if_neg c9] at H
      exact absurd H (by simp)
     rw [if_neg c8] at H
     have c8b0 := decide_eq_false c8
     clear c8
     obtain rfl := Option.some.inj H
     go_wp2
     go_ret
     exact ex (lk HB)
end Go.Proofs.YtjlnfnfdibfniaaDoor.F
namespace Go.Proofs.YtjlnfnfdibfniaaDoor.Pl
def Runs {α : Type} (g : Nat → Option α) (r : α) : Prop := ∃ K, ∀ k, K ≤ k → g k = some r
theorem Runs.suc {α : Type} {g : Nat → Option α} {r : α} (h : Runs (fun k => g (k + 1)) r) : Runs g r := by
 obtain ⟨K, h⟩ := h
 refine ⟨K + 1, fun k hk => ?_⟩
 obtain ⟨k, rfl⟩ : ∃ j, k = j + 1 := ⟨k - 1, by omega⟩
 exact h k (by omega)
theorem Runs.bind {α β : Type} {g : Nat → Option α} {h : Nat → α → Option β} {a : α} {b : β} (hg : Runs g a) (hh : Runs (fun k => h k a) b) : Runs (fun k => (g k).bind (h k)) b := by
 obtain ⟨K, hg⟩ := hg
 obtain ⟨L, hh⟩ := hh
 exact ⟨max K L, fun k hk => by show (g k).bind (h k) = _; rw [hg k (by omega), Option.bind_some]; exact hh k (by omega)⟩
theorem Runs.pure {α : Type} (a : α) : Runs (fun _ => some a) a := ⟨0, fun _ _ => rfl⟩
theorem Runs.yes {α : Type} {c : Prop} [Decidable c] {A B : Nat → Option α} {r : α} (h : c) (hA : Runs A r) : Runs (fun k => if c then A k else B k) r := by
 obtain ⟨K, hA⟩ := hA
 exact ⟨K, fun k hk => by show (if c then A k else B k) = _; rw [if_pos h]; exact hA k hk⟩
theorem Runs.no {α : Type} {c : Prop} [Decidable c] {A B : Nat → Option α} {r : α} (h : ¬ c) (hB : Runs B r) : Runs (fun k => if c then A k else B k) r := by
 obtain ⟨K, hB⟩ := hB
 exact ⟨K, fun k hk => by show (if c then A k else B k) = _; rw [if_neg h]; exact hB k hk⟩
theorem Runs.of {α : Type} {g : Nat → Option α} {a b : α} (h : Runs g a) (e : a = b) : Runs g b := e ▸ h
def lim (B n : Nat) : List Int := if _h : n = 0 ∨ B < 2 then [] else ((n % B : Nat) : Int) :: lim B (n / B)
termination_by n
decreasing_by exact Nat.div_lt_self (by omega) (by omega)
def nv (B : Nat) : List Int → Nat
 | [] => 0
 | x :: xs => x.toNat + B * nv B xs
def Wf (B : Nat) (l : List Int) : Prop := ∀ x ∈ l, 0 ≤ x ∧ x < (B : Int)
theorem lim_zero (B : Nat) : lim B 0 = [] := by rw [lim]; simp
theorem lim_pos {B n : Nat} (hB : 2 ≤ B) (h : 0 < n) : lim B n = ((n % B : Nat) : Int) :: lim B (n / B) := by
 rw [lim, dif_neg (by omega)]
theorem lim_ind {P : Nat → Prop} {B : Nat} (hB : 2 ≤ B) (h0 : P 0) (h1 : ∀ n, 0 < n → P (n / B) → P n) (n : Nat) : P n := by
 induction n using Nat.strongRecOn with
 | ind n ih =>
  rcases Nat.eq_zero_or_pos n with rfl | h
  ·
   exact h0
  ·
   exact h1 n h (ih _ (Nat.div_lt_self h hB))
theorem nv_lim {B : Nat} (hB : 2 ≤ B) (n : Nat) : nv B (lim B n) = n := by
 refine lim_ind (P := fun n => nv B (lim B n) = n) hB ?_ ?_ n
 ·
  rw [lim_zero]; rfl
 ·
  intro n h ih
  rw [lim_pos hB h, nv, ih, Int.toNat_natCast]
  exact Nat.mod_add_div n B
theorem wf_lim {B : Nat} (hB : 2 ≤ B) (n : Nat) : Wf B (lim B n) := by
 refine lim_ind (P := fun n => Wf B (lim B n)) hB ?_ ?_ n
 ·
  rw [lim_zero]; intro x hx; cases hx
 ·
  intro n h ih
  rw [lim_pos hB h]
  intro x hx
  rcases List.mem_cons.1 hx with rfl | hx
  ·
   exact ⟨Int.natCast_nonneg _, Int.ofNat_lt.2 (Nat.mod_lt _ (by omega))⟩
  ·
   exact ih x hx
theorem nv_append (B : Nat) (a b : List Int) : nv B (a ++ b) = nv B a + B ^ a.length * nv B b := by
 induction a with
 | nil => simp [nv]
 | cons x a ih =>
  rw [List.cons_append, nv, ih, nv, List.length_cons, Nat.pow_succ, Nat.mul_add, Nat.add_assoc, ← Nat.mul_assoc, Nat.mul_comm B (B ^ a.length)]
theorem nv_one (B : Nat) (x : Int) : nv B [x] = x.toNat := by simp [nv]
theorem Wf.nil (B : Nat) : Wf B [] := fun x hx => by cases hx
theorem Wf.append {B : Nat} {a b : List Int} (ha : Wf B a) (hb : Wf B b) : Wf B (a ++ b) := by
 intro x hx
 rcases List.mem_append.1 hx with h | h
 ·
  exact ha x h
 ·
  exact hb x h
theorem Wf.one {B : Nat} {x : Int} (h0 : 0 ≤ x) (h1 : x < (B : Int)) : Wf B [x] := by
 intro y hy
 rw [List.mem_singleton] at hy
 exact hy ▸ ⟨h0, h1⟩
theorem Wf.left {B : Nat} {a b : List Int} (h : Wf B (a ++ b)) : Wf B a := fun x hx => h x (List.mem_append_left _ hx)
theorem Wf.get {B : Nat} {l : List Int} (h : Wf B l) {i : Nat} (hi : i < l.length) : 0 ≤ l[i] ∧ l[i] < (B : Int) := h _ (List.getElem_mem hi)
theorem Wf.zeros {B : Nat} (hB : 0 < B) (n : Nat) : Wf B (List.replicate n 0) := by
 intro x hx
 rw [(List.mem_replicate.1 hx).2]; omega
theorem nv_zeros (B n : Nat) : nv B (List.replicate n 0) = 0 := by
 induction n with
 | zero => rfl
 | succ n ih => rw [List.replicate_succ, nv, ih]; simp
theorem nv_lt {B : Nat} (_hB : 2 ≤ B) {l : List Int} (h : Wf B l) : nv B l < B ^ l.length := by
 induction l with
 | nil => simp [nv]
 | cons x l ih =>
  have h1 := ih (fun y hy => h y (List.mem_cons_of_mem _ hy))
  have h2 := h x (List.mem_cons_self ..)
  rw [nv, List.length_cons, Nat.pow_succ, Nat.mul_comm (B ^ _)]
  have h3 : x.toNat < B := by omega
  calc x.toNat + B * nv B l < B + B * nv B l := by omega
   _ = B * (nv B l + 1) := by rw [Nat.mul_add, Nat.mul_one]; omega
   _ ≤ B * B ^ l.length := Nat.mul_le_mul_left _ h1
theorem lim_step {B v : Nat} {x : Int} (hB : 2 ≤ B) (h0 : 0 ≤ x) (h1 : x < (B : Int)) (hp : 0 < x ∨ 0 < v) : lim B (x.toNat + B * v) = x :: lim B v := by
 have hx : x.toNat < B := by omega
 have hBv : v ≤ B * v := Nat.le_mul_of_pos_left _ (by omega)
 rw [lim_pos hB (by omega), Nat.add_mul_mod_self_left, Nat.add_mul_div_left _ _ (by omega), Nat.div_eq_of_lt hx, Nat.zero_add, Nat.mod_eq_of_lt hx]
 congr 1
 exact Int.toNat_of_nonneg h0
theorem nv_pos {B : Nat} (hB : 2 ≤ B) (l : List Int) {x : Int} (hx : 0 < x) : 0 < nv B (l ++ [x]) := by
 rw [nv_append, nv_one]
 have := Nat.mul_pos (Nat.pow_pos (n := l.length) (show 0 < B by omega)) (show 0 < x.toNat by omega)
 omega
theorem lim_snoc {B : Nat} (hB : 2 ≤ B) {l : List Int} {x : Int} (hl : Wf B l) (h0 : 0 < x) (h1 : x < (B : Int)) : lim B (nv B (l ++ [x])) = l ++ [x] := by
 induction l with
 | nil =>
  have := lim_step (v := 0) hB (Int.le_of_lt h0) h1 (.inl h0)
  rw [Nat.mul_zero, lim_zero] at this
  rw [List.nil_append, nv_one]; exact this
 | cons y l ih =>
  have hy := hl y (List.mem_cons_self ..)
  rw [List.cons_append, nv, lim_step hB hy.1 hy.2 (.inr (nv_pos hB l h0)), ih (fun z hz => hl z (List.mem_cons_of_mem _ hz))]
theorem nv_snoc_zero (B : Nat) (l : List Int) : nv B (l ++ [0]) = nv B l := by
 rw [nv_append, nv_one]; simp
theorem lim_len {B : Nat} (hB : 2 ≤ B) : ∀ (s n : Nat), n < B ^ s → (lim B n).length ≤ s := by
 intro s
 induction s with
 | zero =>
  intro n h
  have : n = 0 := by simpa using h
  rw [this, lim_zero]; simp
 | succ s ih =>
  intro n h
  rcases Nat.eq_zero_or_pos n with rfl | hn
  ·
   rw [lim_zero]; simp
  ·
   rw [lim_pos hB hn, List.length_cons]
   have := ih (n / B) (by rw [Nat.pow_succ] at h; exact Nat.div_lt_of_lt_mul (by rw [Nat.mul_comm]; exact h))
   omega
theorem lim_le {B : Nat} (hB : 2 ≤ B) (n : Nat) : n < B ^ (lim B n).length := by
 have := nv_lt hB (wf_lim hB n)
 rwa [nv_lim hB] at this
theorem lim_last {B : Nat} (hB : 2 ≤ B) : ∀ n, 0 < n → ∃ l x, lim B n = l ++ [x] ∧ 0 < x ∧ x < (B : Int) := by
 intro n
 refine lim_ind (P := fun n => 0 < n → ∃ l x, lim B n = l ++ [x] ∧ 0 < x ∧ x < (B : Int)) hB (fun h => by omega) ?_ n
 intro n h ih _
 rw [lim_pos hB h]
 rcases Nat.eq_zero_or_pos (n / B) with h0 | h0
 ·
  rw [h0, lim_zero]
  refine ⟨[], _, rfl, ?_, Int.ofNat_lt.2 (Nat.mod_lt _ (by omega))⟩
  have : n < B := by
   rcases Nat.lt_or_ge n B with h1 | h1
   ·
    exact h1
   ·
    have := Nat.div_pos h1 (by omega); omega
  rw [Nat.mod_eq_of_lt this]; omega
 ·
  obtain ⟨l, x, e, h1, h2⟩ := ih h0
  exact ⟨_ :: l, x, by rw [e]; rfl, h1, h2⟩
theorem snoc_cases {α : Type} (l : List α) : l = [] ∨ ∃ m x, l = m ++ [x] := by
 rcases List.eq_nil_or_concat l with h | ⟨m, x, h⟩
 ·
  exact .inl h
 ·
  exact .inr ⟨m, x, by simpa using h⟩
theorem nv_take_succ (B : Nat) (l : List Int) (i : Nat) (h : i < l.length) : nv B (l.take (i + 1)) = nv B (l.take i) + B ^ i * l[i].toNat := by
 rw [List.take_succ_eq_append_getElem h, nv_append, nv_one, List.length_take, Nat.min_eq_left (Nat.le_of_lt h)]
theorem nv_drop (B : Nat) (l : List Int) (i : Nat) (h : i < l.length) : nv B (l.drop i) = l[i].toNat + B * nv B (l.drop (i + 1)) := by
 rw [List.drop_eq_getElem_cons h, nv]
theorem take_set_succ {α : Type} (l : List α) (i : Nat) (v : α) (h : i < l.length) : (l.set i v).take (i + 1) = l.take i ++ [v] := by
 rw [List.take_succ_eq_append_getElem (by rw [List.length_set]; exact h), List.getElem_set_self, List.take_set_of_le (Nat.le_refl i)]
end Go.Proofs.YtjlnfnfdibfniaaDoor.Pl
namespace Go.Proofs
open Go.Shelf
def Tryd.lays128_ren : Go.Shelf.Ren := ⟨fun | 128 => 85 | n => n, fun | 51 => 102 | 3 => 3 | 4 => 4 | 46 => 65 | 5 => 5 | 9 => 9 | n => n, fun | n => n⟩
theorem Tryd.lays128 : Go.Proofs.Lays.n128 Tryd.prog Tryd.lays128_ren := {
 mixed := by kernel_rfl
 f128 := Tryd.func85.trans (congrArg some (by kernel_rfl))
 t3 := Tryd.underlying3
 a3 := Tryd.isAgg3
 z3 := Tryd.sizeOf3
 v3 := Tryd.zeroValue3
 t4 := Tryd.underlying4
 a4 := Tryd.isAgg4
 z4 := Tryd.sizeOf4
 v4 := Tryd.zeroValue4
 t5 := Tryd.underlying5
 a5 := Tryd.isAgg5
 z5 := Tryd.sizeOf5
 v5 := Tryd.zeroValue5
 t9 := Tryd.underlying9
 a9 := Tryd.isAgg9
 z9 := Tryd.sizeOf9
 v9 := Tryd.zeroValue9
 t46 := Tryd.underlying65
 a46 := Tryd.isAgg65
 z46 := Tryd.sizeOf65
 v46 := Tryd.zeroValue65
 t51 := Tryd.underlying102
 a51 := Tryd.isAgg102
 z51 := Tryd.sizeOf102
 v51 := Tryd.zeroValue102 }
theorem Tryd.bits_Len32 (x : Int) (w : World) (h0 : 0 ≤ x) (h1 : x ≤ 4294967295) :
  Calls Tryd.prog 85 #[.int .u32 x] w fun e w' => e = .returned (.int .i64 (Lib.bitLen x.toNat)) ∧ w' = w := Any.bits_Len32 Tryd.lays128 x w h0 h1
def Tryd.lays129_ren : Go.Shelf.Ren := ⟨fun | 129 => 119 | n => n, fun | 53 => 25 | 3 => 3 | 4 => 4 | 46 => 65 | 5 => 5 | 9 => 9 | n => n, fun | n => n⟩
theorem Tryd.lays129 : Go.Proofs.Lays.n129 Tryd.prog Tryd.lays129_ren := {
 mixed := by kernel_rfl
 f129 := Tryd.func119.trans (congrArg some (by kernel_rfl))
 t3 := Tryd.underlying3
 a3 := Tryd.isAgg3
 z3 := Tryd.sizeOf3
 v3 := Tryd.zeroValue3
 t4 := Tryd.underlying4
 a4 := Tryd.isAgg4
 z4 := Tryd.sizeOf4
 v4 := Tryd.zeroValue4
 t5 := Tryd.underlying5
 a5 := Tryd.isAgg5
 z5 := Tryd.sizeOf5
 v5 := Tryd.zeroValue5
 t9 := Tryd.underlying9
 a9 := Tryd.isAgg9
 z9 := Tryd.sizeOf9
 v9 := Tryd.zeroValue9
 t46 := Tryd.underlying65
 a46 := Tryd.isAgg65
 z46 := Tryd.sizeOf65
 v46 := Tryd.zeroValue65
 t53 := Tryd.underlying25
 a53 := Tryd.isAgg25
 z53 := Tryd.sizeOf25
 v53 := Tryd.zeroValue25 }
theorem Tryd.bits_Len64 (x : Int) (w : World) (h0 : 0 ≤ x) (h1 : x ≤ 18446744073709551615) :
  Calls Tryd.prog 119 #[.int .u64 x] w fun e w' => e = .returned (.int .i64 (Lib.bitLen x.toNat)) ∧ w' = w := Any.bits_Len64 Tryd.lays129 x w h0 h1
def Tryd.lays105_ren : Go.Shelf.Ren := ⟨fun | 105 => 62 | 212 => 95 | 99 => 96 | 165 => 97 | 166 => 98 | 170 => 99 | 169 => 100 | 263 => 111 | 264 => 112 | 206 => 113 | 240 => 114 | 241 => 115 | 276 => 125 | 277 => 126 | n => n, fun | 9 => 9 | 3 => 3 | 4 => 4 | 20 => 20 | 0 => 0 | 46 => 65 | 109 => 112 | 5 => 5 | 72 => 117 | 76 => 121 | 51 => 102 | 146 => 135 | 53 => 25 | 148 => 137 | 70 => 115 | 37 => 43 | 75 => 120 | 127 => 139 | 164 => 144 | 80 => 123 | n => n, fun | n => n⟩
theorem Tryd.lays105 : Go.Proofs.Lays.n105 Tryd.prog Tryd.lays105_ren := {
 mixed := by kernel_rfl
 f99 := Tryd.func96.trans (congrArg some (by kernel_rfl))
 f105 := Tryd.func62.trans (congrArg some (by kernel_rfl))
 f165 := Tryd.func97.trans (congrArg some (by kernel_rfl))
 f166 := Tryd.func98.trans (congrArg some (by kernel_rfl))
 f169 := Tryd.func100.trans (congrArg some (by kernel_rfl))
 f170 := Tryd.func99.trans (congrArg some (by kernel_rfl))
 f206 := Tryd.func113.trans (congrArg some (by kernel_rfl))
 f212 := Tryd.func95.trans (congrArg some (by kernel_rfl))
 f240 := Tryd.func114.trans (congrArg some (by kernel_rfl))
 f241 := Tryd.func115.trans (congrArg some (by kernel_rfl))
 f263 := Tryd.func111.trans (congrArg some (by kernel_rfl))
 f264 := Tryd.func112.trans (congrArg some (by kernel_rfl))
 f276 := Tryd.func125.trans (congrArg some (by kernel_rfl))
 f277 := Tryd.func126.trans (congrArg some (by kernel_rfl))
 t0 := Tryd.underlying0
 a0 := Tryd.isAgg0
 z0 := Tryd.sizeOf0
 v0 := Tryd.zeroValue0
 t3 := Tryd.underlying3
 a3 := Tryd.isAgg3
 z3 := Tryd.sizeOf3
 v3 := Tryd.zeroValue3
 t4 := Tryd.underlying4
 a4 := Tryd.isAgg4
 z4 := Tryd.sizeOf4
 v4 := Tryd.zeroValue4
 t5 := Tryd.underlying5
 a5 := Tryd.isAgg5
 z5 := Tryd.sizeOf5
 v5 := Tryd.zeroValue5
 t9 := Tryd.underlying9
 a9 := Tryd.isAgg9
 z9 := Tryd.sizeOf9
 v9 := Tryd.zeroValue9
 t20 := Tryd.underlying20
 a20 := Tryd.isAgg20
 z20 := Tryd.sizeOf20
 v20 := Tryd.zeroValue20
 t37 := Tryd.underlying43
 a37 := Tryd.isAgg43
 z37 := Tryd.sizeOf43
 v37 := Tryd.zeroValue43
 t46 := Tryd.underlying65
 a46 := Tryd.isAgg65
 z46 := Tryd.sizeOf65
 v46 := Tryd.zeroValue65
 t51 := Tryd.underlying102
 a51 := Tryd.isAgg102
 z51 := Tryd.sizeOf102
 v51 := Tryd.zeroValue102
 t53 := Tryd.underlying25
 a53 := Tryd.isAgg25
 z53 := Tryd.sizeOf25
 v53 := Tryd.zeroValue25
 t70 := Tryd.underlying115
 a70 := Tryd.isAgg115
 z70 := Tryd.sizeOf115
 v70 := Tryd.zeroValue115
 t72 := Tryd.underlying117
 a72 := Tryd.isAgg117
 z72 := Tryd.sizeOf117
 v72 := Tryd.zeroValue117
 t75 := Tryd.underlying120
 a75 := Tryd.isAgg120
 z75 := Tryd.sizeOf120
 v75 := Tryd.zeroValue120
 t76 := Tryd.underlying121
 a76 := Tryd.isAgg121
 z76 := Tryd.sizeOf121
 v76 := Tryd.zeroValue121
 t109 := Tryd.underlying112
 a109 := Tryd.isAgg112
 z109 := Tryd.sizeOf112
 v109 := Tryd.zeroValue112
 t127 := Tryd.underlying139
 a127 := Tryd.isAgg139
 z127 := Tryd.sizeOf139
 v127 := Tryd.zeroValue139
 t146 := Tryd.underlying135
 a146 := Tryd.isAgg135
 z146 := Tryd.sizeOf135
 v146 := Tryd.zeroValue135
 t148 := Tryd.underlying137
 a148 := Tryd.isAgg137
 z148 := Tryd.sizeOf137
 v148 := Tryd.zeroValue137
 t164 := Tryd.underlying144
 a164 := Tryd.isAgg144
 z164 := Tryd.sizeOf144
 v164 := Tryd.zeroValue144 }
theorem Tryd.Builder_Extra_105 : Builder.Extra Tryd.prog Tryd.lays105_ren := {
 sizeBuilder := by kernel_rfl
 liesBuilder := by kernel_rfl
 t5 := Tryd.underlying5
 a5 := Tryd.isAgg5
 z5 := Tryd.sizeOf5
 v5 := Tryd.zeroValue5
 infoByte := by kernel_rfl
 cellsByte := by kernel_rfl
 sizeByte := by kernel_rfl
 neB5 := by decide }
open Go.RowKit Go.Lib in
theorem Tryd.strings_Repeat (s : ByteArray) (c : Nat) (w : World) (hc : c ≤ 9223372036854775807) (hlen : s.size * c ≤ 140737488355328) :
  Calls Tryd.prog 62 #[.string s, .int .i64 c] w fun e w' => e = .returned (.string ⟨(Lib.repeatL s.data.toList c).toArray⟩) ∧ Below w.heap.size w w' := Any.strings_Repeat Tryd.lays105 Tryd.Builder_Extra_105 s c w hc hlen
end Go.Proofs
namespace Go.Proofs.YtjlnfnfdibfniaaDoor.Hd
open Go.RowKit Go.Proofs.YW.PWords Go.Proofs.YW.PLast
def bits_Len32.f (a0 : Int) : Option Int := if 0 ≤ a0 ∧ a0 ≤ 4294967295 then some (Lib.bitLen a0.toNat : Int) else none
theorem bits_Len32.calls (a0 : Int) (r : Int) (w : World) (h : bits_Len32.f a0 = some r) :
  Calls Tryd.prog 85 #[.int .u32 a0] w fun e w' => e = .returned (.int .i64 r) ∧ Drawn0 w w' := by
 unfold bits_Len32.f at h
 split at h
 ·
  rename_i hb
  cases h
  refine (Tryd.bits_Len32 a0 w hb.1 hb.2).mono ?_
  rintro e w' ⟨rfl, rfl⟩
  exact ⟨rfl, Drawn0.refl _⟩
 ·
  cases h
def bits_Len64.f (a0 : Int) : Option Int := if 0 ≤ a0 ∧ a0 ≤ 18446744073709551615 then some (Lib.bitLen a0.toNat : Int) else none
theorem bits_Len64.calls (a0 : Int) (r : Int) (w : World) (h : bits_Len64.f a0 = some r) :
  Calls Tryd.prog 119 #[.int .u64 a0] w fun e w' => e = .returned (.int .i64 r) ∧ Drawn0 w w' := by
 unfold bits_Len64.f at h
 split at h
 ·
  rename_i hb
  cases h
  refine (Tryd.bits_Len64 a0 w hb.1 hb.2).mono ?_
  rintro e w' ⟨rfl, rfl⟩
  exact ⟨rfl, Drawn0.refl _⟩
 ·
  cases h
def strings_Repeat.f (a0 : ByteArray) (a1 : Int) : Option ByteArray :=
 if 0 ≤ a1 ∧ a1 ≤ 9223372036854775807 ∧ a0.size * a1.toNat ≤ 140737488355328 then some ⟨(Lib.repeatL a0.data.toList a1.toNat).toArray⟩ else none
theorem strings_Repeat.calls (a0 : ByteArray) (a1 : Int) (r : ByteArray) (w : World) (h : strings_Repeat.f a0 a1 = some r) :
  Calls Tryd.prog 62 #[.string a0, .int .i64 a1] w fun e w' => e = .returned (.string r) ∧ Below w.heap.size w w' := by
 unfold strings_Repeat.f at h
 split at h
 ·
  rename_i hb
  cases h
  obtain ⟨n, rfl⟩ := Int.eq_ofNat_of_zero_le hb.1
  exact Tryd.strings_Repeat a0 n w (by omega) (by simpa using hb.2.2)
 ·
  cases h
def ceilB (b : Nat) : Option Nat :=
 match FloatKind.f64.decode b with
 | .nan .. => none
 | d => some (FloatKind.f64.encode (d.integral .up))
theorem ext83 (b r : Nat) (h : ceilB b = some r) (w : World) : (callFunc 83 #[.float .f64 b]).run Tryd.prog w = .ok (.value (.float .f64 r)) w := by
 rw [run_callFunc_extern (e := Extern.MathFloor.toIntegral "math.archCeil" .up) Tryd.func83 (by kernel_rfl) (by kernel_rfl) (by kernel_rfl) (by kernel_rfl)]
 unfold ceilB at h
 have : (Extern.MathFloor.toIntegral "math.archCeil" .up #[.float .f64 b]).run Tryd.prog w = .ok (.float .f64 r) w := by
  change Sem.run Tryd.prog (match FloatKind.f64.decode b with
   | .nan s t =>
    if FloatKind.f64.format.quiet t = t then pure (Value.float .f64 b) else do
     let kept ← choose (.extern "math.Floor,Ceil,Trunc,RoundToEven.signallingNaN kept" 2)
     pure (Value.float .f64 (if kept == 1 then b else FloatKind.f64.encode (.nan s (FloatKind.f64.format.quiet t))))
   | d => pure (Value.float .f64 (FloatKind.f64.encode (d.integral .up)))) w = _
  cases hd : FloatKind.f64.decode b with
  | nan s t => rw [hd] at h; cases h
  | infinity s => rw [hd] at h; cases h; rfl
  | number s m e => rw [hd] at h; cases h; rfl
 rw [this]
 rfl
def math_Ceil.f (a0 : Nat) : Option Nat := ceilB a0
set_option maxRecDepth 100000 in
theorem math_Ceil.calls (a0 : Nat) (r : Nat) (w : World) (h : math_Ceil.f a0 = some r) :
  Calls Tryd.prog 50 #[.float .f64 a0] w fun e w' => e = .returned (.float .f64 r) ∧ Drawn0 w w' := by
 have h83 := ext83 a0 r h
 clear h
 go_enter Tryd.func50, Tryd.ntmps50
 go_wp2
 go_ret
 exact ⟨rfl, Drawn0.refl _⟩
end Go.Proofs.YtjlnfnfdibfniaaDoor.Hd
namespace Go.Proofs.YtjlnfnfdibfniaaDoor.F
open Go.RowKit Go.Proofs.YW.PWords Go.Proofs.YW.PLast Go.Proofs.YW.PMore
attribute [local go_sem] max2_int min2_int max_two min_two max_three min_three max_four min_four
set_option linter.unusedVariables false
set_option linter.unusedSimpArgs false
set_option maxRecDepth 100000
def num_nat_size.f (l0 : List Int) : Option (Int) := if (l0.length : Int) = 0 then (some 0) else (if 0 ≤ (wrap64 ((l0.length : Int) - 1)) then (if (wrap64 ((l0.length : Int) - 1)) < (l0.length : Int) then ((Hd.bits_Len32.f (rd l0 (wrap64 ((l0.length : Int) - 1)))).bind fun t128 => (some (wrap64 ((wrap64 (32 * (wrap64 ((l0.length : Int) - 1)))) + t128)))) else (none)) else (none))
set_option maxHeartbeats 8000000 in
theorem num_nat_size.calls (A0 : Option Addr) (c0 : Nat) (l0 : List Int) (r : Int) (w : World) (hr0 : Kd.C (Kd.int .u32) w A0 l0.length l0) (hc0 : l0.length ≤ c0) (h : num_nat_size.f l0 = some r) :
  Calls Tryd.prog 51 #[.slice A0 l0.length c0] w fun e w' => e = .returned (.int .i64 r) ∧ Drawn0 w w' := by
 have HR0 := am hr0
 have HC0 := am hc0
 clear hr0 hc0
 have H : (if (l0.length : Int) = 0 then (some 0) else (if 0 ≤ (wrap64 ((l0.length : Int) - 1)) then (if (wrap64 ((l0.length : Int) - 1)) < (l0.length : Int) then ((Hd.bits_Len32.f (rd l0 (wrap64 ((l0.length : Int) - 1)))).bind fun t128 => (some (wrap64 ((wrap64 (32 * (wrap64 ((l0.length : Int) - 1)))) + t128)))) else (none)) else (none))) = some r := h
 clear h
 by_cases c2 : (l0.length : Int) = 0
 ·
  rw [if_pos c2] at H
  have c2b0 : ((l0.length : Int) == 0) = true := beq_iff_eq.mpr c2
  have c2b1 : ((l0.length : Int) != 0) = false := bne_eq_false_iff_eq.mpr c2
  clear c2
  obtain rfl := Option.some.inj H
  go_enter Tryd.func51, Tryd.ntmps51
  go_wp2
  go_ret
  exact ⟨by first | rfl | (simp; done) | (simp [*]; done), by repeat (first | exact Drawn0.refl _ | apply Drawn0.step)⟩
 rw [if_neg c2] at H
 have c2b0 : ((l0.length : Int) == 0) = false := beq_eq_false_iff_ne.mpr c2
 have c2b1 : ((l0.length : Int) != 0) = true := bne_iff_ne.mpr c2
 have c2b2 : ¬ (l0 = []) := fun h_ => c2 (by rw [h_]; rfl)
 obtain ⟨ji3, hji3⟩ : ∃ j_ : Int, (wrap64 ((l0.length : Int) - 1)) = j_ := ⟨_, rfl⟩
 replace H : (if 0 ≤ (ji3) then (if (ji3) < (l0.length : Int) then ((Hd.bits_Len32.f (rd l0 (ji3))).bind fun t128 => (some (wrap64 ((wrap64 (32 * (ji3))) + t128)))) else (none)) else (none)) = some r := by first | (rw [hji3] at H; exact H) | (simp only [hji3] at H ⊢; exact H)
 have hji3w : (IntKind.i64.wrap ((l0.length : Int) - 1)) = ji3 := (i64_w _).trans hji3
 by_cases c4 : 0 ≤ (ji3)
 ·
  rw [if_pos c4] at H
  have c4b0 := dt c4
  clear c4
  by_cases c5 : (ji3) < (l0.length : Int)
  ·
   rw [if_pos c5] at H
   have c5b0 := dt c5
   clear c5
   replace H := bm H
   obtain ⟨t128, A60, H⟩ := H
   have A6 := am A60
   clear A60
   obtain rfl := Option.some.inj H
   have p127 : 0 ≤ ((ji3) : Int) := od
   have q127 : (ji3) < (l0.length : Int) := od
   obtain ⟨ad127, e127, hx127_0⟩ := Kd.at_int HR0.out (ji3) p127 q127
   cases e127
   replace p127 := eq_true p127
   replace q127 := eq_true q127
   go_enter Tryd.func51, Tryd.ntmps51
   go_wp2_with (first | ((with_reducible refine gate_callee (f := 85) rfl ?_); refine goesL_ (some 16) rfl rfl Tryd.func85 (by kernel_rfl) rfl #[.int .u32 (rd l0 (ji3))] rfl (by (try simp only [List.map_toArray, List.map_cons, List.map_nil]); first | done | (simp only [hji3]; rfl) | rfl | (simp only [List.length_drop, List.length_take]; rfl)) ?_; (with_reducible refine (Hd.bits_Len32.calls (rd l0 (ji3)) t128 _ A6.out).mono ?_); rintro e w' ⟨rfl, ⟨nd, rfl⟩⟩; refine ⟨_, rfl, ?_⟩))
   go_ret
   exact ⟨by first | rfl | (simp; done) | (simp only [← hji3] <;> (first | rfl | simp)) | (simp [*]; done), by repeat (first | exact Drawn0.refl _ | apply Drawn0.step)⟩
  rw [if_neg c5] at H
  exact absurd H (by simp)
 rw [if_neg c4] at H
 exact absurd H (by simp)
end Go.Proofs.YtjlnfnfdibfniaaDoor.F

