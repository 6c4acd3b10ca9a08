/- Words and walked functions of the proof (part 5). -/
import Derived.Test.YtjlnfnfdibfniaaDoorCDura4
import Derived.Laws.Bits64
import Derived.Laws.BitsLemmas
import Ieee.Arith
import GoSem.Core.Float
import Derived.Laws.Strings
import Derived.KernelRfl
import Derived.Laws.FloatArith
import Derived.Laws.BitsAllLaws
namespace Go.Proofs.YtjlnfnfdibfniaaDoor.F
open Go.RowKit Go.Proofs.YW.PWords Go.Proofs.YW.PLast Go.Proofs.YW.PMore
attribute [local go_sem] max2_int min2_int max_two min_two max_three min_three max_four min_four
set_option linter.unusedVariables false
set_option linter.unusedSimpArgs false
set_option maxRecDepth 100000
mutual
def num_Digits.j0 : Nat → Nat → Bool → Bool → Option (ByteArray × Int × Bool)
 | 0, _, _, _ => none
 | k + 1, x0, x4, x25 => if x25 = true then (some ((⟨#[]⟩ : ByteArray), 0, x4)) else ((num_parts.f x0).bind fun bt227 => ((num_of.f k (IntKind.u64.wrap (2 * bt227.1))).bind fun t229 => ((num_of.f k 2).bind fun t232 => ((num_of.f k 1).bind fun t235 => ((num_of.f k 1).bind fun t238 => (if bt227.1 = 4503599627370496 then (num_Digits.j1 k x4 bt227.1 bt227.2 t235 (decide (bt227.2 > (-1074))) t229 t232 t238) else (num_Digits.j1 k x4 bt227.1 bt227.2 t235 false t229 t232 t238)))))))
def num_Digits.j1 : Nat → Bool → Int → Int → List Int → Bool → List Int → List Int → List Int → Option (ByteArray × Int × Bool)
 | 0, _, _, _, _, _, _, _, _ => none
 | k + 1, x4, x5, x6, x9, x43, x242q0, x243q0, x244q0 => if x43 = true then ((num_of.f k (IntKind.u64.wrap (4 * x5))).bind fun t244 => ((num_of.f k 4).bind fun t247 => ((num_of.f k 2).bind fun t250 => (num_Digits.j2 k x4 x5 x6 x9 t244 t247 t250)))) else (num_Digits.j2 k x4 x5 x6 x9 x242q0 x243q0 x244q0)
def num_Digits.j2 : Nat → Bool → Int → Int → List Int → List Int → List Int → List Int → Option (ByteArray × Int × Bool)
 | 0, _, _, _, _, _, _, _ => none
 | k + 1, x4, x5, x6, x9, x242q0, x243q0, x244q0 => if x6 ≥ 0 then ((num_nat_up.f k x242q0 x6).bind fun t253 => ((num_nat_up.f k x9 x6).bind fun t256 => ((num_nat_up.f k x244q0 x6).bind fun t259 => (num_Digits.j3 k x4 x5 t256 t253 x243q0 t259)))) else ((num_nat_up.f k x243q0 (wrap64 (-x6))).bind fun t262 => (num_Digits.j3 k x4 x5 x9 x242q0 t262 x244q0))
def num_Digits.j3 : Nat → Bool → Int → List Int → List Int → List Int → List Int → Option (ByteArray × Int × Bool)
 | 0, _, _, _, _, _, _ => none
 | k + 1, x4, x5, x9, x242q0, x243q0, x244q0 => (num_nat_size.f x242q0).bind fun t266 => ((num_nat_size.f x243q0).bind fun t267 => ((FloatKind.f64.format.mul (floatOfInt .f64 (wrap64 ((wrap64 (t266 - t267)) - 1))) 4599094314157230187).bind fun t268 => ((Hd.math_Ceil.f t268).bind fun t269 => ((floatToIntVal .f64 t269 .i64).bind fun t270 => (if t270 ≥ 0 then ((num_nat_tens.f k x243q0 t270).bind fun t271 => (num_Digits.j4 k x4 x9 t270 x242q0 t271 x244q0 ((Int.tmod x5 2) == 0))) else ((num_nat_tens.f k x242q0 (wrap64 (-t270))).bind fun t274 => ((num_nat_tens.f k x9 (wrap64 (-t270))).bind fun t277 => ((num_nat_tens.f k x244q0 (wrap64 (-t270))).bind fun t280 => (num_Digits.j4 k x4 t277 t270 t274 x243q0 t280 ((Int.tmod x5 2) == 0))))))))))
def num_Digits.j4 : Nat → Bool → List Int → Int → List Int → List Int → List Int → Bool → Option (ByteArray × Int × Bool)
 | 0, _, _, _, _, _, _, _ => none
 | k + 1, x4, x9, x224q0, x242q0, x243q0, x244q0, x266q0 => num_Digits.l0 k x4 x9 x224q0 x242q0 x243q0 x244q0 x266q0
def num_Digits.l0 : Nat → Bool → List Int → Int → List Int → List Int → List Int → Bool → Option (ByteArray × Int × Bool)
 | 0, _, _, _, _, _, _, _ => none
 | k + 1, x4, x9, x224q0, x242q0, x243q0, x244q0, x266q0 => (Hd.num_Digits_1.f k x242q0 x244q0 x243q0 x266q0).bind fun t283 => (if t283 = true then ((num_nat_tens.f k x243q0 1).bind fun t284 => (num_Digits.l0 k x4 x9 (wrap64 (x224q0 + 1)) x242q0 t284 x244q0 x266q0)) else ((num_shortest.f k x242q0 x243q0 x9 x244q0 x266q0 x224q0).bind fun bt287 => (some (strOfNums bt287.1, bt287.2, x4))))
end
def num_Digits.f (k : Nat) (a0 : Nat) : Option (ByteArray × Int × Bool) := (math_Signbit.f a0).bind fun t224 => (if (FloatKind.f64.format.order a0 0 == some Ordering.eq) = true then (num_Digits.j0 k a0 t224 true) else ((math_IsNaN.f a0).bind fun t225 => (if t225 = true then (num_Digits.j0 k a0 t224 true) else ((math_IsInf.f a0 0).bind fun t226 => (num_Digits.j0 k a0 t224 t226)))))
theorem num_Digits.mono_l : ∀ k, (∀ y0 y1 y2, LeO (num_Digits.j0 k y0 y1 y2) (num_Digits.j0 (k + 1) y0 y1 y2)) ∧ (∀ y0 y1 y2 y3 y4 y5 y6 y7, LeO (num_Digits.j1 k y0 y1 y2 y3 y4 y5 y6 y7) (num_Digits.j1 (k + 1) y0 y1 y2 y3 y4 y5 y6 y7)) ∧ (∀ y0 y1 y2 y3 y4 y5 y6, LeO (num_Digits.j2 k y0 y1 y2 y3 y4 y5 y6) (num_Digits.j2 (k + 1) y0 y1 y2 y3 y4 y5 y6)) ∧ (∀ y0 y1 y2 y3 y4 y5, LeO (num_Digits.j3 k y0 y1 y2 y3 y4 y5) (num_Digits.j3 (k + 1) y0 y1 y2 y3 y4 y5)) ∧ (∀ y0 y1 y2 y3 y4 y5 y6, LeO (num_Digits.j4 k y0 y1 y2 y3 y4 y5 y6) (num_Digits.j4 (k + 1) y0 y1 y2 y3 y4 y5 y6)) ∧ (∀ y0 y1 y2 y3 y4 y5 y6, LeO (num_Digits.l0 k y0 y1 y2 y3 y4 y5 y6) (num_Digits.l0 (k + 1) y0 y1 y2 y3 y4 y5 y6))
 | 0 => ⟨fun _ _ _ r h => by simp [num_Digits.j0] at h, fun _ _ _ _ _ _ _ _ r h => by simp [num_Digits.j1] at h, fun _ _ _ _ _ _ _ r h => by simp [num_Digits.j2] at h, fun _ _ _ _ _ _ r h => by simp [num_Digits.j3] at h, fun _ _ _ _ _ _ _ r h => by simp [num_Digits.j4] at h, fun _ _ _ _ _ _ _ r h => by simp [num_Digits.l0] at h⟩
 | k + 1 => by
  obtain ⟨ih0, ih1, ih2, ih3, ih4, ih5⟩ := num_Digits.mono_l k
  refine ⟨?_, ?_, ?_, ?_, ?_, ?_⟩ <;> intros <;> (first | unfold num_Digits.j0 | unfold num_Digits.j1 | unfold num_Digits.j2 | unfold num_Digits.j3 | unfold num_Digits.j4 | unfold num_Digits.l0) <;> repeat' (with_reducible first | apply ih0 | apply ih1 | apply ih2 | apply ih3 | apply ih4 | apply ih5 | apply Hd.num_Digits_1.mono | apply num_nat_tens.mono | apply num_nat_up.mono | apply num_of.mono | apply num_shortest.mono | apply LeO.refl | apply LeO.none | apply LeO.ite | refine LeO.bind ?_ (fun _ => ?_))
theorem num_Digits.mono : ∀ a0 k, LeO (num_Digits.f k a0) (num_Digits.f (k + 1) a0) := by
 intro a0 k
 obtain ⟨ih0, ih1, ih2, ih3, ih4, ih5⟩ := num_Digits.mono_l k
 unfold num_Digits.f
 repeat' (with_reducible first | apply ih0 | apply ih1 | apply ih2 | apply ih3 | apply ih4 | apply ih5 | apply Hd.num_Digits_1.mono | apply num_nat_tens.mono | apply num_nat_up.mono | apply num_of.mono | apply num_shortest.mono | apply LeO.refl | apply LeO.none | apply LeO.ite | refine LeO.bind ?_ (fun _ => ?_))
def num_Digits.T9 : Bool × List (List Nat × List Nat) := (true, [([], []), ([], []), ([0, 1], [0, 1]), ([], []), ([], []), ([3, 4, 2], [3, 4]), ([], []), ([], []), ([6, 7, 5], [6, 7]), ([2, 8, 0, 1, 2], [2]), ([5, 9, 0, 1, 2, 3, 4, 5, 9], [3, 5]), ([8, 10, 0, 1, 2, 3, 4, 5, 6, 7, 8, 9, 10], [8])])
def num_Digits.B9 : List Nat := [0, 0, 3, 0, 0, 31, 0, 0, 255, 511, 1023, 2047]
theorem num_Digits.tab9 : rtab .any (opsOf Tryd.f13 9) = num_Digits.T9 := by kernel_rfl
theorem num_Digits.bits9 : waitsOk num_Digits.T9.2 num_Digits.B9 = true := by kernel_rfl
def num_Digits.T13 : Bool × List (List Nat × List Nat) := (true, [([], []), ([0], [0]), ([], []), ([2, 1], [2]), ([1, 3], [1, 3]), ([4], [4]), ([5], [5]), ([6], [6]), ([7, 3], [7]), ([8], [8]), ([9, 8, 0, 1, 2, 3, 4, 5, 6, 7, 8, 9], [9])])
def num_Digits.B13 : List Nat := [0, 1, 0, 7, 15, 31, 63, 127, 255, 511, 1023]
theorem num_Digits.tab13 : rtab .any (opsOf Tryd.f13 13) = num_Digits.T13 := by kernel_rfl
theorem num_Digits.bits13 : waitsOk num_Digits.T13.2 num_Digits.B13 = true := by kernel_rfl
def num_Digits.T16 : Bool × List (List Nat × List Nat) := (true, [([], []), ([], []), ([1], [1]), ([0, 2], [0, 2]), ([], []), ([], []), ([5], [5]), ([4, 6, 3], [4, 6]), ([], []), ([], []), ([9], [9]), ([8, 10, 7], [8, 10]), ([3, 11, 0, 1, 2, 3], [3]), ([7, 12, 0, 1, 2, 3, 4, 5, 6, 7, 12], [4, 7]), ([11, 13, 0, 1, 2, 3, 4, 5, 6, 7, 8, 9, 10, 11, 12, 13], [11])])
def num_Digits.B16 : List Nat := [0, 0, 2, 7, 0, 0, 32, 127, 0, 0, 512, 2047, 4095, 8191, 16383]
theorem num_Digits.tab16 : rtab .any (opsOf Tryd.f13 16) = num_Digits.T16 := by kernel_rfl
theorem num_Digits.bits16 : waitsOk num_Digits.T16.2 num_Digits.B16 = true := by kernel_rfl
set_option maxHeartbeats 8000000 in
theorem num_Digits.calls (k : Nat) (a0 : Nat) (r1 : ByteArray) (r2 : Int) (r3 : Bool) (w : World) (h : num_Digits.f k a0 = some (r1, r2, r3)) :
  Calls Tryd.prog 13 #[.float .f64 a0] w fun e w' => e = .returned (.tuple #[.string r1, .int .i64 r2, .bool r3]) ∧ Below w.heap.size w w' := by
 have HB := am (Below.refl w.heap.size w)
 have H : ((math_Signbit.f a0).bind fun t224 => (if (FloatKind.f64.format.order a0 0 == some Ordering.eq) = true then (num_Digits.j0 k a0 t224 true) else ((math_IsNaN.f a0).bind fun t225 => (if t225 = true then (num_Digits.j0 k a0 t224 true) else ((math_IsInf.f a0 0).bind fun t226 => (num_Digits.j0 k a0 t224 t226)))))) = some (r1, r2, r3) := h
 clear h
 replace H := bm H
 obtain ⟨t224, A20, H⟩ := H
 replace H : (if (FloatKind.f64.format.order a0 0 == some Ordering.eq) = true then (num_Digits.j0 k a0 t224 true) else ((math_IsNaN.f a0).bind fun t225 => (if t225 = true then (num_Digits.j0 k a0 t224 true) else ((math_IsInf.f a0 0).bind fun t226 => (num_Digits.j0 k a0 t224 t226))))) = some (r1, r2, r3) := H
 have A2 := am A20
 clear A20
 have HC3 := am H
 clear H
 go_enter Tryd.func13, Tryd.ntmps13
 go_upto_region 2 with (first | ((with_reducible refine gate_dst (N := 3) rfl ?_); refine box_event ?hg (N := 3) ?hd (cs := #[.int .i64 0]) (t := 3) ?hr ?_; (case hd => rfl); (case hg => rfl); (case hr => first | (go_simp; done) | (go_simp; rfl)); intro gb223 hg w4 hbox hb; have BK223 := am (hbox); have GW223 := am ((by rw [hg]; exact (below_size (lk HB)) : w.heap.size ≤ gb223)); have GE223 := GW223; replace HB := lb HB hb; clear hb hbox hg) | ((with_reducible refine gate_callee (f := 42) rfl ?_); refine gL (some 15) Tryd.func42 #[.float .f64 a0] ?_; (with_reducible refine (math_Signbit.calls a0 t224 _ A2.out).mono ?_); rintro e w' ⟨rfl, ⟨nd, rfl⟩⟩; refine ⟨_, rfl, ?_⟩))
 (try simp only [Act.put, List.setIfInBounds_toArray, List.set_cons_zero, List.set_cons_succ])
 go_cut [25] (fun v25 wc => ∃ (kq : Nat) (x25_2 : Bool), v25 = .bool x25_2 ∧ Aside0 (num_Digits.j0 kq a0 t224 x25_2 = some (r1, r2, r3)) ∧ Aside0 (kq ≤ k) ∧ Aside0 (wc.heap[gb223]? = some (.cells #[.int .i64 0] 3 (0, 0))) ∧ Aside0 (Below w.heap.size w wc))
 case first =>
  have H := HC3.out
  clear HC3
  by_cases c5 : (FloatKind.f64.format.order a0 0 == some Ordering.eq) = true
  ·
   rw [if_pos c5] at H
   have c5b0 : (FloatKind.f64.format.order a0 0 == some Ordering.eq) = true := c5
   (try (have c5b1 : decide (FloatKind.f64.format.order a0 0 = some Ordering.eq) = true := by simpa using c5))
   (try (have c5b2 : (FloatKind.f64.format.order a0 0 == some Ordering.eq) = true := by simpa using c5))
   clear c5
   (first | rw [c5b0] | (simp only [i64_w, i32_w]; rw [c5b0]) | skip)
   have H' := am H
   clear H
   go_wp2
   go_meet
   case rel => exact ⟨_, (true), eqd, H', ol, ⟨bk BK223⟩, ⟨lk HB⟩⟩
  rw [if_neg c5] at H
  have c5b0 : (FloatKind.f64.format.order a0 0 == some Ordering.eq) = false := by simpa using c5
  (try (have c5b1 : decide (FloatKind.f64.format.order a0 0 = some Ordering.eq) = false := by simpa using c5))
  (try (have c5b2 : (FloatKind.f64.format.order a0 0 == some Ordering.eq) = false := by simpa using c5))
  (try (have c5b3 : ¬ (FloatKind.f64.format.order a0 0 = some Ordering.eq) := by simpa using c5))
  clear c5
  (first | rw [c5b0] | (simp only [i64_w, i32_w]; rw [c5b0]) | skip)
  replace H := bm H
  obtain ⟨t225, A60, H⟩ := H
  replace H : (if t225 = true then (num_Digits.j0 k a0 t224 true) else ((math_IsInf.f a0 0).bind fun t226 => (num_Digits.j0 k a0 t224 t226))) = some (r1, r2, r3) := H
  have A6 := am A60
  clear A60
  by_cases c7 : t225 = true
  ·
   subst c7
   have H1 : (num_Digits.j0 k a0 t224 true) = some (r1, r2, r3) := by rw [if_pos rfl] at H; exact H
   clear H
   have H := H1
   clear H1
   have H' := am H
   clear H
   go_wp2_with (first | (go_at_call 43; (with_reducible refine (math_IsNaN.calls a0 true _ A6.out).mono ?_); rintro e w' ⟨rfl, ⟨nd, rfl⟩⟩))
   go_meet
   case rel => exact ⟨_, (true), eqd, H', ol, ⟨bk BK223⟩, ⟨lk HB⟩⟩
  replace c7 := Bool.eq_false_iff.mpr c7
  subst c7
  have H1 : ((math_IsInf.f a0 0).bind fun t226 => (num_Digits.j0 k a0 t224 t226)) = some (r1, r2, r3) := by rw [if_neg (show ¬ (false = true) by decide)] at H; exact H
  clear H
  have H := H1
  clear H1
  replace H := bm H
  obtain ⟨t226, A80, H⟩ := H
  replace H : (num_Digits.j0 k a0 t224 t226) = some (r1, r2, r3) := H
  have A8 := am A80
  clear A80
  have H' := am H
  clear H
  go_wp2_with (first | (go_at_call 43; (with_reducible refine (math_IsNaN.calls a0 false _ A6.out).mono ?_); rintro e w' ⟨rfl, ⟨nd, rfl⟩⟩) | (go_at_call 32; (with_reducible refine (math_IsInf.calls a0 0 t226 _ A8.out).mono ?_); rintro e w' ⟨rfl, ⟨nd, rfl⟩⟩))
  go_meet
  case rel => exact ⟨_, (t226), eqd, H', ol, ⟨bk BK223⟩, ⟨lk HB⟩⟩
 case rest =>
  clear HC3
  obtain ⟨kq, x25_2, rfl, HA, HJ2, BK223, HB⟩ := hcut
  cases kq with
  | zero => exact absurd HA.out (by simp [num_Digits.j0])
  | succ kj2 =>
   have H := HA.out
   clear HA
   simp only [num_Digits.j0] at H
   by_cases c9 : x25_2 = true
   ·
    subst c9
    have H1 : (some ((⟨#[]⟩ : ByteArray), 0, t224)) = some (r1, r2, r3) := by rw [if_pos rfl] at H; exact H
    clear H
    have H := H1
    clear H1
    simp only [Option.some.injEq, Prod.mk.injEq] at H
    obtain ⟨rfl, rfl, rfl⟩ := H
    have hcz10_0 : wc.cell? ⟨gb223, 0, none⟩ = some (.int .i64 0) := (blk_cell BK223.out 0).trans rfl
    have hfz10_0 := blk_frozen BK223.out 0
    go_wp2
    refine bodyPost_ret (Hd.results_tct rfl _ _ gb223 3 (.int .i64 0) (0, 0) _ rfl (by (with_reducible repeat (first | refine blk_drewN ?_ _ | refine blk_drew ?_ | refine blk_alloc ?_ _)); refine blk_put (cs := #[.int .i64 0]) ?_ 0 _ rfl; exact bk BK223) Tryd.underlying3 rfl) rfl ?_
    exact ex (lk HB)
   replace c9 := Bool.eq_false_iff.mpr c9
   subst c9
   have H1 : ((num_parts.f a0).bind fun bt227 => ((num_of.f kj2 (IntKind.u64.wrap (2 * bt227.1))).bind fun t229 => ((num_of.f kj2 2).bind fun t232 => ((num_of.f kj2 1).bind fun t235 => ((num_of.f kj2 1).bind fun t238 => (if bt227.1 = 4503599627370496 then (num_Digits.j1 kj2 t224 bt227.1 bt227.2 t235 (decide (bt227.2 > (-1074))) t229 t232 t238) else (num_Digits.j1 kj2 t224 bt227.1 bt227.2 t235 false t229 t232 t238))))))) = some (r1, r2, r3) := by rw [if_neg (show ¬ (false = true) by decide)] at H; exact H
   clear H
   have H := H1
   clear H1
   replace H := bm H
   obtain ⟨⟨t227, t228⟩, A110, H⟩ := H
   replace H : ((num_of.f kj2 (IntKind.u64.wrap (2 * t227))).bind fun t229 => ((num_of.f kj2 2).bind fun t232 => ((num_of.f kj2 1).bind fun t235 => ((num_of.f kj2 1).bind fun t238 => (if t227 = 4503599627370496 then (num_Digits.j1 kj2 t224 t227 t228 t235 (decide (t228 > (-1074))) t229 t232 t238) else (num_Digits.j1 kj2 t224 t227 t228 t235 false t229 t232 t238)))))) = some (r1, r2, r3) := H
   have A11 := am A110
   clear A110
   replace H := bm H
   obtain ⟨t229, A120, H⟩ := H
   replace H : ((num_of.f kj2 2).bind fun t232 => ((num_of.f kj2 1).bind fun t235 => ((num_of.f kj2 1).bind fun t238 => (if t227 = 4503599627370496 then (num_Digits.j1 kj2 t224 t227 t228 t235 (decide (t228 > (-1074))) t229 t232 t238) else (num_Digits.j1 kj2 t224 t227 t228 t235 false t229 t232 t238))))) = some (r1, r2, r3) := H
   have A12 := am A120
   clear A120
   replace H := bm H
   obtain ⟨t232, A130, H⟩ := H
   replace H : ((num_of.f kj2 1).bind fun t235 => ((num_of.f kj2 1).bind fun t238 => (if t227 = 4503599627370496 then (num_Digits.j1 kj2 t224 t227 t228 t235 (decide (t228 > (-1074))) t229 t232 t238) else (num_Digits.j1 kj2 t224 t227 t228 t235 false t229 t232 t238)))) = some (r1, r2, r3) := H
   have A13 := am A130
   clear A130
   replace H := bm H
   obtain ⟨t235, A140, H⟩ := H
   replace H : ((num_of.f kj2 1).bind fun t238 => (if t227 = 4503599627370496 then (num_Digits.j1 kj2 t224 t227 t228 t235 (decide (t228 > (-1074))) t229 t232 t238) else (num_Digits.j1 kj2 t224 t227 t228 t235 false t229 t232 t238))) = some (r1, r2, r3) := H
   have A14 := am A140
   clear A140
   replace H := bm H
   obtain ⟨t238, A150, H⟩ := H
   replace H : (if t227 = 4503599627370496 then (num_Digits.j1 kj2 t224 t227 t228 t235 (decide (t228 > (-1074))) t229 t232 t238) else (num_Digits.j1 kj2 t224 t227 t228 t235 false t229 t232 t238)) = some (r1, r2, r3) := H
   have A15 := am A150
   clear A150
   have HC16 := am H
   clear H
   go_upto_region 6 with (first | ((with_reducible refine gate_callee (f := 44) rfl ?_); refine gL (some 29) Tryd.func44 #[.float .f64 a0] ?_; (with_reducible refine (num_parts.calls a0 t227 t228 _ A11.out).mono ?_); rintro e w' ⟨rfl, ⟨nd, rfl⟩⟩; refine ⟨_, rfl, ?_⟩; (try (rw [drewN_self wc]; generalize hq_ : World.drewN wc _ = wc; have n0_ : Aside0 (wc.heap[gb223]? = some (.cells #[.int .i64 0] 3 (0, 0))) := ⟨by rw [← hq_]; exact (bk BK223)⟩; have n1_ : Aside0 (Below w.heap.size w wc) := ⟨by rw [← hq_]; exact (lk HB)⟩; clear BK223 HB hq_; have BK223 := n0_; have HB := n1_; clear n0_ n1_))) | ((with_reducible refine gate_callee (f := 45) rfl ?_); refine gL (some 34) Tryd.func45 #[.int .u64 (IntKind.u64.wrap (2 * t227))] ?_; (with_reducible refine (num_of.calls kj2 (IntKind.u64.wrap (2 * t227)) t229 _ A12.out).mono ?_); rintro e w17 ⟨v230, rfl, ho0, hb⟩; refine ⟨_, rfl, ?_⟩; have HO231 := am (Kd.V_lower (Kd.V_mono (ok' := fun k_ => k_ ≠ gb223) ho0 (fun k_ hk_ => (Kd.freshB (bk BK223) k_ hk_))) (below_size (lk HB))); replace BK223 := bb BK223 hb; replace HB := lb HB hb) | ((with_reducible refine gate_callee (f := 45) rfl ?_); refine gL (some 35) Tryd.func45 #[.int .u64 2] ?_; (with_reducible refine (num_of.calls kj2 2 t232 _ A13.out).mono ?_); rintro e w18 ⟨v233, rfl, ho0, hb⟩; refine ⟨_, rfl, ?_⟩; replace HO231 := vb HO231 hb; have HO234 := am (Kd.V_lower (Kd.V_mono (ok' := fun k_ => k_ ≠ gb223) ho0 (fun k_ hk_ => (Kd.freshB (bk BK223) k_ hk_))) (below_size (lk HB))); replace BK223 := bb BK223 hb; replace HB := lb HB hb) | ((with_reducible refine gate_callee (f := 45) rfl ?_); refine gL (some 36) Tryd.func45 #[.int .u64 1] ?_; (with_reducible refine (num_of.calls kj2 1 t235 _ A14.out).mono ?_); rintro e w19 ⟨v236, rfl, ho0, hb⟩; refine ⟨_, rfl, ?_⟩; replace HO231 := vb HO231 hb; replace HO234 := vb HO234 hb; have HO237 := am (Kd.V_lower (Kd.V_mono (ok' := fun k_ => k_ ≠ gb223) ho0 (fun k_ hk_ => (Kd.freshB (bk BK223) k_ hk_))) (below_size (lk HB))); replace BK223 := bb BK223 hb; replace HB := lb HB hb) | ((with_reducible refine gate_callee (f := 45) rfl ?_); refine gL (some 37) Tryd.func45 #[.int .u64 1] ?_; (with_reducible refine (num_of.calls kj2 1 t238 _ A15.out).mono ?_); rintro e w20 ⟨v239, rfl, ho0, hb⟩; refine ⟨_, rfl, ?_⟩; replace HO231 := vb HO231 hb; replace HO234 := vb HO234 hb; replace HO237 := vb HO237 hb; have HO240 := am (Kd.V_lower (Kd.V_mono (ok' := fun k_ => k_ ≠ gb223) ho0 (fun k_ hk_ => (Kd.freshB (bk BK223) k_ hk_))) (below_size (lk HB))); replace BK223 := bb BK223 hb; replace HB := lb HB hb) | ((with_reducible refine gate_dst (N := 7) rfl ?_); refine box_event ?hg (N := 7) ?hd (cs := #[.slice none 0 0]) (t := 56) ?hr ?_; (case hd => rfl); (case hg => rfl); (case hr => first | (go_simp; done) | (go_simp; rfl)); intro gb241 hg w21 hbox hb; replace HO231 := am (Kd.V_below (Kd.V_elderB (vk HO231) gb241 (Nat.le_of_eq hg.symm)) hb); replace HO234 := am (Kd.V_below (Kd.V_elderB (vk HO234) gb241 (Nat.le_of_eq hg.symm)) hb); replace HO237 := am (Kd.V_below (Kd.V_elderB (vk HO237) gb241 (Nat.le_of_eq hg.symm)) hb); replace HO240 := am (Kd.V_below (Kd.V_elderB (vk HO240) gb241 (Nat.le_of_eq hg.symm)) hb); have BK241 := am (hbox); have GW241 := am ((by rw [hg]; exact (below_size (lk HB)) : w.heap.size ≤ gb241)); have GE241 := GW241; replace HB := lb HB hb; have NB223_241 := am ((by rw [hg]; exact Nat.ne_of_lt (blk_lt (bk BK223)) : gb223 ≠ gb241)); have NB241_223 := am ((by rw [hg]; exact Nat.ne_of_gt (blk_lt (bk BK223)) : gb241 ≠ gb223)); replace BK223 := bb BK223 hb; clear hb hbox hg) | ((with_reducible refine gate_dst (N := 8) rfl ?_); refine box_event ?hg (N := 8) ?hd (cs := #[.slice none 0 0]) (t := 56) ?hr ?_; (case hd => rfl); (case hg => rfl); (case hr => first | (go_simp; done) | (go_simp; rfl)); intro gb242 hg w22 hbox hb; replace HO231 := am (Kd.V_below (Kd.V_elderB (vk HO231) gb242 (Nat.le_of_eq hg.symm)) hb); replace HO234 := am (Kd.V_below (Kd.V_elderB (vk HO234) gb242 (Nat.le_of_eq hg.symm)) hb); replace HO237 := am (Kd.V_below (Kd.V_elderB (vk HO237) gb242 (Nat.le_of_eq hg.symm)) hb); replace HO240 := am (Kd.V_below (Kd.V_elderB (vk HO240) gb242 (Nat.le_of_eq hg.symm)) hb); have BK242 := am (hbox); have GW242 := am ((by rw [hg]; exact (below_size (lk HB)) : w.heap.size ≤ gb242)); have GE242 := GW242; replace HB := lb HB hb; have NB223_242 := am ((by rw [hg]; exact Nat.ne_of_lt (blk_lt (bk BK223)) : gb223 ≠ gb242)); have NB242_223 := am ((by rw [hg]; exact Nat.ne_of_gt (blk_lt (bk BK223)) : gb242 ≠ gb223)); replace BK223 := bb BK223 hb; have NB241_242 := am ((by rw [hg]; exact Nat.ne_of_lt (blk_lt (bk BK241)) : gb241 ≠ gb242)); have NB242_241 := am ((by rw [hg]; exact Nat.ne_of_gt (blk_lt (bk BK241)) : gb242 ≠ gb241)); replace BK241 := bb BK241 hb; clear hb hbox hg) | ((with_reducible refine gate_dst (N := 10) rfl ?_); refine box_event ?hg (N := 10) ?hd (cs := #[.slice none 0 0]) (t := 56) ?hr ?_; (case hd => rfl); (case hg => rfl); (case hr => first | (go_simp; done) | (go_simp; rfl)); intro gb243 hg w23 hbox hb; replace HO231 := am (Kd.V_below (Kd.V_elderB (vk HO231) gb243 (Nat.le_of_eq hg.symm)) hb); replace HO234 := am (Kd.V_below (Kd.V_elderB (vk HO234) gb243 (Nat.le_of_eq hg.symm)) hb); replace HO237 := am (Kd.V_below (Kd.V_elderB (vk HO237) gb243 (Nat.le_of_eq hg.symm)) hb); replace HO240 := am (Kd.V_below (Kd.V_elderB (vk HO240) gb243 (Nat.le_of_eq hg.symm)) hb); have BK243 := am (hbox); have GW243 := am ((by rw [hg]; exact (below_size (lk HB)) : w.heap.size ≤ gb243)); have GE243 := GW243; replace HB := lb HB hb; have NB223_243 := am ((by rw [hg]; exact Nat.ne_of_lt (blk_lt (bk BK223)) : gb223 ≠ gb243)); have NB243_223 := am ((by rw [hg]; exact Nat.ne_of_gt (blk_lt (bk BK223)) : gb243 ≠ gb223)); replace BK223 := bb BK223 hb; have NB241_243 := am ((by rw [hg]; exact Nat.ne_of_lt (blk_lt (bk BK241)) : gb241 ≠ gb243)); have NB243_241 := am ((by rw [hg]; exact Nat.ne_of_gt (blk_lt (bk BK241)) : gb243 ≠ gb241)); replace BK241 := bb BK241 hb; have NB242_243 := am ((by rw [hg]; exact Nat.ne_of_lt (blk_lt (bk BK242)) : gb242 ≠ gb243)); have NB243_242 := am ((by rw [hg]; exact Nat.ne_of_gt (blk_lt (bk BK242)) : gb243 ≠ gb242)); replace BK242 := bb BK242 hb; clear hb hbox hg; obtain ⟨Ao24, co24, eo24⟩ := Kd.V_slice HO231.out; subst eo24; have hnb25 := NB241_223.out; have hnc25 := NB223_241.out; have hnb26 := NB241_242.out; have hnc26 := NB242_241.out; have hnb27 := NB241_243.out; have hnc27 := NB243_241.out; have hcz28_0 : w23.cell? ⟨gb241, 0, none⟩ = some (.slice none 0 0) := (blk_cell BK241.out 0).trans rfl; have hfz28_0 := blk_frozen BK241.out 0; obtain ⟨Ao29, co29, eo29⟩ := Kd.V_slice HO234.out; subst eo29; have hnb30 := NB242_223.out; have hnc30 := NB223_242.out; have hnb31 := NB242_243.out; have hnc31 := NB243_242.out; have hcz32_0 : w23.cell? ⟨gb242, 0, none⟩ = some (.slice none 0 0) := (blk_cell BK242.out 0).trans rfl; have hfz32_0 := blk_frozen BK242.out 0; obtain ⟨Ao33, co33, eo33⟩ := Kd.V_slice HO240.out; subst eo33; have hnb34 := NB243_223.out; have hnc34 := NB223_243.out; have hcz35_0 : w23.cell? ⟨gb243, 0, none⟩ = some (.slice none 0 0) := (blk_cell BK243.out 0).trans rfl; have hfz35_0 := blk_frozen BK243.out 0))
   (try simp only [Act.put, List.setIfInBounds_toArray, List.set_cons_zero, List.set_cons_succ])
   go_cut [43] (fun v43 wc => ∃ (kq : Nat) (x43_15 : Bool), v43 = .bool x43_15 ∧ Aside0 (num_Digits.j1 kq t224 t227 t228 t235 x43_15 t229 t232 t238 = some (r1, r2, r3)) ∧ Aside0 (kq ≤ kj2) ∧ Aside0 (Kd.V (Kd.int .u32) 102 wc w.heap.size (fun k_ => k_ ≠ gb223 ∧ k_ ≠ gb241 ∧ k_ ≠ gb242 ∧ k_ ≠ gb243) v236 t235) ∧ Aside0 (Kd.V (Kd.int .u32) 102 wc w.heap.size (fun k_ => k_ ≠ gb223 ∧ k_ ≠ gb241 ∧ k_ ≠ gb242 ∧ k_ ≠ gb243) (.slice Ao24 t229.length co24) t229) ∧ Aside0 (Kd.V (Kd.int .u32) 102 wc w.heap.size (fun k_ => k_ ≠ gb223 ∧ k_ ≠ gb241 ∧ k_ ≠ gb242 ∧ k_ ≠ gb243) (.slice Ao29 t232.length co29) t232) ∧ Aside0 (Kd.V (Kd.int .u32) 102 wc w.heap.size (fun k_ => k_ ≠ gb223 ∧ k_ ≠ gb241 ∧ k_ ≠ gb242 ∧ k_ ≠ gb243) (.slice Ao33 t238.length co33) t238) ∧ Aside0 (wc.heap[gb223]? = some (.cells #[.int .i64 0] 3 (0, 0))) ∧ Aside0 (wc.heap[gb241]? = some (.cells #[(.slice Ao24 t229.length co24)] 56 (0, 0))) ∧ Aside0 (wc.heap[gb242]? = some (.cells #[(.slice Ao29 t232.length co29)] 56 (0, 0))) ∧ Aside0 (wc.heap[gb243]? = some (.cells #[(.slice Ao33 t238.length co33)] 56 (0, 0))) ∧ Aside0 (Below w.heap.size w wc))
   case first =>
    have H := HC16.out
    clear HC16
    by_cases c36 : t227 = 4503599627370496
    ·
     rw [if_pos c36] at H
     have c36b0 : (t227 == 4503599627370496) = true := beq_iff_eq.mpr c36
     have c36b1 : (t227 != 4503599627370496) = false := bne_eq_false_iff_eq.mpr c36
     clear c36
     (first | rw [c36b0] | (simp only [i64_w, i32_w]; rw [c36b0]) | skip)
     have H' := am H
     clear H
     go_wp2
     go_meet
     case rel => exact ⟨_, (decide (t228 > (-1074))), eqd, H', ⟨by have := HJ2.out; first | omega | exact Nat.le_refl _⟩, ⟨by exact vy <| Kd.V_mono (Kd.V_far (p := ⟨gb243, 0, none⟩) (Kd.V_far (p := ⟨gb242, 0, none⟩) (Kd.V_far (p := ⟨gb241, 0, none⟩) (Kd.V_mono (Kd.V_mono (Kd.V_mono HO237.out (fun k_ hk => (⟨hk, hk.1.1.2⟩ : _ ∧ k_ ≠ gb241))) (fun k_ hk => (⟨hk, hk.1.1.2⟩ : _ ∧ k_ ≠ gb242))) (fun k_ hk => (⟨hk, hk.1.1.2⟩ : _ ∧ k_ ≠ gb243))) (fun _ hk => hk.1.1.2) (.slice Ao24 t229.length co24)) (fun _ hk => hk.1.2) (.slice Ao29 t232.length co29)) (fun _ hk => hk.2) (.slice Ao33 t238.length co33)) (fun _ hk => ⟨hk.1.1.1.1.1.1, ⟨hk.1.1.1.1.1.2, ⟨hk.1.1.1.1.2, hk.1.1.1.2⟩⟩⟩)⟩, ⟨by exact vy <| Kd.V_mono (Kd.V_far (p := ⟨gb243, 0, none⟩) (Kd.V_far (p := ⟨gb242, 0, none⟩) (Kd.V_far (p := ⟨gb241, 0, none⟩) (Kd.V_mono (Kd.V_mono (Kd.V_mono HO231.out (fun k_ hk => (⟨hk, hk.1.1.2⟩ : _ ∧ k_ ≠ gb241))) (fun k_ hk => (⟨hk, hk.1.1.2⟩ : _ ∧ k_ ≠ gb242))) (fun k_ hk => (⟨hk, hk.1.1.2⟩ : _ ∧ k_ ≠ gb243))) (fun _ hk => hk.1.1.2) (.slice Ao24 t229.length co24)) (fun _ hk => hk.1.2) (.slice Ao29 t232.length co29)) (fun _ hk => hk.2) (.slice Ao33 t238.length co33)) (fun _ hk => ⟨hk.1.1.1.1.1.1, ⟨hk.1.1.1.1.1.2, ⟨hk.1.1.1.1.2, hk.1.1.1.2⟩⟩⟩)⟩, ⟨by exact vy <| Kd.V_mono (Kd.V_far (p := ⟨gb243, 0, none⟩) (Kd.V_far (p := ⟨gb242, 0, none⟩) (Kd.V_far (p := ⟨gb241, 0, none⟩) (Kd.V_mono (Kd.V_mono (Kd.V_mono HO234.out (fun k_ hk => (⟨hk, hk.1.1.2⟩ : _ ∧ k_ ≠ gb241))) (fun k_ hk => (⟨hk, hk.1.1.2⟩ : _ ∧ k_ ≠ gb242))) (fun k_ hk => (⟨hk, hk.1.1.2⟩ : _ ∧ k_ ≠ gb243))) (fun _ hk => hk.1.1.2) (.slice Ao24 t229.length co24)) (fun _ hk => hk.1.2) (.slice Ao29 t232.length co29)) (fun _ hk => hk.2) (.slice Ao33 t238.length co33)) (fun _ hk => ⟨hk.1.1.1.1.1.1, ⟨hk.1.1.1.1.1.2, ⟨hk.1.1.1.1.2, hk.1.1.1.2⟩⟩⟩)⟩, ⟨by exact vy <| Kd.V_mono (Kd.V_far (p := ⟨gb243, 0, none⟩) (Kd.V_far (p := ⟨gb242, 0, none⟩) (Kd.V_far (p := ⟨gb241, 0, none⟩) (Kd.V_mono (Kd.V_mono (Kd.V_mono HO240.out (fun k_ hk => (⟨hk, hk.1.1.2⟩ : _ ∧ k_ ≠ gb241))) (fun k_ hk => (⟨hk, hk.1.1.2⟩ : _ ∧ k_ ≠ gb242))) (fun k_ hk => (⟨hk, hk.1.1.2⟩ : _ ∧ k_ ≠ gb243))) (fun _ hk => hk.1.1.2) (.slice Ao24 t229.length co24)) (fun _ hk => hk.1.2) (.slice Ao29 t232.length co29)) (fun _ hk => hk.2) (.slice Ao33 t238.length co33)) (fun _ hk => ⟨hk.1.1.1.1.1.1, ⟨hk.1.1.1.1.1.2, ⟨hk.1.1.1.1.2, hk.1.1.1.2⟩⟩⟩)⟩, ⟨by refine bf NB223_243 ?_; refine bf NB223_242 ?_; refine bf NB223_241 ?_; exact bk BK223⟩, ⟨by refine bf NB241_243 ?_; refine bf NB241_242 ?_; (with_reducible repeat (first | refine blk_drewN ?_ _ | refine blk_drew ?_ | refine blk_alloc ?_ _)); refine blk_put (cs := #[.slice none 0 0]) ?_ 0 _ rfl; exact bk BK241⟩, ⟨by refine bf NB242_243 ?_; (with_reducible repeat (first | refine blk_drewN ?_ _ | refine blk_drew ?_ | refine blk_alloc ?_ _)); refine blk_put (cs := #[.slice none 0 0]) ?_ 0 _ rfl; refine bf NB242_241 ?_; exact bk BK242⟩, ⟨by (with_reducible repeat (first | refine blk_drewN ?_ _ | refine blk_drew ?_ | refine blk_alloc ?_ _)); refine blk_put (cs := #[.slice none 0 0]) ?_ 0 _ rfl; refine bf NB243_242 ?_; refine bf NB243_241 ?_; exact bk BK243⟩, ⟨lk HB⟩⟩
    rw [if_neg c36] at H
    have c36b0 : (t227 == 4503599627370496) = false := beq_eq_false_iff_ne.mpr c36
    have c36b1 : (t227 != 4503599627370496) = true := bne_iff_ne.mpr c36
    (first | rw [c36b0] | (simp only [i64_w, i32_w]; rw [c36b0]) | skip)
    have H' := am H
    clear H
    go_wp2
    go_meet
    case rel => exact ⟨_, (false), eqd, H', ⟨by have := HJ2.out; first | omega | exact Nat.le_refl _⟩, ⟨by exact vy <| Kd.V_mono (Kd.V_far (p := ⟨gb243, 0, none⟩) (Kd.V_far (p := ⟨gb242, 0, none⟩) (Kd.V_far (p := ⟨gb241, 0, none⟩) (Kd.V_mono (Kd.V_mono (Kd.V_mono HO237.out (fun k_ hk => (⟨hk, hk.1.1.2⟩ : _ ∧ k_ ≠ gb241))) (fun k_ hk => (⟨hk, hk.1.1.2⟩ : _ ∧ k_ ≠ gb242))) (fun k_ hk => (⟨hk, hk.1.1.2⟩ : _ ∧ k_ ≠ gb243))) (fun _ hk => hk.1.1.2) (.slice Ao24 t229.length co24)) (fun _ hk => hk.1.2) (.slice Ao29 t232.length co29)) (fun _ hk => hk.2) (.slice Ao33 t238.length co33)) (fun _ hk => ⟨hk.1.1.1.1.1.1, ⟨hk.1.1.1.1.1.2, ⟨hk.1.1.1.1.2, hk.1.1.1.2⟩⟩⟩)⟩, ⟨by exact vy <| Kd.V_mono (Kd.V_far (p := ⟨gb243, 0, none⟩) (Kd.V_far (p := ⟨gb242, 0, none⟩) (Kd.V_far (p := ⟨gb241, 0, none⟩) (Kd.V_mono (Kd.V_mono (Kd.V_mono HO231.out (fun k_ hk => (⟨hk, hk.1.1.2⟩ : _ ∧ k_ ≠ gb241))) (fun k_ hk => (⟨hk, hk.1.1.2⟩ : _ ∧ k_ ≠ gb242))) (fun k_ hk => (⟨hk, hk.1.1.2⟩ : _ ∧ k_ ≠ gb243))) (fun _ hk => hk.1.1.2) (.slice Ao24 t229.length co24)) (fun _ hk => hk.1.2) (.slice Ao29 t232.length co29)) (fun _ hk => hk.2) (.slice Ao33 t238.length co33)) (fun _ hk => ⟨hk.1.1.1.1.1.1, ⟨hk.1.1.1.1.1.2, ⟨hk.1.1.1.1.2, hk.1.1.1.2⟩⟩⟩)⟩, ⟨by exact vy <| Kd.V_mono (Kd.V_far (p := ⟨gb243, 0, none⟩) (Kd.V_far (p := ⟨gb242, 0, none⟩) (Kd.V_far (p := ⟨gb241, 0, none⟩) (Kd.V_mono (Kd.V_mono (Kd.V_mono HO234.out (fun k_ hk => (⟨hk, hk.1.1.2⟩ : _ ∧ k_ ≠ gb241))) (fun k_ hk => (⟨hk, hk.1.1.2⟩ : _ ∧ k_ ≠ gb242))) (fun k_ hk => (⟨hk, hk.1.1.2⟩ : _ ∧ k_ ≠ gb243))) (fun _ hk => hk.1.1.2) (.slice Ao24 t229.length co24)) (fun _ hk => hk.1.2) (.slice Ao29 t232.length co29)) (fun _ hk => hk.2) (.slice Ao33 t238.length co33)) (fun _ hk => ⟨hk.1.1.1.1.1.1, ⟨hk.1.1.1.1.1.2, ⟨hk.1.1.1.1.2, hk.1.1.1.2⟩⟩⟩)⟩, ⟨by exact vy <| Kd.V_mono (Kd.V_far (p := ⟨gb243, 0, none⟩) (Kd.V_far (p := ⟨gb242, 0, none⟩) (Kd.V_far (p := ⟨gb241, 0, none⟩) (Kd.V_mono (Kd.V_mono (Kd.V_mono HO240.out (fun k_ hk => (⟨hk, hk.1.1.2⟩ : _ ∧ k_ ≠ gb241))) (fun k_ hk => (⟨hk, hk.1.1.2⟩ : _ ∧ k_ ≠ gb242))) (fun k_ hk => (⟨hk, hk.1.1.2⟩ : _ ∧ k_ ≠ gb243))) (fun _ hk => hk.1.1.2) (.slice Ao24 t229.length co24)) (fun _ hk => hk.1.2) (.slice Ao29 t232.length co29)) (fun _ hk => hk.2) (.slice Ao33 t238.length co33)) (fun _ hk => ⟨hk.1.1.1.1.1.1, ⟨hk.1.1.1.1.1.2, ⟨hk.1.1.1.1.2, hk.1.1.1.2⟩⟩⟩)⟩, ⟨by refine bf NB223_243 ?_; refine bf NB223_242 ?_; refine bf NB223_241 ?_; exact bk BK223⟩, ⟨by refine bf NB241_243 ?_; refine bf NB241_242 ?_; (with_reducible repeat (first | refine blk_drewN ?_ _ | refine blk_drew ?_ | refine blk_alloc ?_ _)); refine blk_put (cs := #[.slice none 0 0]) ?_ 0 _ rfl; exact bk BK241⟩, ⟨by refine bf NB242_243 ?_; (with_reducible repeat (first | refine blk_drewN ?_ _ | refine blk_drew ?_ | refine blk_alloc ?_ _)); refine blk_put (cs := #[.slice none 0 0]) ?_ 0 _ rfl; refine bf NB242_241 ?_; exact bk BK242⟩, ⟨by (with_reducible repeat (first | refine blk_drewN ?_ _ | refine blk_drew ?_ | refine blk_alloc ?_ _)); refine blk_put (cs := #[.slice none 0 0]) ?_ 0 _ rfl; refine bf NB243_242 ?_; refine bf NB243_241 ?_; exact bk BK243⟩, ⟨lk HB⟩⟩
   case rest =>
    clear HC16
    obtain ⟨kq, x43_15, rfl, HA, HJ15, HO_9, HO_242q0, HO_243q0, HO_244q0, BK223, BK241, BK242, BK243, HB⟩ := hcut
    cases kq with
    | zero => exact absurd HA.out (by simp [num_Digits.j1])
    | succ kj15 =>
     have H := HA.out
     clear HA
     simp only [num_Digits.j1] at H
     have HC37 := am H
     clear H
     go_upto_if 43 with (fail)
     go_cut [] (fun wc => ∃ (kq : Nat) (x242q0_36 : List Int) (x243q0_36 : List Int) (x244q0_36 : List Int) (u242000 : Value) (u243000 : Value) (u244000 : Value), Aside0 (num_Digits.j2 kq t224 t227 t228 t235 x242q0_36 x243q0_36 x244q0_36 = some (r1, r2, r3)) ∧ Aside0 (kq ≤ kj15) ∧ Aside0 (Kd.V (Kd.int .u32) 102 wc w.heap.size (fun k_ => k_ ≠ gb223 ∧ k_ ≠ gb241 ∧ k_ ≠ gb242 ∧ k_ ≠ gb243) v236 t235) ∧ Aside0 (Kd.V (Kd.int .u32) 102 wc w.heap.size (fun k_ => k_ ≠ gb223 ∧ k_ ≠ gb241 ∧ k_ ≠ gb242 ∧ k_ ≠ gb243) u242000 x242q0_36) ∧ Aside0 (Kd.V (Kd.int .u32) 102 wc w.heap.size (fun k_ => k_ ≠ gb223 ∧ k_ ≠ gb241 ∧ k_ ≠ gb242 ∧ k_ ≠ gb243) u243000 x243q0_36) ∧ Aside0 (Kd.V (Kd.int .u32) 102 wc w.heap.size (fun k_ => k_ ≠ gb223 ∧ k_ ≠ gb241 ∧ k_ ≠ gb242 ∧ k_ ≠ gb243) u244000 x244q0_36) ∧ Aside0 (wc.heap[gb223]? = some (.cells #[.int .i64 0] 3 (0, 0))) ∧ Aside0 (wc.heap[gb241]? = some (.cells #[u242000] 56 (0, 0))) ∧ Aside0 (wc.heap[gb242]? = some (.cells #[u243000] 56 (0, 0))) ∧ Aside0 (wc.heap[gb243]? = some (.cells #[u244000] 56 (0, 0))) ∧ Aside0 (Below w.heap.size w wc))
     case first =>
      have H := HC37.out
      clear HC37
      by_cases c38 : x43_15 = true
      ·
       subst c38
       have H1 : ((num_of.f kj15 (IntKind.u64.wrap (4 * t227))).bind fun t244 => ((num_of.f kj15 4).bind fun t247 => ((num_of.f kj15 2).bind fun t250 => (num_Digits.j2 kj15 t224 t227 t228 t235 t244 t247 t250)))) = some (r1, r2, r3) := by rw [if_pos rfl] at H; exact H
       clear H
       have H := H1
       clear H1
       replace H := bm H
       obtain ⟨t244, A390, H⟩ := H
       replace H : ((num_of.f kj15 4).bind fun t247 => ((num_of.f kj15 2).bind fun t250 => (num_Digits.j2 kj15 t224 t227 t228 t235 t244 t247 t250))) = some (r1, r2, r3) := H
       have A39 := am A390
       clear A390
       replace H := bm H
       obtain ⟨t247, A400, H⟩ := H
       replace H : ((num_of.f kj15 2).bind fun t250 => (num_Digits.j2 kj15 t224 t227 t228 t235 t244 t247 t250)) = some (r1, r2, r3) := H
       have A40 := am A400
       clear A400
       replace H := bm H
       obtain ⟨t250, A410, H⟩ := H
       replace H : (num_Digits.j2 kj15 t224 t227 t228 t235 t244 t247 t250) = some (r1, r2, r3) := H
       have A41 := am A410
       clear A410
       have H' := am H
       clear H
       go_wp2_with (first | ((with_reducible refine gate_callee (f := 45) rfl ?_); refine gL (some 46) Tryd.func45 #[.int .u64 (IntKind.u64.wrap (4 * t227))] ?_; (with_reducible refine (num_of.calls kj15 (IntKind.u64.wrap (4 * t227)) t244 _ A39.out).mono ?_); rintro e w42 ⟨v245, rfl, ho0, hb⟩; refine ⟨_, rfl, ?_⟩; replace HO_9 := vb HO_9 hb; replace HO_242q0 := vb HO_242q0 hb; replace HO_243q0 := vb HO_243q0 hb; replace HO_244q0 := vb HO_244q0 hb; have HO246 := am (Kd.V_lower (Kd.V_mono (ok' := fun k_ => k_ ≠ gb223 ∧ k_ ≠ gb241 ∧ k_ ≠ gb242 ∧ k_ ≠ gb243) ho0 (fun k_ hk_ => ⟨(Kd.freshB (bk BK223) k_ hk_), (Kd.freshB (bk BK241) k_ hk_), (Kd.freshB (bk BK242) k_ hk_), (Kd.freshB (bk BK243) k_ hk_)⟩)) (below_size (lk HB))); replace BK223 := bb BK223 hb; replace BK241 := bb BK241 hb; replace BK242 := bb BK242 hb; replace BK243 := bb BK243 hb; replace HB := lb HB hb) | ((with_reducible refine gate_callee (f := 45) rfl ?_); refine gL (some 47) Tryd.func45 #[.int .u64 4] ?_; (with_reducible refine (num_of.calls kj15 4 t247 _ A40.out).mono ?_); rintro e w43 ⟨v248, rfl, ho0, hb⟩; refine ⟨_, rfl, ?_⟩; replace HO_9 := vb HO_9 hb; replace HO_242q0 := vb HO_242q0 hb; replace HO_243q0 := vb HO_243q0 hb; replace HO_244q0 := vb HO_244q0 hb; replace HO246 := vb HO246 hb; have HO249 := am (Kd.V_lower (Kd.V_mono (ok' := fun k_ => k_ ≠ gb223 ∧ k_ ≠ gb241 ∧ k_ ≠ gb242 ∧ k_ ≠ gb243) ho0 (fun k_ hk_ => ⟨(Kd.freshB (bk BK223) k_ hk_), (Kd.freshB (bk BK241) k_ hk_), (Kd.freshB (bk BK242) k_ hk_), (Kd.freshB (bk BK243) k_ hk_)⟩)) (below_size (lk HB))); replace BK223 := bb BK223 hb; replace BK241 := bb BK241 hb; replace BK242 := bb BK242 hb; replace BK243 := bb BK243 hb; replace HB := lb HB hb) | ((with_reducible refine gate_callee (f := 45) rfl ?_); refine gL (some 48) Tryd.func45 #[.int .u64 2] ?_; (with_reducible refine (num_of.calls kj15 2 t250 _ A41.out).mono ?_); rintro e w44 ⟨v251, rfl, ho0, hb⟩; refine ⟨_, rfl, ?_⟩; replace HO_9 := vb HO_9 hb; replace HO_242q0 := vb HO_242q0 hb; replace HO_243q0 := vb HO_243q0 hb; replace HO_244q0 := vb HO_244q0 hb; replace HO246 := vb HO246 hb; replace HO249 := vb HO249 hb; have HO252 := am (Kd.V_lower (Kd.V_mono (ok' := fun k_ => k_ ≠ gb223 ∧ k_ ≠ gb241 ∧ k_ ≠ gb242 ∧ k_ ≠ gb243) ho0 (fun k_ hk_ => ⟨(Kd.freshB (bk BK223) k_ hk_), (Kd.freshB (bk BK241) k_ hk_), (Kd.freshB (bk BK242) k_ hk_), (Kd.freshB (bk BK243) k_ hk_)⟩)) (below_size (lk HB))); replace BK223 := bb BK223 hb; replace BK241 := bb BK241 hb; replace BK242 := bb BK242 hb; replace BK243 := bb BK243 hb; replace HB := lb HB hb; obtain ⟨Ao45, co45, eo45⟩ := Kd.V_slice HO246.out; subst eo45; have hnb46 := NB241_223.out; have hnc46 := NB223_241.out; have hnb47 := NB241_242.out; have hnc47 := NB242_241.out; have hnb48 := NB241_243.out; have hnc48 := NB243_241.out; have hcz49_0 : w44.cell? ⟨gb241, 0, none⟩ = some (.slice Ao24 t229.length co24) := (blk_cell BK241.out 0).trans rfl; have hfz49_0 := blk_frozen BK241.out 0; obtain ⟨Ao50, co50, eo50⟩ := Kd.V_slice HO249.out; subst eo50; have hnb51 := NB242_223.out; have hnc51 := NB223_242.out; have hnb52 := NB242_243.out; have hnc52 := NB243_242.out; have hcz53_0 : w44.cell? ⟨gb242, 0, none⟩ = some (.slice Ao29 t232.length co29) := (blk_cell BK242.out 0).trans rfl; have hfz53_0 := blk_frozen BK242.out 0; obtain ⟨Ao54, co54, eo54⟩ := Kd.V_slice HO252.out; subst eo54; have hnb55 := NB243_223.out; have hnc55 := NB223_243.out; have hcz56_0 : w44.cell? ⟨gb243, 0, none⟩ = some (.slice Ao33 t238.length co33) := (blk_cell BK243.out 0).trans rfl; have hfz56_0 := blk_frozen BK243.out 0))
       go_meet
       case rel => exact ⟨_, (t244), (t247), (t250), (.slice Ao45 t244.length co45), (.slice Ao50 t247.length co50), (.slice Ao54 t250.length co54), H', ⟨by have := HJ2.out; have := HJ15.out; first | omega | exact Nat.le_refl _⟩, ⟨by exact vy <| Kd.V_mono (Kd.V_far (p := ⟨gb243, 0, none⟩) (Kd.V_far (p := ⟨gb242, 0, none⟩) (Kd.V_far (p := ⟨gb241, 0, none⟩) (Kd.V_mono (Kd.V_mono (Kd.V_mono HO_9.out (fun k_ hk => (⟨hk, hk.2.1⟩ : _ ∧ k_ ≠ gb241))) (fun k_ hk => (⟨hk, hk.1.2.2.1⟩ : _ ∧ k_ ≠ gb242))) (fun k_ hk => (⟨hk, hk.1.1.2.2.2⟩ : _ ∧ k_ ≠ gb243))) (fun _ hk => hk.1.1.2) (.slice Ao45 t244.length co45)) (fun _ hk => hk.1.2) (.slice Ao50 t247.length co50)) (fun _ hk => hk.2) (.slice Ao54 t250.length co54)) (fun _ hk => ⟨hk.1.1.1.1, ⟨hk.1.1.1.2.1, ⟨hk.1.1.1.2.2.1, hk.1.1.1.2.2.2⟩⟩⟩)⟩, ⟨by exact vy <| Kd.V_mono (Kd.V_far (p := ⟨gb243, 0, none⟩) (Kd.V_far (p := ⟨gb242, 0, none⟩) (Kd.V_far (p := ⟨gb241, 0, none⟩) (Kd.V_mono (Kd.V_mono (Kd.V_mono HO246.out (fun k_ hk => (⟨hk, hk.2.1⟩ : _ ∧ k_ ≠ gb241))) (fun k_ hk => (⟨hk, hk.1.2.2.1⟩ : _ ∧ k_ ≠ gb242))) (fun k_ hk => (⟨hk, hk.1.1.2.2.2⟩ : _ ∧ k_ ≠ gb243))) (fun _ hk => hk.1.1.2) (.slice Ao45 t244.length co45)) (fun _ hk => hk.1.2) (.slice Ao50 t247.length co50)) (fun _ hk => hk.2) (.slice Ao54 t250.length co54)) (fun _ hk => ⟨hk.1.1.1.1, ⟨hk.1.1.1.2.1, ⟨hk.1.1.1.2.2.1, hk.1.1.1.2.2.2⟩⟩⟩)⟩, ⟨by exact vy <| Kd.V_mono (Kd.V_far (p := ⟨gb243, 0, none⟩) (Kd.V_far (p := ⟨gb242, 0, none⟩) (Kd.V_far (p := ⟨gb241, 0, none⟩) (Kd.V_mono (Kd.V_mono (Kd.V_mono HO249.out (fun k_ hk => (⟨hk, hk.2.1⟩ : _ ∧ k_ ≠ gb241))) (fun k_ hk => (⟨hk, hk.1.2.2.1⟩ : _ ∧ k_ ≠ gb242))) (fun k_ hk => (⟨hk, hk.1.1.2.2.2⟩ : _ ∧ k_ ≠ gb243))) (fun _ hk => hk.1.1.2) (.slice Ao45 t244.length co45)) (fun _ hk => hk.1.2) (.slice Ao50 t247.length co50)) (fun _ hk => hk.2) (.slice Ao54 t250.length co54)) (fun _ hk => ⟨hk.1.1.1.1, ⟨hk.1.1.1.2.1, ⟨hk.1.1.1.2.2.1, hk.1.1.1.2.2.2⟩⟩⟩)⟩, ⟨by exact vy <| Kd.V_mono (Kd.V_far (p := ⟨gb243, 0, none⟩) (Kd.V_far (p := ⟨gb242, 0, none⟩) (Kd.V_far (p := ⟨gb241, 0, none⟩) (Kd.V_mono (Kd.V_mono (Kd.V_mono HO252.out (fun k_ hk => (⟨hk, hk.2.1⟩ : _ ∧ k_ ≠ gb241))) (fun k_ hk => (⟨hk, hk.1.2.2.1⟩ : _ ∧ k_ ≠ gb242))) (fun k_ hk => (⟨hk, hk.1.1.2.2.2⟩ : _ ∧ k_ ≠ gb243))) (fun _ hk => hk.1.1.2) (.slice Ao45 t244.length co45)) (fun _ hk => hk.1.2) (.slice Ao50 t247.length co50)) (fun _ hk => hk.2) (.slice Ao54 t250.length co54)) (fun _ hk => ⟨hk.1.1.1.1, ⟨hk.1.1.1.2.1, ⟨hk.1.1.1.2.2.1, hk.1.1.1.2.2.2⟩⟩⟩)⟩, ⟨by refine bf NB223_243 ?_; refine bf NB223_242 ?_; refine bf NB223_241 ?_; exact bk BK223⟩, ⟨by refine bf NB241_243 ?_; refine bf NB241_242 ?_; (with_reducible repeat (first | refine blk_drewN ?_ _ | refine blk_drew ?_ | refine blk_alloc ?_ _)); refine blk_put (cs := #[.slice Ao24 t229.length co24]) ?_ 0 _ rfl; exact bk BK241⟩, ⟨by refine bf NB242_243 ?_; (with_reducible repeat (first | refine blk_drewN ?_ _ | refine blk_drew ?_ | refine blk_alloc ?_ _)); refine blk_put (cs := #[.slice Ao29 t232.length co29]) ?_ 0 _ rfl; refine bf NB242_241 ?_; exact bk BK242⟩, ⟨by (with_reducible repeat (first | refine blk_drewN ?_ _ | refine blk_drew ?_ | refine blk_alloc ?_ _)); refine blk_put (cs := #[.slice Ao33 t238.length co33]) ?_ 0 _ rfl; refine bf NB243_242 ?_; refine bf NB243_241 ?_; exact bk BK243⟩, ⟨lk HB⟩⟩
      replace c38 := Bool.eq_false_iff.mpr c38
      subst c38
      have H1 : (num_Digits.j2 kj15 t224 t227 t228 t235 t229 t232 t238) = some (r1, r2, r3) := by rw [if_neg (show ¬ (false = true) by decide)] at H; exact H
      clear H
      have H := H1
      clear H1
      have H' := am H
      clear H
      go_wp2
      go_meet
      case rel => exact ⟨_, (t229), (t232), (t238), (.slice Ao24 t229.length co24), (.slice Ao29 t232.length co29), (.slice Ao33 t238.length co33), H', ⟨by have := HJ2.out; have := HJ15.out; first | omega | exact Nat.le_refl _⟩, ⟨vk HO_9⟩, ⟨vk HO_242q0⟩, ⟨vk HO_243q0⟩, ⟨vk HO_244q0⟩, ⟨bk BK223⟩, ⟨bk BK241⟩, ⟨bk BK242⟩, ⟨bk BK243⟩, ⟨lk HB⟩⟩
     case rest =>
      clear HC37
      obtain ⟨kq, x242q0_36, x243q0_36, x244q0_36, u242000, u243000, u244000, HA, HJ36, HO_9, HO_242q0, HO_243q0, HO_244q0, BK223, BK241, BK242, BK243, HB⟩ := hcut
      cases kq with
      | zero => exact absurd HA.out (by simp [num_Digits.j2])
      | succ kj36 =>
       have H := HA.out
       clear HA
       simp only [num_Digits.j2] at H
       have HC57 := am H
       clear H
       go_upto_if 50 with (fail)
       go_cut [9] (fun v9 wc => ∃ (kq : Nat) (x9_56 : List Int) (x242q0_56 : List Int) (x243q0_56 : List Int) (x244q0_56 : List Int) (u242000 : Value) (u243000 : Value) (u244000 : Value), Aside0 (num_Digits.j3 kq t224 t227 x9_56 x242q0_56 x243q0_56 x244q0_56 = some (r1, r2, r3)) ∧ Aside0 (kq ≤ kj36) ∧ Aside0 (Kd.V (Kd.int .u32) 102 wc w.heap.size (fun k_ => k_ ≠ gb223 ∧ k_ ≠ gb241 ∧ k_ ≠ gb242 ∧ k_ ≠ gb243) v9 x9_56) ∧ Aside0 (Kd.V (Kd.int .u32) 102 wc w.heap.size (fun k_ => k_ ≠ gb223 ∧ k_ ≠ gb241 ∧ k_ ≠ gb242 ∧ k_ ≠ gb243) u242000 x242q0_56) ∧ Aside0 (Kd.V (Kd.int .u32) 102 wc w.heap.size (fun k_ => k_ ≠ gb223 ∧ k_ ≠ gb241 ∧ k_ ≠ gb242 ∧ k_ ≠ gb243) u243000 x243q0_56) ∧ Aside0 (Kd.V (Kd.int .u32) 102 wc w.heap.size (fun k_ => k_ ≠ gb223 ∧ k_ ≠ gb241 ∧ k_ ≠ gb242 ∧ k_ ≠ gb243) u244000 x244q0_56) ∧ Aside0 (wc.heap[gb223]? = some (.cells #[.int .i64 0] 3 (0, 0))) ∧ Aside0 (wc.heap[gb241]? = some (.cells #[u242000] 56 (0, 0))) ∧ Aside0 (wc.heap[gb242]? = some (.cells #[u243000] 56 (0, 0))) ∧ Aside0 (wc.heap[gb243]? = some (.cells #[u244000] 56 (0, 0))) ∧ Aside0 (Below w.heap.size w wc))
       case first =>
        have H := HC57.out
        clear HC57
        by_cases c58 : t228 ≥ 0
        ·
         rw [if_pos c58] at H
         have c58b0 : decide (0 ≤ t228) = true := dt c58
         clear c58
         (first | rw [c58b0] | (simp only [i64_w, i32_w]; rw [c58b0]) | skip)
         replace H := bm H
         obtain ⟨t253, A590, H⟩ := H
         replace H : ((num_nat_up.f kj36 t235 t228).bind fun t256 => ((num_nat_up.f kj36 x244q0_36 t228).bind fun t259 => (num_Digits.j3 kj36 t224 t227 t256 t253 x243q0_36 t259))) = some (r1, r2, r3) := H
         have A59 := am A590
         clear A590
         replace H := bm H
         obtain ⟨t256, A600, H⟩ := H
         replace H : ((num_nat_up.f kj36 x244q0_36 t228).bind fun t259 => (num_Digits.j3 kj36 t224 t227 t256 t253 x243q0_36 t259)) = some (r1, r2, r3) := H
         have A60 := am A600
         clear A600
         replace H := bm H
         obtain ⟨t259, A610, H⟩ := H
         replace H : (num_Digits.j3 kj36 t224 t227 t256 t253 x243q0_36 t259) = some (r1, r2, r3) := H
         have A61 := am A610
         clear A610
         have H' := am H
         clear H
         try go_wp2
         have n0_ := am (Kd.V_drew HO_9.out)
         have n1_ := am (Kd.V_drew HO_242q0.out)
         have n2_ := am (Kd.V_drew HO_243q0.out)
         have n3_ := am (Kd.V_drew HO_244q0.out)
         have n4_ := am (blk_drew BK223.out)
         have n5_ := am (blk_drew BK241.out)
         have n6_ := am (blk_drew BK242.out)
         have n7_ := am (blk_drew BK243.out)
         have n8_ := am (below_drew1 HB.out)
         clear HO_9
         clear HO_242q0
         clear HO_243q0
         clear HO_244q0
         clear BK223
         clear BK241
         clear BK242
         clear BK243
         clear HB
         have HO_9 := n0_
         have HO_242q0 := n1_
         have HO_243q0 := n2_
         have HO_244q0 := n3_
         have BK223 := n4_
         have BK241 := n5_
         have BK242 := n6_
         have BK243 := n7_
         have HB := n8_
         clear n0_ n1_ n2_ n3_ n4_ n5_ n6_ n7_ n8_
         obtain ⟨Ao63, co63, eo63⟩ := Kd.V_slice HO_242q0.out
         (first | subst eo63 | (injection eo63 with f1_ f2_ f3_; have f4_ := f1_.symm; have f5_ := f3_.symm; clear f1_ f2_ f3_; subst f4_; subst f5_))
         refine start_ (n := 12) (S := fun w' => w'.cell? ⟨gb241, 0, none⟩ = some (.slice Ao63 x242q0_36.length co63) ∧ w'.cell? ⟨gb243, 0, none⟩ = some (u244000)) (ds := [9, 11]) #[false, false, false, false, false, false, false, false, false, false, false, false] (by kernel_rfl) rfl rfl ⟨(blk_cell BK241.out 0).trans rfl, (blk_cell BK243.out 0).trans rfl⟩ (fun hHeld => ?_); refine with_tabW num_Digits.tab9 num_Digits.bits9 (fun HT_ HW_ => ?_)
         generalize wc.drew = w62 at HO_9 HO_242q0 HO_243q0 HO_244q0 BK223 BK241 BK242 BK243 HB hHeld ⊢
         refine pure_ (i := 1) (N := some 52) (v := ?_) (a' := ?_) #[false, true, false, false, false, false, false, false, false, false, false, false] rfl rfl (any_of HT_.out (by kernel_rfl)) (fun _ _ _ h => h) (Or.inl ⟨by rfl, ?_⟩) ?_ ?_
         rotate_left
         ·
          intro w'
          go_simp
          with_reducible rfl
         rotate_left
         ·
          exact pz
         refine pure_ (i := 3) (N := some 54) (v := ?_) (a' := ?_) #[false, true, false, true, false, false, false, false, false, false, false, false] rfl rfl (any_of HT_.out (by kernel_rfl)) (fun _ _ _ h => h) (Or.inl ⟨by rfl, ?_⟩) ?_ ?_
         rotate_left
         ·
          intro w'
          go_simp
          with_reducible rfl
         rotate_left
         ·
          exact pz
         refine pure_ (i := 4) (N := some 55) (v := ?_) (a' := ?_) #[false, true, false, true, true, false, false, false, false, false, false, false] rfl rfl (any_of HT_.out (by kernel_rfl)) (fun _ _ _ h => h) (Or.inl ⟨by rfl, ?_⟩) ?_ ?_
         rotate_left
         ·
          intro w'
          go_simp
          with_reducible rfl
         rotate_left
         ·
          exact pz
         refine pure_ (i := 7) (N := some 58) (v := ?_) (a' := ?_) #[false, true, false, true, true, false, false, true, false, false, false, false] rfl rfl (any_of HT_.out (by kernel_rfl)) (fun _ _ _ h => h) (Or.inl ⟨by rfl, ?_⟩) ?_ ?_
         rotate_left
         ·
          intro w'
          go_simp
          with_reducible rfl
         rotate_left
         ·
          exact pz
         refine take_ (i := 0) (N := some 51) (v := ?_) (a' := ?_) #[true, true, false, true, true, false, false, true, false, false, false, false] rfl rfl (take_ofW HT_.out HW_.out (by kernel_rfl)) (fun _ _ _ h => h) (Or.inl ⟨by rfl, ?_⟩) hHeld ?_ ?_
         rotate_left
         ·
          rintro w' ⟨s0, s1⟩
          go_simp
          with_reducible rfl
         rotate_left
         ·
          exact pz
         refine take_ (i := 6) (N := some 57) (v := ?_) (a' := ?_) #[true, true, false, true, true, false, true, true, false, false, false, false] rfl rfl (take_ofW HT_.out HW_.out (by kernel_rfl)) (fun _ _ _ h => h) (Or.inl ⟨by rfl, ?_⟩) hHeld ?_ ?_
         rotate_left
         ·
          rintro w' ⟨s0, s1⟩
          go_simp
          with_reducible rfl
         rotate_left
         ·
          exact pz
         refine one_ (i := 2) (N := some 53) #[true, true, true, true, true, false, true, true, false, false, false, false] rfl rfl (one_of HT_.out (by kernel_rfl)) (by decide) (fun K hK => ?_)
         refine goes_ Tryd.func46 (by kernel_rfl) rfl #[.slice Ao63 x242q0_36.length co63, .int .i64 t228] (by rfl) rfl rfl (by (try simp only [List.map_toArray, List.map_cons, List.map_nil]); first | done | rfl | (simp only [List.length_drop, List.length_take]; rfl) | (simp [Act.eval, Hd.wrap_u8]; done)) ?_
         with_reducible refine (num_nat_up.calls kj36 _ _ x242q0_36 t228 t253 _ ?side1 ?side2 A59.out).mono ?_
         (case side1 => exact ck (Kd.V_reads' HO_242q0.out).2.2)
         (case side2 => exact (Kd.V_reads' HO_242q0.out).2.1)
         rintro e w64 ⟨v254, rfl, ho0, hb⟩
         refine ⟨_, rfl, ?_⟩
         have n0_ := vb HO_9 hb
         have n1_ := vb HO_242q0 hb
         have n2_ := vb HO_243q0 hb
         have n3_ := vb HO_244q0 hb
         have n4_ := am (Kd.V_lower (Kd.V_mono (ok' := fun k_ => k_ ≠ gb223 ∧ k_ ≠ gb241 ∧ k_ ≠ gb242 ∧ k_ ≠ gb243) ho0 (fun k_ hk_ => ⟨(Kd.freshB (bk BK223) k_ hk_), (Kd.freshB (bk BK241) k_ hk_), (Kd.freshB (bk BK242) k_ hk_), (Kd.freshB (bk BK243) k_ hk_)⟩)) (below_size (lk HB)))
         have n5_ := bb BK223 hb
         have n6_ := bb BK241 hb
         have n7_ := bb BK242 hb
         have n8_ := bb BK243 hb
         have n9_ := lb HB hb
         clear HO_9
         clear HO_242q0
         clear HO_243q0
         clear HO_244q0
         clear BK223
         clear BK241
         clear BK242
         clear BK243
         clear HB
         have HO_9 := n0_
         have HO_242q0 := n1_
         have HO_243q0 := n2_
         have HO_244q0 := n3_
         have HO255 := n4_
         have BK223 := n5_
         have BK241 := n6_
         have BK242 := n7_
         have BK243 := n8_
         have HB := n9_
         clear n0_ n1_ n2_ n3_ n4_ n5_ n6_ n7_ n8_ n9_
         (try clear hb)
         (try clear hb2)
         (try clear hk)
         (try clear hi)
         (try clear ho0)
         obtain ⟨Ao65, co65, eo65⟩ := Kd.V_slice HO_9.out
         (first | subst eo65 | (injection eo65 with f1_ f2_ f3_; have f4_ := f1_.symm; have f5_ := f3_.symm; clear f1_ f2_ f3_; subst f4_; subst f5_))
         refine hK.out _ _ ⟨(blk_cell BK241.out 0).trans rfl, (blk_cell BK243.out 0).trans rfl⟩ (fun hHeld => ?_)
         clear hK K
         refine norm_ (a' := ?_) ?_ ?_
         rotate_left
         ·
          show Act.put _ (some 53) _ = _
          exact pz
         refine one_ (i := 5) (N := some 56) #[true, true, true, true, true, true, true, true, false, false, false, false] rfl rfl (one_of HT_.out (by kernel_rfl)) (by decide) (fun K hK => ?_)
         refine goes_ Tryd.func46 (by kernel_rfl) rfl #[.slice Ao65 t235.length co65, .int .i64 t228] (by rfl) rfl rfl (by (try simp only [List.map_toArray, List.map_cons, List.map_nil]); first | done | rfl | (simp only [List.length_drop, List.length_take]; rfl) | (simp [Act.eval, Hd.wrap_u8]; done)) ?_
         with_reducible refine (num_nat_up.calls kj36 _ _ t235 t228 t256 _ ?side1 ?side2 A60.out).mono ?_
         (case side1 => exact ck (Kd.V_reads' HO_9.out).2.2)
         (case side2 => exact (Kd.V_reads' HO_9.out).2.1)
         rintro e w66 ⟨v257, rfl, ho0, hb⟩
         refine ⟨_, rfl, ?_⟩
         have n0_ := vb HO_9 hb
         have n1_ := vb HO_242q0 hb
         have n2_ := vb HO_243q0 hb
         have n3_ := vb HO_244q0 hb
         have n4_ := vb HO255 hb
         have n5_ := am (Kd.V_lower (Kd.V_mono (ok' := fun k_ => k_ ≠ gb223 ∧ k_ ≠ gb241 ∧ k_ ≠ gb242 ∧ k_ ≠ gb243) ho0 (fun k_ hk_ => ⟨(Kd.freshB (bk BK223) k_ hk_), (Kd.freshB (bk BK241) k_ hk_), (Kd.freshB (bk BK242) k_ hk_), (Kd.freshB (bk BK243) k_ hk_)⟩)) (below_size (lk HB)))
         have n6_ := bb BK223 hb
         have n7_ := bb BK241 hb
         have n8_ := bb BK242 hb
         have n9_ := bb BK243 hb
         have n10_ := lb HB hb
         clear HO_9
         clear HO_242q0
         clear HO_243q0
         clear HO_244q0
         clear HO255
         clear BK223
         clear BK241
         clear BK242
         clear BK243
         clear HB
         have HO_9 := n0_
         have HO_242q0 := n1_
         have HO_243q0 := n2_
         have HO_244q0 := n3_
         have HO255 := n4_
         have HO258 := n5_
         have BK223 := n6_
         have BK241 := n7_
         have BK242 := n8_
         have BK243 := n9_
         have HB := n10_
         clear n0_ n1_ n2_ n3_ n4_ n5_ n6_ n7_ n8_ n9_ n10_
         (try clear hb)
         (try clear hb2)
         (try clear hk)
         (try clear hi)
         (try clear ho0)
         obtain ⟨Ao67, co67, eo67⟩ := Kd.V_slice HO_244q0.out
         (first | subst eo67 | (injection eo67 with f1_ f2_ f3_; have f4_ := f1_.symm; have f5_ := f3_.symm; clear f1_ f2_ f3_; subst f4_; subst f5_))
         refine hK.out _ _ ⟨(blk_cell BK241.out 0).trans rfl, (blk_cell BK243.out 0).trans rfl⟩ (fun hHeld => ?_)
         clear hK K
         refine norm_ (a' := ?_) ?_ ?_
         rotate_left
         ·
          show Act.put _ (some 56) _ = _
          exact pz
         refine one_ (i := 8) (N := some 59) #[true, true, true, true, true, true, true, true, true, false, false, false] rfl rfl (one_of HT_.out (by kernel_rfl)) (by decide) (fun K hK => ?_)
         refine goes_ Tryd.func46 (by kernel_rfl) rfl #[.slice Ao67 x244q0_36.length co67, .int .i64 t228] (by rfl) rfl rfl (by (try simp only [List.map_toArray, List.map_cons, List.map_nil]); first | done | rfl | (simp only [List.length_drop, List.length_take]; rfl) | (simp [Act.eval, Hd.wrap_u8]; done)) ?_
         with_reducible refine (num_nat_up.calls kj36 _ _ x244q0_36 t228 t259 _ ?side1 ?side2 A61.out).mono ?_
         (case side1 => exact ck (Kd.V_reads' HO_244q0.out).2.2)
         (case side2 => exact (Kd.V_reads' HO_244q0.out).2.1)
         rintro e w68 ⟨v260, rfl, ho0, hb⟩
         refine ⟨_, rfl, ?_⟩
         have n0_ := vb HO_9 hb
         have n1_ := vb HO_242q0 hb
         have n2_ := vb HO_243q0 hb
         have n3_ := vb HO_244q0 hb
         have n4_ := vb HO255 hb
         have n5_ := vb HO258 hb
         have n6_ := am (Kd.V_lower (Kd.V_mono (ok' := fun k_ => k_ ≠ gb223 ∧ k_ ≠ gb241 ∧ k_ ≠ gb242 ∧ k_ ≠ gb243) ho0 (fun k_ hk_ => ⟨(Kd.freshB (bk BK223) k_ hk_), (Kd.freshB (bk BK241) k_ hk_), (Kd.freshB (bk BK242) k_ hk_), (Kd.freshB (bk BK243) k_ hk_)⟩)) (below_size (lk HB)))
         have n7_ := bb BK223 hb
         have n8_ := bb BK241 hb
         have n9_ := bb BK242 hb
         have n10_ := bb BK243 hb
         have n11_ := lb HB hb
         clear HO_9
         clear HO_242q0
         clear HO_243q0
         clear HO_244q0
         clear HO255
         clear HO258
         clear BK223
         clear BK241
         clear BK242
         clear BK243
         clear HB
         have HO_9 := n0_
         have HO_242q0 := n1_
         have HO_243q0 := n2_
         have HO_244q0 := n3_
         have HO255 := n4_
         have HO258 := n5_
         have HO261 := n6_
         have BK223 := n7_
         have BK241 := n8_
         have BK242 := n9_
         have BK243 := n10_
         have HB := n11_
         clear n0_ n1_ n2_ n3_ n4_ n5_ n6_ n7_ n8_ n9_ n10_ n11_
         (try clear hb)
         (try clear hb2)
         (try clear hk)
         (try clear hi)
         (try clear ho0)
         obtain ⟨Ao69, co69, eo69⟩ := Kd.V_slice HO255.out
         (first | subst eo69 | (injection eo69 with f1_ f2_ f3_; have f4_ := f1_.symm; have f5_ := f3_.symm; clear f1_ f2_ f3_; subst f4_; subst f5_))
         obtain ⟨Ao71, co71, eo71⟩ := Kd.V_slice HO261.out
         (first | subst eo71 | (injection eo71 with f1_ f2_ f3_; have f4_ := f1_.symm; have f5_ := f3_.symm; clear f1_ f2_ f3_; subst f4_; subst f5_))
         refine hK.out _ _ ⟨(blk_cell BK241.out 0).trans rfl, (blk_cell BK243.out 0).trans rfl⟩ (fun hHeld => ?_)
         clear hK K
         refine norm_ (a' := ?_) ?_ ?_
         rotate_left
         ·
          show Act.put _ (some 59) _ = _
          exact pz
         refine last_ (i := 9) (N := none) #[true, true, true, true, true, true, true, true, true, true, false, false] rfl rfl (one_of HT_.out (by kernel_rfl)) (by decide) (fun K hK => ?_)
         have hs70 : w68.cell? ⟨gb241, 0, none⟩ = some (.slice Ao63 x242q0_36.length co63) := (blk_cell BK241.out 0).trans rfl
         have hfs70 := blk_frozen BK241.out 0
         have hns70_0 := NB223_241.out
         have hns70_2 := NB242_241.out
         have hns70_3 := NB243_241.out
         have hms70_0 := NB241_223.out
         have hms70_2 := NB241_242.out
         have hms70_3 := NB241_243.out
         refine skip_ (w1 := ?_) (by rfl) rfl ?_ ?_
         rotate_left
         ·
          go_simp
          rfl
         refine hK.out _ _ ?_
         clear hK K
         refine pure_ (i := 10) (N := some 9) (v := ?_) (a' := ?_) #[true, true, true, true, true, true, true, true, true, true, true, false] rfl rfl (any_of HT_.out (by kernel_rfl)) (fun _ _ _ h => h) (Or.inl ⟨by rfl, ?_⟩) ?_ ?_
         rotate_left
         ·
          intro w'
          go_simp
          with_reducible rfl
         rotate_left
         ·
          exact pz
         refine last_ (i := 11) (N := none) #[true, true, true, true, true, true, true, true, true, true, true, true] rfl rfl (one_of HT_.out (by kernel_rfl)) (by decide) (fun K hK => ?_)
         have hs72 : w68.cell? ⟨gb243, 0, none⟩ = some (.slice Ao67 x244q0_36.length co67) := (blk_cell BK243.out 0).trans rfl
         have hfs72 := blk_frozen BK243.out 0
         have hns72_0 := NB223_243.out
         have hns72_1 := NB241_243.out
         have hns72_2 := NB242_243.out
         have hms72_0 := NB243_223.out
         have hms72_1 := NB243_241.out
         have hms72_2 := NB243_242.out
         refine skip_ (w1 := ?_) (by rfl) rfl ?_ ?_
         rotate_left
         ·
          go_simp
          rfl
         refine hK.out _ _ ?_
         clear hK K
         refine done_ (done_of HT_.out (by kernel_rfl)) ?_
         (first | refine Hd.letter_ (fun w73 hw => ?_) | refine Hd.letterL_ (fun w73 hw => ?_) | refine Hd.letterE_ (fun w73 hw => ?_))
         have n0_ : Aside0 (Kd.V (Kd.int .u32) 102 w73 w.heap.size (fun k_ => k_ ≠ gb223 ∧ k_ ≠ gb241 ∧ k_ ≠ gb242 ∧ k_ ≠ gb243) (.slice Ao65 t235.length co65) t235) := ⟨by rw [hw]; exact (by exact vy <| Kd.V_mono (Kd.V_far (p := ⟨gb243, 0, none⟩) (Kd.V_far (p := ⟨gb241, 0, none⟩) (Kd.V_mono (Kd.V_mono HO_9.out (fun k_ hk => (⟨hk, hk.2.1⟩ : _ ∧ k_ ≠ gb241))) (fun k_ hk => (⟨hk, hk.1.2.2.2⟩ : _ ∧ k_ ≠ gb243))) (fun _ hk => hk.1.2) (.slice Ao69 t253.length co69)) (fun _ hk => hk.2) (.slice Ao71 t259.length co71)) (fun _ hk => ⟨hk.1.1.1, ⟨hk.1.1.2.1, ⟨hk.1.1.2.2.1, hk.1.1.2.2.2⟩⟩⟩))⟩
         have n1_ : Aside0 (Kd.V (Kd.int .u32) 102 w73 w.heap.size (fun k_ => k_ ≠ gb223 ∧ k_ ≠ gb241 ∧ k_ ≠ gb242 ∧ k_ ≠ gb243) (.slice Ao63 x242q0_36.length co63) x242q0_36) := ⟨by rw [hw]; exact (by exact vy <| Kd.V_mono (Kd.V_far (p := ⟨gb243, 0, none⟩) (Kd.V_far (p := ⟨gb241, 0, none⟩) (Kd.V_mono (Kd.V_mono HO_242q0.out (fun k_ hk => (⟨hk, hk.2.1⟩ : _ ∧ k_ ≠ gb241))) (fun k_ hk => (⟨hk, hk.1.2.2.2⟩ : _ ∧ k_ ≠ gb243))) (fun _ hk => hk.1.2) (.slice Ao69 t253.length co69)) (fun _ hk => hk.2) (.slice Ao71 t259.length co71)) (fun _ hk => ⟨hk.1.1.1, ⟨hk.1.1.2.1, ⟨hk.1.1.2.2.1, hk.1.1.2.2.2⟩⟩⟩))⟩
         have n2_ : Aside0 (Kd.V (Kd.int .u32) 102 w73 w.heap.size (fun k_ => k_ ≠ gb223 ∧ k_ ≠ gb241 ∧ k_ ≠ gb242 ∧ k_ ≠ gb243) u243000 x243q0_36) := ⟨by rw [hw]; exact (by exact vy <| Kd.V_mono (Kd.V_far (p := ⟨gb243, 0, none⟩) (Kd.V_far (p := ⟨gb241, 0, none⟩) (Kd.V_mono (Kd.V_mono HO_243q0.out (fun k_ hk => (⟨hk, hk.2.1⟩ : _ ∧ k_ ≠ gb241))) (fun k_ hk => (⟨hk, hk.1.2.2.2⟩ : _ ∧ k_ ≠ gb243))) (fun _ hk => hk.1.2) (.slice Ao69 t253.length co69)) (fun _ hk => hk.2) (.slice Ao71 t259.length co71)) (fun _ hk => ⟨hk.1.1.1, ⟨hk.1.1.2.1, ⟨hk.1.1.2.2.1, hk.1.1.2.2.2⟩⟩⟩))⟩
         have n3_ : Aside0 (Kd.V (Kd.int .u32) 102 w73 w.heap.size (fun k_ => k_ ≠ gb223 ∧ k_ ≠ gb241 ∧ k_ ≠ gb242 ∧ k_ ≠ gb243) (.slice Ao67 x244q0_36.length co67) x244q0_36) := ⟨by rw [hw]; exact (by exact vy <| Kd.V_mono (Kd.V_far (p := ⟨gb243, 0, none⟩) (Kd.V_far (p := ⟨gb241, 0, none⟩) (Kd.V_mono (Kd.V_mono HO_244q0.out (fun k_ hk => (⟨hk, hk.2.1⟩ : _ ∧ k_ ≠ gb241))) (fun k_ hk => (⟨hk, hk.1.2.2.2⟩ : _ ∧ k_ ≠ gb243))) (fun _ hk => hk.1.2) (.slice Ao69 t253.length co69)) (fun _ hk => hk.2) (.slice Ao71 t259.length co71)) (fun _ hk => ⟨hk.1.1.1, ⟨hk.1.1.2.1, ⟨hk.1.1.2.2.1, hk.1.1.2.2.2⟩⟩⟩))⟩
         have n4_ : Aside0 (Kd.V (Kd.int .u32) 102 w73 w.heap.size (fun k_ => k_ ≠ gb223 ∧ k_ ≠ gb241 ∧ k_ ≠ gb242 ∧ k_ ≠ gb243) (.slice Ao69 t253.length co69) t253) := ⟨by rw [hw]; exact (by exact vy <| Kd.V_mono (Kd.V_far (p := ⟨gb243, 0, none⟩) (Kd.V_far (p := ⟨gb241, 0, none⟩) (Kd.V_mono (Kd.V_mono HO255.out (fun k_ hk => (⟨hk, hk.2.1⟩ : _ ∧ k_ ≠ gb241))) (fun k_ hk => (⟨hk, hk.1.2.2.2⟩ : _ ∧ k_ ≠ gb243))) (fun _ hk => hk.1.2) (.slice Ao69 t253.length co69)) (fun _ hk => hk.2) (.slice Ao71 t259.length co71)) (fun _ hk => ⟨hk.1.1.1, ⟨hk.1.1.2.1, ⟨hk.1.1.2.2.1, hk.1.1.2.2.2⟩⟩⟩))⟩
         have n5_ : Aside0 (Kd.V (Kd.int .u32) 102 w73 w.heap.size (fun k_ => k_ ≠ gb223 ∧ k_ ≠ gb241 ∧ k_ ≠ gb242 ∧ k_ ≠ gb243) v257 t256) := ⟨by rw [hw]; exact (by exact vy <| Kd.V_mono (Kd.V_far (p := ⟨gb243, 0, none⟩) (Kd.V_far (p := ⟨gb241, 0, none⟩) (Kd.V_mono (Kd.V_mono HO258.out (fun k_ hk => (⟨hk, hk.2.1⟩ : _ ∧ k_ ≠ gb241))) (fun k_ hk => (⟨hk, hk.1.2.2.2⟩ : _ ∧ k_ ≠ gb243))) (fun _ hk => hk.1.2) (.slice Ao69 t253.length co69)) (fun _ hk => hk.2) (.slice Ao71 t259.length co71)) (fun _ hk => ⟨hk.1.1.1, ⟨hk.1.1.2.1, ⟨hk.1.1.2.2.1, hk.1.1.2.2.2⟩⟩⟩))⟩
         have n6_ : Aside0 (Kd.V (Kd.int .u32) 102 w73 w.heap.size (fun k_ => k_ ≠ gb223 ∧ k_ ≠ gb241 ∧ k_ ≠ gb242 ∧ k_ ≠ gb243) (.slice Ao71 t259.length co71) t259) := ⟨by rw [hw]; exact (by exact vy <| Kd.V_mono (Kd.V_far (p := ⟨gb243, 0, none⟩) (Kd.V_far (p := ⟨gb241, 0, none⟩) (Kd.V_mono (Kd.V_mono HO261.out (fun k_ hk => (⟨hk, hk.2.1⟩ : _ ∧ k_ ≠ gb241))) (fun k_ hk => (⟨hk, hk.1.2.2.2⟩ : _ ∧ k_ ≠ gb243))) (fun _ hk => hk.1.2) (.slice Ao69 t253.length co69)) (fun _ hk => hk.2) (.slice Ao71 t259.length co71)) (fun _ hk => ⟨hk.1.1.1, ⟨hk.1.1.2.1, ⟨hk.1.1.2.2.1, hk.1.1.2.2.2⟩⟩⟩))⟩
         have n7_ : Aside0 (w73.heap[gb223]? = some (.cells #[.int .i64 0] 3 (0, 0))) := ⟨by rw [hw]; exact (by refine bf NB223_243 ?_; refine bf NB223_241 ?_; exact bk BK223)⟩
         have n8_ : Aside0 (w73.heap[gb241]? = some (.cells #[.slice Ao69 t253.length co69] 56 (0, 0))) := ⟨by rw [hw]; exact (by refine bf NB241_243 ?_; (with_reducible repeat (first | refine blk_drewN ?_ _ | refine blk_drew ?_ | refine blk_alloc ?_ _)); refine blk_put (cs := #[.slice Ao63 x242q0_36.length co63]) ?_ 0 _ rfl; exact bk BK241)⟩
         have n9_ : Aside0 (w73.heap[gb242]? = some (.cells #[u243000] 56 (0, 0))) := ⟨by rw [hw]; exact (by refine bf NB242_243 ?_; refine bf NB242_241 ?_; exact bk BK242)⟩
         have n10_ : Aside0 (w73.heap[gb243]? = some (.cells #[.slice Ao71 t259.length co71] 56 (0, 0))) := ⟨by rw [hw]; exact (by (with_reducible repeat (first | refine blk_drewN ?_ _ | refine blk_drew ?_ | refine blk_alloc ?_ _)); refine blk_put (cs := #[.slice Ao67 x244q0_36.length co67]) ?_ 0 _ rfl; refine bf NB243_241 ?_; exact bk BK243)⟩
         have n11_ : Aside0 (Below w.heap.size w w73) := ⟨by rw [hw]; exact (lk HB)⟩
         clear hw
         (try clear HO_9)
         (try clear HO_242q0)
         (try clear HO_243q0)
         (try clear HO_244q0)
         (try clear HO255)
         (try clear HO258)
         (try clear HO261)
         (try clear BK223)
         (try clear BK241)
         (try clear BK242)
         (try clear BK243)
         (try clear HB)
         have HO_9 := n0_
         have HO_242q0 := n1_
         have HO_243q0 := n2_
         have HO_244q0 := n3_
         have HO255 := n4_
         have HO258 := n5_
         have HO261 := n6_
         have BK223 := n7_
         have BK241 := n8_
         have BK242 := n9_
         have BK243 := n10_
         have HB := n11_
         clear n0_ n1_ n2_ n3_ n4_ n5_ n6_ n7_ n8_ n9_ n10_ n11_
         try go_wp2
         go_meet
         case rel => exact ⟨_, (t256), (t253), (x243q0_36), (t259), (.slice Ao69 t253.length co69), (u243000), (.slice Ao71 t259.length co71), H', ⟨by have := HJ2.out; have := HJ15.out; have := HJ36.out; first | omega | exact Nat.le_refl _⟩, ⟨vk HO258⟩, ⟨vk HO255⟩, ⟨vk HO_243q0⟩, ⟨vk HO261⟩, ⟨bk BK223⟩, ⟨bk BK241⟩, ⟨bk BK242⟩, ⟨bk BK243⟩, ⟨lk HB⟩⟩
        rw [if_neg c58] at H
        have c58b0 : decide (0 ≤ t228) = false := decide_eq_false c58
        clear c58
        (first | rw [c58b0] | (simp only [i64_w, i32_w]; rw [c58b0]) | skip)
        replace H := bm H
        obtain ⟨t262, A740, H⟩ := H
        replace H : (num_Digits.j3 kj36 t224 t227 t235 x242q0_36 t262 x244q0_36) = some (r1, r2, r3) := H
        have A74 := am A740
        clear A740
        have H' := am H
        clear H
        have hnb75 := NB242_223.out
        have hnc75 := NB223_242.out
        have hnb76 := NB242_241.out
        have hnc76 := NB241_242.out
        have hnb77 := NB242_243.out
        have hnc77 := NB243_242.out
        have hcz78_0 : wc.cell? ⟨gb242, 0, none⟩ = some (u243000) := (blk_cell BK242.out 0).trans rfl
        have hfz78_0 := blk_frozen BK242.out 0
        obtain ⟨Ao79, co79, eo79⟩ := Kd.V_slice HO_243q0.out
        subst eo79
        go_wp2_with (first | ((with_reducible refine gate_callee (f := 46) rfl ?_); refine gL (some 63) Tryd.func46 #[.slice Ao79 x243q0_36.length co79, .int .i64 (wrap64 (-t228))] ?_; (with_reducible refine (num_nat_up.calls kj36 _ _ x243q0_36 (wrap64 (-t228)) t262 _ ?side1 ?side2 A74.out).mono ?_); (case side1 => exact ck (Kd.V_reads' HO_243q0.out).2.2); (case side2 => exact (Kd.V_reads' HO_243q0.out).2.1); rintro e w80 ⟨v263, rfl, ho0, hb⟩; refine ⟨_, rfl, ?_⟩; replace HO_9 := vb HO_9 hb; replace HO_242q0 := vb HO_242q0 hb; replace HO_243q0 := vb HO_243q0 hb; replace HO_244q0 := vb HO_244q0 hb; have HO264 := am (Kd.V_lower (Kd.V_mono (ok' := fun k_ => k_ ≠ gb223 ∧ k_ ≠ gb241 ∧ k_ ≠ gb242 ∧ k_ ≠ gb243) ho0 (fun k_ hk_ => ⟨(Kd.freshB (bk BK223) k_ hk_), (Kd.freshB (bk BK241) k_ hk_), (Kd.freshB (bk BK242) k_ hk_), (Kd.freshB (bk BK243) k_ hk_)⟩)) (below_size (lk HB))); replace BK223 := bb BK223 hb; replace BK241 := bb BK241 hb; replace BK242 := bb BK242 hb; replace BK243 := bb BK243 hb; replace HB := lb HB hb; obtain ⟨Ao81, co81, eo81⟩ := Kd.V_slice HO264.out; subst eo81; have hcz82_0 : w80.cell? ⟨gb242, 0, none⟩ = some (.slice Ao79 x243q0_36.length co79) := (blk_cell BK242.out 0).trans rfl; have hfz82_0 := blk_frozen BK242.out 0))
        go_meet
        case rel => exact ⟨_, (t235), (x242q0_36), (t262), (x244q0_36), (u242000), (.slice Ao81 t262.length co81), (u244000), H', ⟨by have := HJ2.out; have := HJ15.out; have := HJ36.out; first | omega | exact Nat.le_refl _⟩, ⟨by exact vy <| Kd.V_mono (Kd.V_far (p := ⟨gb242, 0, none⟩) (Kd.V_mono HO_9.out (fun k_ hk => (⟨hk, hk.2.2.1⟩ : _ ∧ k_ ≠ gb242))) (fun _ hk => hk.2) (.slice Ao81 t262.length co81)) (fun _ hk => ⟨hk.1.1, ⟨hk.1.2.1, ⟨hk.1.2.2.1, hk.1.2.2.2⟩⟩⟩)⟩, ⟨by exact vy <| Kd.V_mono (Kd.V_far (p := ⟨gb242, 0, none⟩) (Kd.V_mono HO_242q0.out (fun k_ hk => (⟨hk, hk.2.2.1⟩ : _ ∧ k_ ≠ gb242))) (fun _ hk => hk.2) (.slice Ao81 t262.length co81)) (fun _ hk => ⟨hk.1.1, ⟨hk.1.2.1, ⟨hk.1.2.2.1, hk.1.2.2.2⟩⟩⟩)⟩, ⟨by exact vy <| Kd.V_mono (Kd.V_far (p := ⟨gb242, 0, none⟩) (Kd.V_mono HO264.out (fun k_ hk => (⟨hk, hk.2.2.1⟩ : _ ∧ k_ ≠ gb242))) (fun _ hk => hk.2) (.slice Ao81 t262.length co81)) (fun _ hk => ⟨hk.1.1, ⟨hk.1.2.1, ⟨hk.1.2.2.1, hk.1.2.2.2⟩⟩⟩)⟩, ⟨by exact vy <| Kd.V_mono (Kd.V_far (p := ⟨gb242, 0, none⟩) (Kd.V_mono HO_244q0.out (fun k_ hk => (⟨hk, hk.2.2.1⟩ : _ ∧ k_ ≠ gb242))) (fun _ hk => hk.2) (.slice Ao81 t262.length co81)) (fun _ hk => ⟨hk.1.1, ⟨hk.1.2.1, ⟨hk.1.2.2.1, hk.1.2.2.2⟩⟩⟩)⟩, ⟨by refine bf NB223_242 ?_; exact bk BK223⟩, ⟨by refine bf NB241_242 ?_; exact bk BK241⟩, ⟨by (with_reducible repeat (first | refine blk_drewN ?_ _ | refine blk_drew ?_ | refine blk_alloc ?_ _)); refine blk_put (cs := #[.slice Ao79 x243q0_36.length co79]) ?_ 0 _ rfl; exact bk BK242⟩, ⟨by refine bf NB243_242 ?_; exact bk BK243⟩, ⟨lk HB⟩⟩
       case rest =>
        clear HC57
        obtain ⟨kq, x9_56, x242q0_56, x243q0_56, x244q0_56, u242000, u243000, u244000, HA, HJ56, HO_9, HO_242q0, HO_243q0, HO_244q0, BK223, BK241, BK242, BK243, HB⟩ := hcut
        cases kq with
        | zero => exact absurd HA.out (by simp [num_Digits.j3])
        | succ kj56 =>
         have H := HA.out
         clear HA
         simp only [num_Digits.j3] at H
         replace H := bm H
         obtain ⟨t266, A830, H⟩ := H
         replace H : ((num_nat_size.f x243q0_56).bind fun t267 => ((FloatKind.f64.format.mul (floatOfInt .f64 (wrap64 ((wrap64 (t266 - t267)) - 1))) 4599094314157230187).bind fun t268 => ((Hd.math_Ceil.f t268).bind fun t269 => ((floatToIntVal .f64 t269 .i64).bind fun t270 => (if t270 ≥ 0 then ((num_nat_tens.f kj56 x243q0_56 t270).bind fun t271 => (num_Digits.j4 kj56 t224 x9_56 t270 x242q0_56 t271 x244q0_56 ((Int.tmod t227 2) == 0))) else ((num_nat_tens.f kj56 x242q0_56 (wrap64 (-t270))).bind fun t274 => ((num_nat_tens.f kj56 x9_56 (wrap64 (-t270))).bind fun t277 => ((num_nat_tens.f kj56 x244q0_56 (wrap64 (-t270))).bind fun t280 => (num_Digits.j4 kj56 t224 t277 t270 t274 x243q0_56 t280 ((Int.tmod t227 2) == 0)))))))))) = some (r1, r2, r3) := H
         have A83 := am A830
         clear A830
         replace H := bm H
         obtain ⟨t267, A840, H⟩ := H
         replace H : ((FloatKind.f64.format.mul (floatOfInt .f64 (wrap64 ((wrap64 (t266 - t267)) - 1))) 4599094314157230187).bind fun t268 => ((Hd.math_Ceil.f t268).bind fun t269 => ((floatToIntVal .f64 t269 .i64).bind fun t270 => (if t270 ≥ 0 then ((num_nat_tens.f kj56 x243q0_56 t270).bind fun t271 => (num_Digits.j4 kj56 t224 x9_56 t270 x242q0_56 t271 x244q0_56 ((Int.tmod t227 2) == 0))) else ((num_nat_tens.f kj56 x242q0_56 (wrap64 (-t270))).bind fun t274 => ((num_nat_tens.f kj56 x9_56 (wrap64 (-t270))).bind fun t277 => ((num_nat_tens.f kj56 x244q0_56 (wrap64 (-t270))).bind fun t280 => (num_Digits.j4 kj56 t224 t277 t270 t274 x243q0_56 t280 ((Int.tmod t227 2) == 0))))))))) = some (r1, r2, r3) := H
         have A84 := am A840
         clear A840
         replace H := bm H
         obtain ⟨t268, A850, H⟩ := H
         replace H : ((Hd.math_Ceil.f t268).bind fun t269 => ((floatToIntVal .f64 t269 .i64).bind fun t270 => (if t270 ≥ 0 then ((num_nat_tens.f kj56 x243q0_56 t270).bind fun t271 => (num_Digits.j4 kj56 t224 x9_56 t270 x242q0_56 t271 x244q0_56 ((Int.tmod t227 2) == 0))) else ((num_nat_tens.f kj56 x242q0_56 (wrap64 (-t270))).bind fun t274 => ((num_nat_tens.f kj56 x9_56 (wrap64 (-t270))).bind fun t277 => ((num_nat_tens.f kj56 x244q0_56 (wrap64 (-t270))).bind fun t280 => (num_Digits.j4 kj56 t224 t277 t270 t274 x243q0_56 t280 ((Int.tmod t227 2) == 0)))))))) = some (r1, r2, r3) := H
         have hA85 := fun (w_ : World) => run_float_arith (P := Tryd.prog) w_ .mul 23 .f64 (floatOfInt .f64 (wrap64 ((wrap64 (t266 - t267)) - 1))) 4599094314157230187 t268 A850
         clear A850
         replace H := bm H
         obtain ⟨t269, A860, H⟩ := H
         replace H : ((floatToIntVal .f64 t269 .i64).bind fun t270 => (if t270 ≥ 0 then ((num_nat_tens.f kj56 x243q0_56 t270).bind fun t271 => (num_Digits.j4 kj56 t224 x9_56 t270 x242q0_56 t271 x244q0_56 ((Int.tmod t227 2) == 0))) else ((num_nat_tens.f kj56 x242q0_56 (wrap64 (-t270))).bind fun t274 => ((num_nat_tens.f kj56 x9_56 (wrap64 (-t270))).bind fun t277 => ((num_nat_tens.f kj56 x244q0_56 (wrap64 (-t270))).bind fun t280 => (num_Digits.j4 kj56 t224 t277 t270 t274 x243q0_56 t280 ((Int.tmod t227 2) == 0))))))) = some (r1, r2, r3) := H
         have A86 := am A860
         clear A860
         replace H := bm H
         obtain ⟨t270, A870, H⟩ := H
         replace H : (if t270 ≥ 0 then ((num_nat_tens.f kj56 x243q0_56 t270).bind fun t271 => (num_Digits.j4 kj56 t224 x9_56 t270 x242q0_56 t271 x244q0_56 ((Int.tmod t227 2) == 0))) else ((num_nat_tens.f kj56 x242q0_56 (wrap64 (-t270))).bind fun t274 => ((num_nat_tens.f kj56 x9_56 (wrap64 (-t270))).bind fun t277 => ((num_nat_tens.f kj56 x244q0_56 (wrap64 (-t270))).bind fun t280 => (num_Digits.j4 kj56 t224 t277 t270 t274 x243q0_56 t280 ((Int.tmod t227 2) == 0)))))) = some (r1, r2, r3) := H
         have hA87 := fun (w_ : World) => run_convert_float_int (P := Tryd.prog) w_ 23 3 .f64 .i64 t269 t270 (by rw [Tryd.underlying23]; rfl) Tryd.underlying3 A870
         clear A870
         have HC88 := am H
         clear H
         try go_wp2_with (first | ((with_reducible refine gate_dst (N := 11) rfl ?_); refine box_event ?hg (N := 11) ?hd (cs := #[.bool false]) (t := 4) ?hr ?_; (case hd => rfl); (case hg => rfl); (case hr => first | (go_simp; done) | (go_simp; rfl)); intro gb265 hg w89 hbox hb; replace HO_9 := am (Kd.V_below (Kd.V_elderB (vk HO_9) gb265 (Nat.le_of_eq hg.symm)) hb); replace HO_242q0 := am (Kd.V_below (Kd.V_elderB (vk HO_242q0) gb265 (Nat.le_of_eq hg.symm)) hb); replace HO_243q0 := am (Kd.V_below (Kd.V_elderB (vk HO_243q0) gb265 (Nat.le_of_eq hg.symm)) hb); replace HO_244q0 := am (Kd.V_below (Kd.V_elderB (vk HO_244q0) gb265 (Nat.le_of_eq hg.symm)) hb); have BK265 := am (hbox); have GW265 := am ((by rw [hg]; exact (below_size (lk HB)) : w.heap.size ≤ gb265)); have GE265 := GW265; replace HB := lb HB hb; have NB223_265 := am ((by rw [hg]; exact Nat.ne_of_lt (blk_lt (bk BK223)) : gb223 ≠ gb265)); have NB265_223 := am ((by rw [hg]; exact Nat.ne_of_gt (blk_lt (bk BK223)) : gb265 ≠ gb223)); replace BK223 := bb BK223 hb; have NB241_265 := am ((by rw [hg]; exact Nat.ne_of_lt (blk_lt (bk BK241)) : gb241 ≠ gb265)); have NB265_241 := am ((by rw [hg]; exact Nat.ne_of_gt (blk_lt (bk BK241)) : gb265 ≠ gb241)); replace BK241 := bb BK241 hb; have NB242_265 := am ((by rw [hg]; exact Nat.ne_of_lt (blk_lt (bk BK242)) : gb242 ≠ gb265)); have NB265_242 := am ((by rw [hg]; exact Nat.ne_of_gt (blk_lt (bk BK242)) : gb265 ≠ gb242)); replace BK242 := bb BK242 hb; have NB243_265 := am ((by rw [hg]; exact Nat.ne_of_lt (blk_lt (bk BK243)) : gb243 ≠ gb265)); have NB265_243 := am ((by rw [hg]; exact Nat.ne_of_gt (blk_lt (bk BK243)) : gb265 ≠ gb243)); replace BK243 := bb BK243 hb; clear hb hbox hg; have hnb90 := NB265_223.out; have hnc90 := NB223_265.out; have hnb91 := NB265_241.out; have hnc91 := NB241_265.out; have hnb92 := NB265_242.out; have hnc92 := NB242_265.out; have hnb93 := NB265_243.out; have hnc93 := NB243_265.out; have hcz94_0 : w89.cell? ⟨gb265, 0, none⟩ = some (.bool false) := (blk_cell BK265.out 0).trans rfl; have hfz94_0 := blk_frozen BK265.out 0))
         (first | refine Hd.letter_ (fun w95 hw => ?_) | refine Hd.letterL_ (fun w95 hw => ?_) | refine Hd.letterE_ (fun w95 hw => ?_))
         have n0_ : Aside0 (Kd.V (Kd.int .u32) 102 w95 w.heap.size (fun k_ => k_ ≠ gb223 ∧ k_ ≠ gb241 ∧ k_ ≠ gb242 ∧ k_ ≠ gb243 ∧ k_ ≠ gb265) u9 x9_56) := ⟨by rw [hw]; exact (by exact vy <| Kd.V_mono (Kd.V_far (p := ⟨gb265, 0, none⟩) (Kd.V_mono HO_9.out (fun k_ hk => (⟨hk, hk.2⟩ : _ ∧ k_ ≠ gb265))) (fun _ hk => hk.2) (.bool ((Int.tmod t227 2) == 0))) (fun _ hk => ⟨hk.1.1.1, ⟨hk.1.1.2.1, ⟨hk.1.1.2.2.1, ⟨hk.1.1.2.2.2, hk.1.2⟩⟩⟩⟩))⟩
         have n1_ : Aside0 (Kd.V (Kd.int .u32) 102 w95 w.heap.size (fun k_ => k_ ≠ gb223 ∧ k_ ≠ gb241 ∧ k_ ≠ gb242 ∧ k_ ≠ gb243 ∧ k_ ≠ gb265) u242000 x242q0_56) := ⟨by rw [hw]; exact (by exact vy <| Kd.V_mono (Kd.V_far (p := ⟨gb265, 0, none⟩) (Kd.V_mono HO_242q0.out (fun k_ hk => (⟨hk, hk.2⟩ : _ ∧ k_ ≠ gb265))) (fun _ hk => hk.2) (.bool ((Int.tmod t227 2) == 0))) (fun _ hk => ⟨hk.1.1.1, ⟨hk.1.1.2.1, ⟨hk.1.1.2.2.1, ⟨hk.1.1.2.2.2, hk.1.2⟩⟩⟩⟩))⟩
         have n2_ : Aside0 (Kd.V (Kd.int .u32) 102 w95 w.heap.size (fun k_ => k_ ≠ gb223 ∧ k_ ≠ gb241 ∧ k_ ≠ gb242 ∧ k_ ≠ gb243 ∧ k_ ≠ gb265) u243000 x243q0_56) := ⟨by rw [hw]; exact (by exact vy <| Kd.V_mono (Kd.V_far (p := ⟨gb265, 0, none⟩) (Kd.V_mono HO_243q0.out (fun k_ hk => (⟨hk, hk.2⟩ : _ ∧ k_ ≠ gb265))) (fun _ hk => hk.2) (.bool ((Int.tmod t227 2) == 0))) (fun _ hk => ⟨hk.1.1.1, ⟨hk.1.1.2.1, ⟨hk.1.1.2.2.1, ⟨hk.1.1.2.2.2, hk.1.2⟩⟩⟩⟩))⟩
         have n3_ : Aside0 (Kd.V (Kd.int .u32) 102 w95 w.heap.size (fun k_ => k_ ≠ gb223 ∧ k_ ≠ gb241 ∧ k_ ≠ gb242 ∧ k_ ≠ gb243 ∧ k_ ≠ gb265) u244000 x244q0_56) := ⟨by rw [hw]; exact (by exact vy <| Kd.V_mono (Kd.V_far (p := ⟨gb265, 0, none⟩) (Kd.V_mono HO_244q0.out (fun k_ hk => (⟨hk, hk.2⟩ : _ ∧ k_ ≠ gb265))) (fun _ hk => hk.2) (.bool ((Int.tmod t227 2) == 0))) (fun _ hk => ⟨hk.1.1.1, ⟨hk.1.1.2.1, ⟨hk.1.1.2.2.1, ⟨hk.1.1.2.2.2, hk.1.2⟩⟩⟩⟩))⟩
         have n4_ : Aside0 (w95.heap[gb223]? = some (.cells #[.int .i64 0] 3 (0, 0))) := ⟨by rw [hw]; exact (by refine bf NB223_265 ?_; exact bk BK223)⟩
         have n5_ : Aside0 (w95.heap[gb241]? = some (.cells #[u242000] 56 (0, 0))) := ⟨by rw [hw]; exact (by refine bf NB241_265 ?_; exact bk BK241)⟩
         have n6_ : Aside0 (w95.heap[gb242]? = some (.cells #[u243000] 56 (0, 0))) := ⟨by rw [hw]; exact (by refine bf NB242_265 ?_; exact bk BK242)⟩
         have n7_ : Aside0 (w95.heap[gb243]? = some (.cells #[u244000] 56 (0, 0))) := ⟨by rw [hw]; exact (by refine bf NB243_265 ?_; exact bk BK243)⟩
         have n8_ : Aside0 (w95.heap[gb265]? = some (.cells #[.bool ((Int.tmod t227 2) == 0)] 4 (0, 0))) := ⟨by rw [hw]; exact (by (with_reducible repeat (first | refine blk_drewN ?_ _ | refine blk_drew ?_ | refine blk_alloc ?_ _)); refine blk_put (cs := #[.bool false]) ?_ 0 _ rfl; exact bk BK265)⟩
         have n9_ : Aside0 (Below w.heap.size w w95) := ⟨by rw [hw]; exact (lk HB)⟩
         clear hw
         (try clear HO_9)
         (try clear HO_242q0)
         (try clear HO_243q0)
         (try clear HO_244q0)
         (try clear BK223)
         (try clear BK241)
         (try clear BK242)
         (try clear BK243)
         (try clear BK265)
         (try clear HB)
         have HO_9 := n0_
         have HO_242q0 := n1_
         have HO_243q0 := n2_
         have HO_244q0 := n3_
         have BK223 := n4_
         have BK241 := n5_
         have BK242 := n6_
         have BK243 := n7_
         have BK265 := n8_
         have HB := n9_
         clear n0_ n1_ n2_ n3_ n4_ n5_ n6_ n7_ n8_ n9_
         have n0_ := am (Kd.V_drew HO_9.out)
         have n1_ := am (Kd.V_drew HO_242q0.out)
         have n2_ := am (Kd.V_drew HO_243q0.out)
         have n3_ := am (Kd.V_drew HO_244q0.out)
         have n4_ := am (blk_drew BK223.out)
         have n5_ := am (blk_drew BK241.out)
         have n6_ := am (blk_drew BK242.out)
         have n7_ := am (blk_drew BK243.out)
         have n8_ := am (blk_drew BK265.out)
         have n9_ := am (below_drew1 HB.out)
         clear HO_9
         clear HO_242q0
         clear HO_243q0
         clear HO_244q0
         clear BK223
         clear BK241
         clear BK242
         clear BK243
         clear BK265
         clear HB
         have HO_9 := n0_
         have HO_242q0 := n1_
         have HO_243q0 := n2_
         have HO_244q0 := n3_
         have BK223 := n4_
         have BK241 := n5_
         have BK242 := n6_
         have BK243 := n7_
         have BK265 := n8_
         have HB := n9_
         clear n0_ n1_ n2_ n3_ n4_ n5_ n6_ n7_ n8_ n9_
         obtain ⟨Ao97, co97, eo97⟩ := Kd.V_slice HO_242q0.out
         (first | subst eo97 | (injection eo97 with f1_ f2_ f3_; have f4_ := f1_.symm; have f5_ := f3_.symm; clear f1_ f2_ f3_; subst f4_; subst f5_))
         refine start_ (n := 11) (S := fun w' => w'.cell? ⟨gb241, 0, none⟩ = some (.slice Ao97 x242q0_56.length co97) ∧ w'.cell? ⟨gb242, 0, none⟩ = some (u243000)) (ds := []) #[false, false, false, false, false, false, false, false, false, false, false] (by kernel_rfl) rfl rfl ⟨(blk_cell BK241.out 0).trans rfl, (blk_cell BK242.out 0).trans rfl⟩ (fun hHeld => ?_); refine with_tabW num_Digits.tab13 num_Digits.bits13 (fun HT_ HW_ => ?_)
         generalize w95.drew = w96 at HO_9 HO_242q0 HO_243q0 HO_244q0 BK223 BK241 BK242 BK243 BK265 HB hHeld ⊢
         refine take_ (i := 0) (N := some 68) (v := ?_) (a' := ?_) #[true, false, false, false, false, false, false, false, false, false, false] rfl rfl (take_ofW HT_.out HW_.out (by kernel_rfl)) (fun _ _ _ h => h) (Or.inl ⟨by rfl, ?_⟩) hHeld ?_ ?_
         rotate_left
         ·
          rintro w' ⟨s0, s1⟩
          go_simp
          with_reducible rfl
         rotate_left
         ·
          exact pz
         refine take_ (i := 2) (N := some 70) (v := ?_) (a' := ?_) #[true, false, true, false, false, false, false, false, false, false, false] rfl rfl (take_ofW HT_.out HW_.out (by kernel_rfl)) (fun _ _ _ h => h) (Or.inl ⟨by rfl, ?_⟩) hHeld ?_ ?_
         rotate_left
         ·
          rintro w' ⟨s0, s1⟩
          go_simp
          with_reducible rfl
         rotate_left
         ·
          exact pz
         refine one_ (i := 1) (N := some 69) #[true, true, true, false, false, false, false, false, false, false, false] rfl rfl (one_of HT_.out (by kernel_rfl)) (by decide) (fun K hK => ?_)
         refine goes_ Tryd.func51 (by kernel_rfl) rfl #[.slice Ao97 x242q0_56.length co97] (by rfl) rfl rfl (by (try simp only [List.map_toArray, List.map_cons, List.map_nil]); first | done | rfl | (simp only [List.length_drop, List.length_take]; rfl) | (simp [Act.eval, Hd.wrap_u8]; done)) ?_
         with_reducible refine (num_nat_size.calls _ _ x242q0_56 t266 _ ?side1 ?side2 A83.out).mono ?_
         (case side1 => exact ck (Kd.V_reads' HO_242q0.out).2.2)
         (case side2 => exact (Kd.V_reads' HO_242q0.out).2.1)
         rintro e w' ⟨rfl, ⟨nd, rfl⟩⟩
         refine ⟨_, rfl, ?_⟩
         obtain ⟨Ao98, co98, eo98⟩ := Kd.V_slice HO_243q0.out
         (first | subst eo98 | (injection eo98 with f1_ f2_ f3_; have f4_ := f1_.symm; have f5_ := f3_.symm; clear f1_ f2_ f3_; subst f4_; subst f5_))
         refine hK.out _ _ ⟨(blk_cell BK241.out 0).trans rfl, (blk_cell BK242.out 0).trans rfl⟩ (fun hHeld => ?_)
         clear hK K
         refine norm_ (a' := ?_) ?_ ?_
         rotate_left
         ·
          show Act.put _ (some 69) _ = _
          exact pz
         refine one_ (i := 3) (N := some 71) #[true, true, true, true, false, false, false, false, false, false, false] rfl rfl (one_of HT_.out (by kernel_rfl)) (by decide) (fun K hK => ?_)
         refine goes_ Tryd.func51 (by kernel_rfl) rfl #[.slice Ao98 x243q0_56.length co98] (by rfl) rfl rfl (by (try simp only [List.map_toArray, List.map_cons, List.map_nil]); first | done | rfl | (simp only [List.length_drop, List.length_take]; rfl) | (simp [Act.eval, Hd.wrap_u8]; done)) ?_
         with_reducible refine (num_nat_size.calls _ _ x243q0_56 t267 _ ?side1 ?side2 A84.out).mono ?_
         (case side1 => exact ck (Kd.V_reads' HO_243q0.out).2.2)
         (case side2 => exact (Kd.V_reads' HO_243q0.out).2.1)
         rintro e w' ⟨rfl, ⟨nd, rfl⟩⟩
         refine ⟨_, rfl, ?_⟩
         refine hK.out _ _ ⟨(blk_cell BK241.out 0).trans rfl, (blk_cell BK242.out 0).trans rfl⟩ (fun hHeld => ?_)
         clear hK K
         refine norm_ (a' := ?_) ?_ ?_
         rotate_left
         ·
          show Act.put _ (some 71) _ = _
          exact pz
         refine pure_ (i := 4) (N := some 72) (v := ?_) (a' := ?_) #[true, true, true, true, true, false, false, false, false, false, false] rfl rfl (any_of HT_.out (by kernel_rfl)) (fun _ _ _ h => h) (Or.inl ⟨by rfl, ?_⟩) ?_ ?_
         rotate_left
         ·
          intro w'
          go_simp
          with_reducible rfl
         rotate_left
         ·
          exact pz
         refine pure_ (i := 5) (N := some 73) (v := ?_) (a' := ?_) #[true, true, true, true, true, true, false, false, false, false, false] rfl rfl (any_of HT_.out (by kernel_rfl)) (fun _ _ _ h => h) (Or.inl ⟨by rfl, ?_⟩) ?_ ?_
         rotate_left
         ·
          intro w'
          go_simp
          with_reducible rfl
         rotate_left
         ·
          exact pz
         refine pure_ (i := 6) (N := some 74) (v := ?_) (a' := ?_) #[true, true, true, true, true, true, true, false, false, false, false] rfl rfl (any_of HT_.out (by kernel_rfl)) (fun _ _ _ h => h) (Or.inl ⟨by rfl, ?_⟩) ?_ ?_
         rotate_left
         ·
          intro w'
          go_simp
          with_reducible rfl
         rotate_left
         ·
          exact pz
         refine pure_ (i := 7) (N := some 75) (v := ?_) (a' := ?_) #[true, true, true, true, true, true, true, true, false, false, false] rfl rfl (any_of HT_.out (by kernel_rfl)) (fun _ _ _ h => h) (Or.inl ⟨by rfl, ?_⟩) ?_ ?_
         rotate_left
         ·
          intro w'
          go_simp
          with_reducible rfl
         rotate_left
         ·
          exact pz
         refine one_ (i := 8) (N := some 76) #[true, true, true, true, true, true, true, true, true, false, false] rfl rfl (one_of HT_.out (by kernel_rfl)) (by decide) (fun K hK => ?_)
         refine goes_ Tryd.func50 (by kernel_rfl) rfl #[.float .f64 t268] (by rfl) rfl rfl (by (try simp only [List.map_toArray, List.map_cons, List.map_nil]); first | done | rfl | (simp only [List.length_drop, List.length_take]; rfl) | (simp [Act.eval, Hd.wrap_u8]; done)) ?_
         with_reducible refine (Hd.math_Ceil.calls t268 t269 _ A86.out).mono ?_
         rintro e w' ⟨rfl, ⟨nd, rfl⟩⟩
         refine ⟨_, rfl, ?_⟩
         refine hK.out _ _ ⟨(blk_cell BK241.out 0).trans rfl, (blk_cell BK242.out 0).trans rfl⟩ (fun hHeld => ?_)
         clear hK K
         refine norm_ (a' := ?_) ?_ ?_
         rotate_left
         ·
          show Act.put _ (some 76) _ = _
          exact pz
         refine pure_ (i := 9) (N := some 77) (v := ?_) (a' := ?_) #[true, true, true, true, true, true, true, true, true, true, false] rfl rfl (any_of HT_.out (by kernel_rfl)) (fun _ _ _ h => h) (Or.inl ⟨by rfl, ?_⟩) ?_ ?_
         rotate_left
         ·
          intro w'
          go_simp
          with_reducible rfl
         rotate_left
         ·
          exact pz
         refine one_ (i := 10) (N := none) #[true, true, true, true, true, true, true, true, true, true, true] rfl rfl (one_of HT_.out (by kernel_rfl)) (by decide) (fun K hK => ?_)
         have hs99 : w96.cell? ⟨gb223, 0, none⟩ = some (.int .i64 0) := (blk_cell BK223.out 0).trans rfl
         have hfs99 := blk_frozen BK223.out 0
         have hns99_1 := NB241_223.out
         have hns99_2 := NB242_223.out
         have hns99_3 := NB243_223.out
         have hns99_4 := NB265_223.out
         have hms99_1 := NB223_241.out
         have hms99_2 := NB223_242.out
         have hms99_3 := NB223_243.out
         have hms99_4 := NB223_265.out
         refine skip_ (w1 := ?_) (by rfl) rfl ?_ ?_
         rotate_left
         ·
          go_simp
          rfl
         refine hK.out _ _ ⟨((cell_far (p := ⟨gb223, _, none⟩) NB241_223.out _).trans (hHeld.1)), ((cell_far (p := ⟨gb223, _, none⟩) NB242_223.out _).trans (hHeld.2))⟩ (fun hHeld => ?_)
         clear hK K
         refine done_ (done_of HT_.out (by kernel_rfl)) ?_
         (first | refine Hd.letter_ (fun w100 hw => ?_) | refine Hd.letterL_ (fun w100 hw => ?_) | refine Hd.letterE_ (fun w100 hw => ?_))
         have n0_ : Aside0 (Kd.V (Kd.int .u32) 102 w100 w.heap.size (fun k_ => k_ ≠ gb223 ∧ k_ ≠ gb241 ∧ k_ ≠ gb242 ∧ k_ ≠ gb243 ∧ k_ ≠ gb265) u9 x9_56) := ⟨by rw [hw]; exact (by exact vy <| Kd.V_mono (Kd.V_far (p := ⟨gb223, 0, none⟩) (Kd.V_mono HO_9.out (fun k_ hk => (⟨hk, hk.1⟩ : _ ∧ k_ ≠ gb223))) (fun _ hk => hk.2) (.int .i64 t270)) (fun _ hk => ⟨hk.1.1, ⟨hk.1.2.1, ⟨hk.1.2.2.1, ⟨hk.1.2.2.2.1, hk.1.2.2.2.2⟩⟩⟩⟩))⟩
         have n1_ : Aside0 (Kd.V (Kd.int .u32) 102 w100 w.heap.size (fun k_ => k_ ≠ gb223 ∧ k_ ≠ gb241 ∧ k_ ≠ gb242 ∧ k_ ≠ gb243 ∧ k_ ≠ gb265) (.slice Ao97 x242q0_56.length co97) x242q0_56) := ⟨by rw [hw]; exact (by exact vy <| Kd.V_mono (Kd.V_far (p := ⟨gb223, 0, none⟩) (Kd.V_mono HO_242q0.out (fun k_ hk => (⟨hk, hk.1⟩ : _ ∧ k_ ≠ gb223))) (fun _ hk => hk.2) (.int .i64 t270)) (fun _ hk => ⟨hk.1.1, ⟨hk.1.2.1, ⟨hk.1.2.2.1, ⟨hk.1.2.2.2.1, hk.1.2.2.2.2⟩⟩⟩⟩))⟩
         have n2_ : Aside0 (Kd.V (Kd.int .u32) 102 w100 w.heap.size (fun k_ => k_ ≠ gb223 ∧ k_ ≠ gb241 ∧ k_ ≠ gb242 ∧ k_ ≠ gb243 ∧ k_ ≠ gb265) (.slice Ao98 x243q0_56.length co98) x243q0_56) := ⟨by rw [hw]; exact (by exact vy <| Kd.V_mono (Kd.V_far (p := ⟨gb223, 0, none⟩) (Kd.V_mono HO_243q0.out (fun k_ hk => (⟨hk, hk.1⟩ : _ ∧ k_ ≠ gb223))) (fun _ hk => hk.2) (.int .i64 t270)) (fun _ hk => ⟨hk.1.1, ⟨hk.1.2.1, ⟨hk.1.2.2.1, ⟨hk.1.2.2.2.1, hk.1.2.2.2.2⟩⟩⟩⟩))⟩
         have n3_ : Aside0 (Kd.V (Kd.int .u32) 102 w100 w.heap.size (fun k_ => k_ ≠ gb223 ∧ k_ ≠ gb241 ∧ k_ ≠ gb242 ∧ k_ ≠ gb243 ∧ k_ ≠ gb265) u244000 x244q0_56) := ⟨by rw [hw]; exact (by exact vy <| Kd.V_mono (Kd.V_far (p := ⟨gb223, 0, none⟩) (Kd.V_mono HO_244q0.out (fun k_ hk => (⟨hk, hk.1⟩ : _ ∧ k_ ≠ gb223))) (fun _ hk => hk.2) (.int .i64 t270)) (fun _ hk => ⟨hk.1.1, ⟨hk.1.2.1, ⟨hk.1.2.2.1, ⟨hk.1.2.2.2.1, hk.1.2.2.2.2⟩⟩⟩⟩))⟩
         have n4_ : Aside0 (w100.heap[gb223]? = some (.cells #[.int .i64 t270] 3 (0, 0))) := ⟨by rw [hw]; exact (by (with_reducible repeat (first | refine blk_drewN ?_ _ | refine blk_drew ?_ | refine blk_alloc ?_ _)); refine blk_put (cs := #[.int .i64 0]) ?_ 0 _ rfl; exact bk BK223)⟩
         have n5_ : Aside0 (w100.heap[gb241]? = some (.cells #[.slice Ao97 x242q0_56.length co97] 56 (0, 0))) := ⟨by rw [hw]; exact (by refine bf NB241_223 ?_; exact bk BK241)⟩
         have n6_ : Aside0 (w100.heap[gb242]? = some (.cells #[.slice Ao98 x243q0_56.length co98] 56 (0, 0))) := ⟨by rw [hw]; exact (by refine bf NB242_223 ?_; exact bk BK242)⟩
         have n7_ : Aside0 (w100.heap[gb243]? = some (.cells #[u244000] 56 (0, 0))) := ⟨by rw [hw]; exact (by refine bf NB243_223 ?_; exact bk BK243)⟩
         have n8_ : Aside0 (w100.heap[gb265]? = some (.cells #[.bool ((Int.tmod t227 2) == 0)] 4 (0, 0))) := ⟨by rw [hw]; exact (by refine bf NB265_223 ?_; exact bk BK265)⟩
         have n9_ : Aside0 (Below w.heap.size w w100) := ⟨by rw [hw]; exact (lk HB)⟩
         clear hw
         (try clear HO_9)
         (try clear HO_242q0)
         (try clear HO_243q0)
         (try clear HO_244q0)
         (try clear BK223)
         (try clear BK241)
         (try clear BK242)
         (try clear BK243)
         (try clear BK265)
         (try clear HB)
         have HO_9 := n0_
         have HO_242q0 := n1_
         have HO_243q0 := n2_
         have HO_244q0 := n3_
         have BK223 := n4_
         have BK241 := n5_
         have BK242 := n6_
         have BK243 := n7_
         have BK265 := n8_
         have HB := n9_
         clear n0_ n1_ n2_ n3_ n4_ n5_ n6_ n7_ n8_ n9_
         have hnb101 := NB223_241.out
         have hnc101 := NB241_223.out
         have hnb102 := NB223_242.out
         have hnc102 := NB242_223.out
         have hnb103 := NB223_243.out
         have hnc103 := NB243_223.out
         have hcz104_0 : w100.cell? ⟨gb223, 0, none⟩ = some (.int .i64 t270) := (blk_cell BK223.out 0).trans rfl
         have hfz104_0 := blk_frozen BK223.out 0
         go_upto_if 79 with (fail)
         go_cut [9] (fun v9 wc => ∃ (kq : Nat) (x9_87 : List Int) (x242q0_87 : List Int) (x243q0_87 : List Int) (x244q0_87 : List Int) (u242000 : Value) (u243000 : Value) (u244000 : Value), Aside0 (num_Digits.j4 kq t224 x9_87 t270 x242q0_87 x243q0_87 x244q0_87 ((Int.tmod t227 2) == 0) = some (r1, r2, r3)) ∧ Aside0 (kq ≤ kj56) ∧ Aside0 (Kd.V (Kd.int .u32) 102 wc w.heap.size (fun k_ => k_ ≠ gb223 ∧ k_ ≠ gb241 ∧ k_ ≠ gb242 ∧ k_ ≠ gb243 ∧ k_ ≠ gb265) v9 x9_87) ∧ Aside0 (Kd.V (Kd.int .u32) 102 wc w.heap.size (fun k_ => k_ ≠ gb223 ∧ k_ ≠ gb241 ∧ k_ ≠ gb242 ∧ k_ ≠ gb243 ∧ k_ ≠ gb265) u242000 x242q0_87) ∧ Aside0 (Kd.V (Kd.int .u32) 102 wc w.heap.size (fun k_ => k_ ≠ gb223 ∧ k_ ≠ gb241 ∧ k_ ≠ gb242 ∧ k_ ≠ gb243 ∧ k_ ≠ gb265) u243000 x243q0_87) ∧ Aside0 (Kd.V (Kd.int .u32) 102 wc w.heap.size (fun k_ => k_ ≠ gb223 ∧ k_ ≠ gb241 ∧ k_ ≠ gb242 ∧ k_ ≠ gb243 ∧ k_ ≠ gb265) u244000 x244q0_87) ∧ Aside0 (wc.heap[gb223]? = some (.cells #[.int .i64 t270] 3 (0, 0))) ∧ Aside0 (wc.heap[gb241]? = some (.cells #[u242000] 56 (0, 0))) ∧ Aside0 (wc.heap[gb242]? = some (.cells #[u243000] 56 (0, 0))) ∧ Aside0 (wc.heap[gb243]? = some (.cells #[u244000] 56 (0, 0))) ∧ Aside0 (wc.heap[gb265]? = some (.cells #[.bool ((Int.tmod t227 2) == 0)] 4 (0, 0))) ∧ Aside0 (Below w.heap.size w wc))
         case first =>
          have H := HC88.out
          clear HC88
          by_cases c105 : t270 ≥ 0
          ·
           rw [if_pos c105] at H
           have c105b0 : decide (0 ≤ t270) = true := dt c105
           clear c105
           (first | rw [c105b0] | (simp only [i64_w, i32_w]; rw [c105b0]) | skip)
           replace H := bm H
           obtain ⟨t271, A1060, H⟩ := H
           replace H : (num_Digits.j4 kj56 t224 x9_56 t270 x242q0_56 t271 x244q0_56 ((Int.tmod t227 2) == 0)) = some (r1, r2, r3) := H
           have A106 := am A1060
           clear A1060
           have H' := am H
           clear H
           have hnb107 := NB242_223.out
           have hnc107 := NB223_242.out
           have hnb108 := NB242_241.out
           have hnc108 := NB241_242.out
           have hnb109 := NB242_243.out
           have hnc109 := NB243_242.out
           have hnb110 := NB242_265.out
           have hnc110 := NB265_242.out
           have hcz111_0 : w100.cell? ⟨gb242, 0, none⟩ = some (.slice Ao98 x243q0_56.length co98) := (blk_cell BK242.out 0).trans rfl
           have hfz111_0 := blk_frozen BK242.out 0
           have hnb112 := NB223_241.out
           have hnc112 := NB241_223.out
           have hnb113 := NB223_243.out
           have hnc113 := NB243_223.out
           have hnb114 := NB223_265.out
           have hnc114 := NB265_223.out
           have hcz115_0 : w100.cell? ⟨gb223, 0, none⟩ = some (.int .i64 t270) := (blk_cell BK223.out 0).trans rfl
           have hfz115_0 := blk_frozen BK223.out 0
           go_wp2_with (first | ((with_reducible refine gate_callee (f := 52) rfl ?_); refine gL (some 82) Tryd.func52 #[.slice Ao98 x243q0_56.length co98, .int .i64 t270] ?_; (with_reducible refine (num_nat_tens.calls kj56 (fun k_ => (k_ ≠ gb223 ∧ (k_ ≠ gb241 ∧ (k_ ≠ gb242 ∧ (k_ ≠ gb243 ∧ k_ ≠ gb265))))) _ _ x243q0_56 t270 t271 _ ?side1 A106.out).mono ?_); (case side1 => exact HO_243q0.out); rintro e w116 ⟨v272, rfl, ho0, hb⟩; refine ⟨_, rfl, ?_⟩; replace HO_9 := vb HO_9 hb; replace HO_242q0 := vb HO_242q0 hb; replace HO_243q0 := vb HO_243q0 hb; replace HO_244q0 := vb HO_244q0 hb; have HO273 := am (Kd.V_lower (Kd.V_mono (ok' := fun k_ => k_ ≠ gb223 ∧ k_ ≠ gb241 ∧ k_ ≠ gb242 ∧ k_ ≠ gb243 ∧ k_ ≠ gb265) ho0 (fun k_ hk_ => ⟨Or.elim hk_ (fun hs_ => hs_.1) (fun hn_ => (Kd.freshB (bk BK223) k_ hn_)), Or.elim hk_ (fun hs_ => hs_.2.1) (fun hn_ => (Kd.freshB (bk BK241) k_ hn_)), Or.elim hk_ (fun hs_ => hs_.2.2.1) (fun hn_ => (Kd.freshB (bk BK242) k_ hn_)), Or.elim hk_ (fun hs_ => hs_.2.2.2.1) (fun hn_ => (Kd.freshB (bk BK243) k_ hn_)), Or.elim hk_ (fun hs_ => hs_.2.2.2.2) (fun hn_ => (Kd.freshB (bk BK265) k_ hn_))⟩)) (below_size (lk HB))); replace BK223 := bb BK223 hb; replace BK241 := bb BK241 hb; replace BK242 := bb BK242 hb; replace BK243 := bb BK243 hb; replace BK265 := bb BK265 hb; replace HB := lb HB hb; obtain ⟨Ao117, co117, eo117⟩ := Kd.V_slice HO273.out; subst eo117; have hcz118_0 : w116.cell? ⟨gb242, 0, none⟩ = some (.slice Ao98 x243q0_56.length co98) := (blk_cell BK242.out 0).trans rfl; have hfz118_0 := blk_frozen BK242.out 0))
           go_meet
           case rel => exact ⟨_, (x9_56), (x242q0_56), (t271), (x244q0_56), (.slice Ao97 x242q0_56.length co97), (.slice Ao117 t271.length co117), (u244000), H', ⟨by have := HJ2.out; have := HJ15.out; have := HJ36.out; have := HJ56.out; first | omega | exact Nat.le_refl _⟩, ⟨by exact vy <| Kd.V_mono (Kd.V_far (p := ⟨gb242, 0, none⟩) (Kd.V_mono HO_9.out (fun k_ hk => (⟨hk, hk.2.2.1⟩ : _ ∧ k_ ≠ gb242))) (fun _ hk => hk.2) (.slice Ao117 t271.length co117)) (fun _ hk => ⟨hk.1.1, ⟨hk.1.2.1, ⟨hk.1.2.2.1, ⟨hk.1.2.2.2.1, hk.1.2.2.2.2⟩⟩⟩⟩)⟩, ⟨by exact vy <| Kd.V_mono (Kd.V_far (p := ⟨gb242, 0, none⟩) (Kd.V_mono HO_242q0.out (fun k_ hk => (⟨hk, hk.2.2.1⟩ : _ ∧ k_ ≠ gb242))) (fun _ hk => hk.2) (.slice Ao117 t271.length co117)) (fun _ hk => ⟨hk.1.1, ⟨hk.1.2.1, ⟨hk.1.2.2.1, ⟨hk.1.2.2.2.1, hk.1.2.2.2.2⟩⟩⟩⟩)⟩, ⟨by exact vy <| Kd.V_mono (Kd.V_far (p := ⟨gb242, 0, none⟩) (Kd.V_mono HO273.out (fun k_ hk => (⟨hk, hk.2.2.1⟩ : _ ∧ k_ ≠ gb242))) (fun _ hk => hk.2) (.slice Ao117 t271.length co117)) (fun _ hk => ⟨hk.1.1, ⟨hk.1.2.1, ⟨hk.1.2.2.1, ⟨hk.1.2.2.2.1, hk.1.2.2.2.2⟩⟩⟩⟩)⟩, ⟨by exact vy <| Kd.V_mono (Kd.V_far (p := ⟨gb242, 0, none⟩) (Kd.V_mono HO_244q0.out (fun k_ hk => (⟨hk, hk.2.2.1⟩ : _ ∧ k_ ≠ gb242))) (fun _ hk => hk.2) (.slice Ao117 t271.length co117)) (fun _ hk => ⟨hk.1.1, ⟨hk.1.2.1, ⟨hk.1.2.2.1, ⟨hk.1.2.2.2.1, hk.1.2.2.2.2⟩⟩⟩⟩)⟩, ⟨by refine bf NB223_242 ?_; exact bk BK223⟩, ⟨by refine bf NB241_242 ?_; exact bk BK241⟩, ⟨by (with_reducible repeat (first | refine blk_drewN ?_ _ | refine blk_drew ?_ | refine blk_alloc ?_ _)); refine blk_put (cs := #[.slice Ao98 x243q0_56.length co98]) ?_ 0 _ rfl; exact bk BK242⟩, ⟨by refine bf NB243_242 ?_; exact bk BK243⟩, ⟨by refine bf NB265_242 ?_; exact bk BK265⟩, ⟨lk HB⟩⟩
          rw [if_neg c105] at H
          have c105b0 : decide (0 ≤ t270) = false := decide_eq_false c105
          clear c105
          (first | rw [c105b0] | (simp only [i64_w, i32_w]; rw [c105b0]) | skip)
          replace H := bm H
          obtain ⟨t274, A1190, H⟩ := H
          replace H : ((num_nat_tens.f kj56 x9_56 (wrap64 (-t270))).bind fun t277 => ((num_nat_tens.f kj56 x244q0_56 (wrap64 (-t270))).bind fun t280 => (num_Digits.j4 kj56 t224 t277 t270 t274 x243q0_56 t280 ((Int.tmod t227 2) == 0)))) = some (r1, r2, r3) := H
          have A119 := am A1190
          clear A1190
          replace H := bm H
          obtain ⟨t277, A1200, H⟩ := H
          replace H : ((num_nat_tens.f kj56 x244q0_56 (wrap64 (-t270))).bind fun t280 => (num_Digits.j4 kj56 t224 t277 t270 t274 x243q0_56 t280 ((Int.tmod t227 2) == 0))) = some (r1, r2, r3) := H
          have A120 := am A1200
          clear A1200
          replace H := bm H
          obtain ⟨t280, A1210, H⟩ := H
          replace H : (num_Digits.j4 kj56 t224 t277 t270 t274 x243q0_56 t280 ((Int.tmod t227 2) == 0)) = some (r1, r2, r3) := H
          have A121 := am A1210
          clear A1210
          have H' := am H
          clear H
          try go_wp2
          have n0_ := am (Kd.V_drew HO_9.out)
          have n1_ := am (Kd.V_drew HO_242q0.out)
          have n2_ := am (Kd.V_drew HO_243q0.out)
          have n3_ := am (Kd.V_drew HO_244q0.out)
          have n4_ := am (blk_drew BK223.out)
          have n5_ := am (blk_drew BK241.out)
          have n6_ := am (blk_drew BK242.out)
          have n7_ := am (blk_drew BK243.out)
          have n8_ := am (blk_drew BK265.out)
          have n9_ := am (below_drew1 HB.out)
          clear HO_9
          clear HO_242q0
          clear HO_243q0
          clear HO_244q0
          clear BK223
          clear BK241
          clear BK242
          clear BK243
          clear BK265
          clear HB
          have HO_9 := n0_
          have HO_242q0 := n1_
          have HO_243q0 := n2_
          have HO_244q0 := n3_
          have BK223 := n4_
          have BK241 := n5_
          have BK242 := n6_
          have BK243 := n7_
          have BK265 := n8_
          have HB := n9_
          clear n0_ n1_ n2_ n3_ n4_ n5_ n6_ n7_ n8_ n9_
          refine start_ (n := 15) (S := fun w' => w'.cell? ⟨gb241, 0, none⟩ = some (.slice Ao97 x242q0_56.length co97) ∧ w'.cell? ⟨gb223, 0, none⟩ = some (.int .i64 t270) ∧ w'.cell? ⟨gb243, 0, none⟩ = some (u244000)) (ds := [12, 14]) #[false, false, false, false, false, false, false, false, false, false, false, false, false, false, false] (by kernel_rfl) rfl rfl ⟨(blk_cell BK241.out 0).trans rfl, (blk_cell BK223.out 0).trans rfl, (blk_cell BK243.out 0).trans rfl⟩ (fun hHeld => ?_); refine with_tabW num_Digits.tab16 num_Digits.bits16 (fun HT_ HW_ => ?_)
          generalize w100.drew = w122 at HO_9 HO_242q0 HO_243q0 HO_244q0 BK223 BK241 BK242 BK243 BK265 HB hHeld ⊢
          refine pure_ (i := 4) (N := some 87) (v := ?_) (a' := ?_) #[false, false, false, false, true, false, false, false, false, false, false, false, false, false, false] rfl rfl (any_of HT_.out (by kernel_rfl)) (fun _ _ _ h => h) (Or.inl ⟨by rfl, ?_⟩) ?_ ?_
          rotate_left
          ·
           intro w'
           go_simp
           with_reducible rfl
          rotate_left
          ·
           exact pz
          refine take_ (i := 0) (N := some 83) (v := ?_) (a' := ?_) #[true, false, false, false, true, false, false, false, false, false, false, false, false, false, false] rfl rfl (take_ofW HT_.out HW_.out (by kernel_rfl)) (fun _ _ _ h => h) (Or.inl ⟨by rfl, ?_⟩) hHeld ?_ ?_
          rotate_left
          ·
           rintro w' ⟨s0, s1, s2⟩
           go_simp
           with_reducible rfl
          rotate_left
          ·
           exact pz
          refine take_ (i := 1) (N := some 84) (v := ?_) (a' := ?_) #[true, true, false, false, true, false, false, false, false, false, false, false, false, false, false] rfl rfl (take_ofW HT_.out HW_.out (by kernel_rfl)) (fun _ _ _ h => h) (Or.inl ⟨by rfl, ?_⟩) hHeld ?_ ?_
          rotate_left
          ·
           rintro w' ⟨s0, s1, s2⟩
           go_simp
           with_reducible rfl
          rotate_left
          ·
           exact pz
          refine pure_ (i := 2) (N := some 85) (v := ?_) (a' := ?_) #[true, true, true, false, true, false, false, false, false, false, false, false, false, false, false] rfl rfl (any_of HT_.out (by kernel_rfl)) (fun _ _ _ h => h) (Or.inl ⟨by rfl, ?_⟩) ?_ ?_
          rotate_left
          ·
           intro w'
           go_simp
           with_reducible rfl
          rotate_left
          ·
           exact pz
          refine take_ (i := 5) (N := some 88) (v := ?_) (a' := ?_) #[true, true, true, false, true, true, false, false, false, false, false, false, false, false, false] rfl rfl (take_ofW HT_.out HW_.out (by kernel_rfl)) (fun _ _ _ h => h) (Or.inl ⟨by rfl, ?_⟩) hHeld ?_ ?_
          rotate_left
          ·
           rintro w' ⟨s0, s1, s2⟩
           go_simp
           with_reducible rfl
          rotate_left
          ·
           exact pz
          refine pure_ (i := 6) (N := some 89) (v := ?_) (a' := ?_) #[true, true, true, false, true, true, true, false, false, false, false, false, false, false, false] rfl rfl (any_of HT_.out (by kernel_rfl)) (fun _ _ _ h => h) (Or.inl ⟨by rfl, ?_⟩) ?_ ?_
          rotate_left
          ·
           intro w'
           go_simp
           with_reducible rfl
          rotate_left
          ·
           exact pz
          refine take_ (i := 8) (N := some 91) (v := ?_) (a' := ?_) #[true, true, true, false, true, true, true, false, true, false, false, false, false, false, false] rfl rfl (take_ofW HT_.out HW_.out (by kernel_rfl)) (fun _ _ _ h => h) (Or.inl ⟨by rfl, ?_⟩) hHeld ?_ ?_
          rotate_left
          ·
           rintro w' ⟨s0, s1, s2⟩
           go_simp
           with_reducible rfl
          rotate_left
          ·
           exact pz
          refine take_ (i := 9) (N := some 92) (v := ?_) (a' := ?_) #[true, true, true, false, true, true, true, false, true, true, false, false, false, false, false] rfl rfl (take_ofW HT_.out HW_.out (by kernel_rfl)) (fun _ _ _ h => h) (Or.inl ⟨by rfl, ?_⟩) hHeld ?_ ?_
          rotate_left
          ·
           rintro w' ⟨s0, s1, s2⟩
           go_simp
           with_reducible rfl
          rotate_left
          ·
           exact pz
          refine pure_ (i := 10) (N := some 93) (v := ?_) (a' := ?_) #[true, true, true, false, true, true, true, false, true, true, true, false, false, false, false] rfl rfl (any_of HT_.out (by kernel_rfl)) (fun _ _ _ h => h) (Or.inl ⟨by rfl, ?_⟩) ?_ ?_
          rotate_left
          ·
           intro w'
           go_simp
           with_reducible rfl
          rotate_left
          ·
           exact pz
          refine one_ (i := 3) (N := some 86) #[true, true, true, true, true, true, true, false, true, true, true, false, false, false, false] rfl rfl (one_of HT_.out (by kernel_rfl)) (by decide) (fun K hK => ?_)
          refine goes_ Tryd.func52 (by kernel_rfl) rfl #[.slice Ao97 x242q0_56.length co97, .int .i64 (wrap64 (-t270))] (by rfl) rfl rfl (by (try simp only [List.map_toArray, List.map_cons, List.map_nil]); first | done | rfl | (simp only [List.length_drop, List.length_take]; rfl) | (simp [Act.eval, Hd.wrap_u8]; done)) ?_
          with_reducible refine (num_nat_tens.calls kj56 (fun k_ => (k_ ≠ gb223 ∧ (k_ ≠ gb241 ∧ (k_ ≠ gb242 ∧ (k_ ≠ gb243 ∧ k_ ≠ gb265))))) _ _ x242q0_56 (wrap64 (-t270)) t274 _ ?side1 A119.out).mono ?_
          (case side1 => exact HO_242q0.out)
          rintro e w123 ⟨v275, rfl, ho0, hb⟩
          refine ⟨_, rfl, ?_⟩
          have n0_ := vb HO_9 hb
          have n1_ := vb HO_242q0 hb
          have n2_ := vb HO_243q0 hb
          have n3_ := vb HO_244q0 hb
          have n4_ := am (Kd.V_lower (Kd.V_mono (ok' := fun k_ => k_ ≠ gb223 ∧ k_ ≠ gb241 ∧ k_ ≠ gb242 ∧ k_ ≠ gb243 ∧ k_ ≠ gb265) ho0 (fun k_ hk_ => ⟨Or.elim hk_ (fun hs_ => hs_.1) (fun hn_ => (Kd.freshB (bk BK223) k_ hn_)), Or.elim hk_ (fun hs_ => hs_.2.1) (fun hn_ => (Kd.freshB (bk BK241) k_ hn_)), Or.elim hk_ (fun hs_ => hs_.2.2.1) (fun hn_ => (Kd.freshB (bk BK242) k_ hn_)), Or.elim hk_ (fun hs_ => hs_.2.2.2.1) (fun hn_ => (Kd.freshB (bk BK243) k_ hn_)), Or.elim hk_ (fun hs_ => hs_.2.2.2.2) (fun hn_ => (Kd.freshB (bk BK265) k_ hn_))⟩)) (below_size (lk HB)))
          have n5_ := bb BK223 hb
          have n6_ := bb BK241 hb
          have n7_ := bb BK242 hb
          have n8_ := bb BK243 hb
          have n9_ := bb BK265 hb
          have n10_ := lb HB hb
          clear HO_9
          clear HO_242q0
          clear HO_243q0
          clear HO_244q0
          clear BK223
          clear BK241
          clear BK242
          clear BK243
          clear BK265
          clear HB
          have HO_9 := n0_
          have HO_242q0 := n1_
          have HO_243q0 := n2_
          have HO_244q0 := n3_
          have HO276 := n4_
          have BK223 := n5_
          have BK241 := n6_
          have BK242 := n7_
          have BK243 := n8_
          have BK265 := n9_
          have HB := n10_
          clear n0_ n1_ n2_ n3_ n4_ n5_ n6_ n7_ n8_ n9_ n10_
          (try clear hb)
          (try clear hb2)
          (try clear hk)
          (try clear hi)
          (try clear ho0)
          obtain ⟨Ao124, co124, eo124⟩ := Kd.V_slice HO_9.out
          (first | subst eo124 | (injection eo124 with f1_ f2_ f3_; have f4_ := f1_.symm; have f5_ := f3_.symm; clear f1_ f2_ f3_; subst f4_; subst f5_))
          refine hK.out _ _ ⟨(blk_cell BK241.out 0).trans rfl, (blk_cell BK223.out 0).trans rfl, (blk_cell BK243.out 0).trans rfl⟩ (fun hHeld => ?_)
          clear hK K
          refine norm_ (a' := ?_) ?_ ?_
          rotate_left
          ·
           show Act.put _ (some 86) _ = _
           exact pz
          refine one_ (i := 7) (N := some 90) #[true, true, true, true, true, true, true, true, true, true, true, false, false, false, false] rfl rfl (one_of HT_.out (by kernel_rfl)) (by decide) (fun K hK => ?_)
          refine goes_ Tryd.func52 (by kernel_rfl) rfl #[.slice Ao124 x9_56.length co124, .int .i64 (wrap64 (-t270))] (by rfl) rfl rfl (by (try simp only [List.map_toArray, List.map_cons, List.map_nil]); first | done | rfl | (simp only [List.length_drop, List.length_take]; rfl) | (simp [Act.eval, Hd.wrap_u8]; done)) ?_
          with_reducible refine (num_nat_tens.calls kj56 (fun k_ => (k_ ≠ gb223 ∧ (k_ ≠ gb241 ∧ (k_ ≠ gb242 ∧ (k_ ≠ gb243 ∧ k_ ≠ gb265))))) _ _ x9_56 (wrap64 (-t270)) t277 _ ?side1 A120.out).mono ?_
          (case side1 => exact HO_9.out)
          rintro e w125 ⟨v278, rfl, ho0, hb⟩
          refine ⟨_, rfl, ?_⟩
          have n0_ := vb HO_9 hb
          have n1_ := vb HO_242q0 hb
          have n2_ := vb HO_243q0 hb
          have n3_ := vb HO_244q0 hb
          have n4_ := vb HO276 hb
          have n5_ := am (Kd.V_lower (Kd.V_mono (ok' := fun k_ => k_ ≠ gb223 ∧ k_ ≠ gb241 ∧ k_ ≠ gb242 ∧ k_ ≠ gb243 ∧ k_ ≠ gb265) ho0 (fun k_ hk_ => ⟨Or.elim hk_ (fun hs_ => hs_.1) (fun hn_ => (Kd.freshB (bk BK223) k_ hn_)), Or.elim hk_ (fun hs_ => hs_.2.1) (fun hn_ => (Kd.freshB (bk BK241) k_ hn_)), Or.elim hk_ (fun hs_ => hs_.2.2.1) (fun hn_ => (Kd.freshB (bk BK242) k_ hn_)), Or.elim hk_ (fun hs_ => hs_.2.2.2.1) (fun hn_ => (Kd.freshB (bk BK243) k_ hn_)), Or.elim hk_ (fun hs_ => hs_.2.2.2.2) (fun hn_ => (Kd.freshB (bk BK265) k_ hn_))⟩)) (below_size (lk HB)))
          have n6_ := bb BK223 hb
          have n7_ := bb BK241 hb
          have n8_ := bb BK242 hb
          have n9_ := bb BK243 hb
          have n10_ := bb BK265 hb
          have n11_ := lb HB hb
          clear HO_9
          clear HO_242q0
          clear HO_243q0
          clear HO_244q0
          clear HO276
          clear BK223
          clear BK241
          clear BK242
          clear BK243
          clear BK265
          clear HB
          have HO_9 := n0_
          have HO_242q0 := n1_
          have HO_243q0 := n2_
          have HO_244q0 := n3_
          have HO276 := n4_
          have HO279 := n5_
          have BK223 := n6_
          have BK241 := n7_
          have BK242 := n8_
          have BK243 := n9_
          have BK265 := n10_
          have HB := n11_
          clear n0_ n1_ n2_ n3_ n4_ n5_ n6_ n7_ n8_ n9_ n10_ n11_
          (try clear hb)
          (try clear hb2)
          (try clear hk)
          (try clear hi)
          (try clear ho0)
          obtain ⟨Ao126, co126, eo126⟩ := Kd.V_slice HO_244q0.out
          (first | subst eo126 | (injection eo126 with f1_ f2_ f3_; have f4_ := f1_.symm; have f5_ := f3_.symm; clear f1_ f2_ f3_; subst f4_; subst f5_))
          refine hK.out _ _ ⟨(blk_cell BK241.out 0).trans rfl, (blk_cell BK223.out 0).trans rfl, (blk_cell BK243.out 0).trans rfl⟩ (fun hHeld => ?_)
          clear hK K
          refine norm_ (a' := ?_) ?_ ?_
          rotate_left
          ·
           show Act.put _ (some 90) _ = _
           exact pz
          refine one_ (i := 11) (N := some 94) #[true, true, true, true, true, true, true, true, true, true, true, true, false, false, false] rfl rfl (one_of HT_.out (by kernel_rfl)) (by decide) (fun K hK => ?_)
          refine goes_ Tryd.func52 (by kernel_rfl) rfl #[.slice Ao126 x244q0_56.length co126, .int .i64 (wrap64 (-t270))] (by rfl) rfl rfl (by (try simp only [List.map_toArray, List.map_cons, List.map_nil]); first | done | rfl | (simp only [List.length_drop, List.length_take]; rfl) | (simp [Act.eval, Hd.wrap_u8]; done)) ?_
          with_reducible refine (num_nat_tens.calls kj56 (fun k_ => (k_ ≠ gb223 ∧ (k_ ≠ gb241 ∧ (k_ ≠ gb242 ∧ (k_ ≠ gb243 ∧ k_ ≠ gb265))))) _ _ x244q0_56 (wrap64 (-t270)) t280 _ ?side1 A121.out).mono ?_
          (case side1 => exact HO_244q0.out)
          rintro e w127 ⟨v281, rfl, ho0, hb⟩
          refine ⟨_, rfl, ?_⟩
          have n0_ := vb HO_9 hb
          have n1_ := vb HO_242q0 hb
          have n2_ := vb HO_243q0 hb
          have n3_ := vb HO_244q0 hb
          have n4_ := vb HO276 hb
          have n5_ := vb HO279 hb
          have n6_ := am (Kd.V_lower (Kd.V_mono (ok' := fun k_ => k_ ≠ gb223 ∧ k_ ≠ gb241 ∧ k_ ≠ gb242 ∧ k_ ≠ gb243 ∧ k_ ≠ gb265) ho0 (fun k_ hk_ => ⟨Or.elim hk_ (fun hs_ => hs_.1) (fun hn_ => (Kd.freshB (bk BK223) k_ hn_)), Or.elim hk_ (fun hs_ => hs_.2.1) (fun hn_ => (Kd.freshB (bk BK241) k_ hn_)), Or.elim hk_ (fun hs_ => hs_.2.2.1) (fun hn_ => (Kd.freshB (bk BK242) k_ hn_)), Or.elim hk_ (fun hs_ => hs_.2.2.2.1) (fun hn_ => (Kd.freshB (bk BK243) k_ hn_)), Or.elim hk_ (fun hs_ => hs_.2.2.2.2) (fun hn_ => (Kd.freshB (bk BK265) k_ hn_))⟩)) (below_size (lk HB)))
          have n7_ := bb BK223 hb
          have n8_ := bb BK241 hb
          have n9_ := bb BK242 hb
          have n10_ := bb BK243 hb
          have n11_ := bb BK265 hb
          have n12_ := lb HB hb
          clear HO_9
          clear HO_242q0
          clear HO_243q0
          clear HO_244q0
          clear HO276
          clear HO279
          clear BK223
          clear BK241
          clear BK242
          clear BK243
          clear BK265
          clear HB
          have HO_9 := n0_
          have HO_242q0 := n1_
          have HO_243q0 := n2_
          have HO_244q0 := n3_
          have HO276 := n4_
          have HO279 := n5_
          have HO282 := n6_
          have BK223 := n7_
          have BK241 := n8_
          have BK242 := n9_
          have BK243 := n10_
          have BK265 := n11_
          have HB := n12_
          clear n0_ n1_ n2_ n3_ n4_ n5_ n6_ n7_ n8_ n9_ n10_ n11_ n12_
          (try clear hb)
          (try clear hb2)
          (try clear hk)
          (try clear hi)
          (try clear ho0)
          obtain ⟨Ao128, co128, eo128⟩ := Kd.V_slice HO276.out
          (first | subst eo128 | (injection eo128 with f1_ f2_ f3_; have f4_ := f1_.symm; have f5_ := f3_.symm; clear f1_ f2_ f3_; subst f4_; subst f5_))
          obtain ⟨Ao130, co130, eo130⟩ := Kd.V_slice HO282.out
          (first | subst eo130 | (injection eo130 with f1_ f2_ f3_; have f4_ := f1_.symm; have f5_ := f3_.symm; clear f1_ f2_ f3_; subst f4_; subst f5_))
          refine hK.out _ _ ⟨(blk_cell BK241.out 0).trans rfl, (blk_cell BK223.out 0).trans rfl, (blk_cell BK243.out 0).trans rfl⟩ (fun hHeld => ?_)
          clear hK K
          refine norm_ (a' := ?_) ?_ ?_
          rotate_left
          ·
           show Act.put _ (some 94) _ = _
           exact pz
          refine last_ (i := 12) (N := none) #[true, true, true, true, true, true, true, true, true, true, true, true, true, false, false] rfl rfl (one_of HT_.out (by kernel_rfl)) (by decide) (fun K hK => ?_)
          have hs129 : w127.cell? ⟨gb241, 0, none⟩ = some (.slice Ao97 x242q0_56.length co97) := (blk_cell BK241.out 0).trans rfl
          have hfs129 := blk_frozen BK241.out 0
          have hns129_0 := NB223_241.out
          have hns129_2 := NB242_241.out
          have hns129_3 := NB243_241.out
          have hns129_4 := NB265_241.out
          have hms129_0 := NB241_223.out
          have hms129_2 := NB241_242.out
          have hms129_3 := NB241_243.out
          have hms129_4 := NB241_265.out
          refine skip_ (w1 := ?_) (by rfl) rfl ?_ ?_
          rotate_left
          ·
           go_simp
           rfl
          refine hK.out _ _ ?_
          clear hK K
          refine pure_ (i := 13) (N := some 9) (v := ?_) (a' := ?_) #[true, true, true, true, true, true, true, true, true, true, true, true, true, true, false] rfl rfl (any_of HT_.out (by kernel_rfl)) (fun _ _ _ h => h) (Or.inl ⟨by rfl, ?_⟩) ?_ ?_
          rotate_left
          ·
           intro w'
           go_simp
           with_reducible rfl
          rotate_left
          ·
           exact pz
          refine last_ (i := 14) (N := none) #[true, true, true, true, true, true, true, true, true, true, true, true, true, true, true] rfl rfl (one_of HT_.out (by kernel_rfl)) (by decide) (fun K hK => ?_)
          have hs131 : w127.cell? ⟨gb243, 0, none⟩ = some (.slice Ao126 x244q0_56.length co126) := (blk_cell BK243.out 0).trans rfl
          have hfs131 := blk_frozen BK243.out 0
          have hns131_0 := NB223_243.out
          have hns131_1 := NB241_243.out
          have hns131_2 := NB242_243.out
          have hns131_4 := NB265_243.out
          have hms131_0 := NB243_223.out
          have hms131_1 := NB243_241.out
          have hms131_2 := NB243_242.out
          have hms131_4 := NB243_265.out
          refine skip_ (w1 := ?_) (by rfl) rfl ?_ ?_
          rotate_left
          ·
           go_simp
           rfl
          refine hK.out _ _ ?_
          clear hK K
          refine done_ (done_of HT_.out (by kernel_rfl)) ?_
          (first | refine Hd.letter_ (fun w132 hw => ?_) | refine Hd.letterL_ (fun w132 hw => ?_) | refine Hd.letterE_ (fun w132 hw => ?_))
          have n0_ : Aside0 (Kd.V (Kd.int .u32) 102 w132 w.heap.size (fun k_ => k_ ≠ gb223 ∧ k_ ≠ gb241 ∧ k_ ≠ gb242 ∧ k_ ≠ gb243 ∧ k_ ≠ gb265) (.slice Ao124 x9_56.length co124) x9_56) := ⟨by rw [hw]; exact (by exact vy <| Kd.V_mono (Kd.V_far (p := ⟨gb243, 0, none⟩) (Kd.V_far (p := ⟨gb241, 0, none⟩) (Kd.V_mono (Kd.V_mono HO_9.out (fun k_ hk => (⟨hk, hk.2.1⟩ : _ ∧ k_ ≠ gb241))) (fun k_ hk => (⟨hk, hk.1.2.2.2.1⟩ : _ ∧ k_ ≠ gb243))) (fun _ hk => hk.1.2) (.slice Ao128 t274.length co128)) (fun _ hk => hk.2) (.slice Ao130 t280.length co130)) (fun _ hk => ⟨hk.1.1.1, ⟨hk.1.1.2.1, ⟨hk.1.1.2.2.1, ⟨hk.1.1.2.2.2.1, hk.1.1.2.2.2.2⟩⟩⟩⟩))⟩
          have n1_ : Aside0 (Kd.V (Kd.int .u32) 102 w132 w.heap.size (fun k_ => k_ ≠ gb223 ∧ k_ ≠ gb241 ∧ k_ ≠ gb242 ∧ k_ ≠ gb243 ∧ k_ ≠ gb265) (.slice Ao97 x242q0_56.length co97) x242q0_56) := ⟨by rw [hw]; exact (by exact vy <| Kd.V_mono (Kd.V_far (p := ⟨gb243, 0, none⟩) (Kd.V_far (p := ⟨gb241, 0, none⟩) (Kd.V_mono (Kd.V_mono HO_242q0.out (fun k_ hk => (⟨hk, hk.2.1⟩ : _ ∧ k_ ≠ gb241))) (fun k_ hk => (⟨hk, hk.1.2.2.2.1⟩ : _ ∧ k_ ≠ gb243))) (fun _ hk => hk.1.2) (.slice Ao128 t274.length co128)) (fun _ hk => hk.2) (.slice Ao130 t280.length co130)) (fun _ hk => ⟨hk.1.1.1, ⟨hk.1.1.2.1, ⟨hk.1.1.2.2.1, ⟨hk.1.1.2.2.2.1, hk.1.1.2.2.2.2⟩⟩⟩⟩))⟩
          have n2_ : Aside0 (Kd.V (Kd.int .u32) 102 w132 w.heap.size (fun k_ => k_ ≠ gb223 ∧ k_ ≠ gb241 ∧ k_ ≠ gb242 ∧ k_ ≠ gb243 ∧ k_ ≠ gb265) (.slice Ao98 x243q0_56.length co98) x243q0_56) := ⟨by rw [hw]; exact (by exact vy <| Kd.V_mono (Kd.V_far (p := ⟨gb243, 0, none⟩) (Kd.V_far (p := ⟨gb241, 0, none⟩) (Kd.V_mono (Kd.V_mono HO_243q0.out (fun k_ hk => (⟨hk, hk.2.1⟩ : _ ∧ k_ ≠ gb241))) (fun k_ hk => (⟨hk, hk.1.2.2.2.1⟩ : _ ∧ k_ ≠ gb243))) (fun _ hk => hk.1.2) (.slice Ao128 t274.length co128)) (fun _ hk => hk.2) (.slice Ao130 t280.length co130)) (fun _ hk => ⟨hk.1.1.1, ⟨hk.1.1.2.1, ⟨hk.1.1.2.2.1, ⟨hk.1.1.2.2.2.1, hk.1.1.2.2.2.2⟩⟩⟩⟩))⟩
          have n3_ : Aside0 (Kd.V (Kd.int .u32) 102 w132 w.heap.size (fun k_ => k_ ≠ gb223 ∧ k_ ≠ gb241 ∧ k_ ≠ gb242 ∧ k_ ≠ gb243 ∧ k_ ≠ gb265) (.slice Ao126 x244q0_56.length co126) x244q0_56) := ⟨by rw [hw]; exact (by exact vy <| Kd.V_mono (Kd.V_far (p := ⟨gb243, 0, none⟩) (Kd.V_far (p := ⟨gb241, 0, none⟩) (Kd.V_mono (Kd.V_mono HO_244q0.out (fun k_ hk => (⟨hk, hk.2.1⟩ : _ ∧ k_ ≠ gb241))) (fun k_ hk => (⟨hk, hk.1.2.2.2.1⟩ : _ ∧ k_ ≠ gb243))) (fun _ hk => hk.1.2) (.slice Ao128 t274.length co128)) (fun _ hk => hk.2) (.slice Ao130 t280.length co130)) (fun _ hk => ⟨hk.1.1.1, ⟨hk.1.1.2.1, ⟨hk.1.1.2.2.1, ⟨hk.1.1.2.2.2.1, hk.1.1.2.2.2.2⟩⟩⟩⟩))⟩
          have n4_ : Aside0 (Kd.V (Kd.int .u32) 102 w132 w.heap.size (fun k_ => k_ ≠ gb223 ∧ k_ ≠ gb241 ∧ k_ ≠ gb242 ∧ k_ ≠ gb243 ∧ k_ ≠ gb265) (.slice Ao128 t274.length co128) t274) := ⟨by rw [hw]; exact (by exact vy <| Kd.V_mono (Kd.V_far (p := ⟨gb243, 0, none⟩) (Kd.V_far (p := ⟨gb241, 0, none⟩) (Kd.V_mono (Kd.V_mono HO276.out (fun k_ hk => (⟨hk, hk.2.1⟩ : _ ∧ k_ ≠ gb241))) (fun k_ hk => (⟨hk, hk.1.2.2.2.1⟩ : _ ∧ k_ ≠ gb243))) (fun _ hk => hk.1.2) (.slice Ao128 t274.length co128)) (fun _ hk => hk.2) (.slice Ao130 t280.length co130)) (fun _ hk => ⟨hk.1.1.1, ⟨hk.1.1.2.1, ⟨hk.1.1.2.2.1, ⟨hk.1.1.2.2.2.1, hk.1.1.2.2.2.2⟩⟩⟩⟩))⟩
          have n5_ : Aside0 (Kd.V (Kd.int .u32) 102 w132 w.heap.size (fun k_ => k_ ≠ gb223 ∧ k_ ≠ gb241 ∧ k_ ≠ gb242 ∧ k_ ≠ gb243 ∧ k_ ≠ gb265) v278 t277) := ⟨by rw [hw]; exact (by exact vy <| Kd.V_mono (Kd.V_far (p := ⟨gb243, 0, none⟩) (Kd.V_far (p := ⟨gb241, 0, none⟩) (Kd.V_mono (Kd.V_mono HO279.out (fun k_ hk => (⟨hk, hk.2.1⟩ : _ ∧ k_ ≠ gb241))) (fun k_ hk => (⟨hk, hk.1.2.2.2.1⟩ : _ ∧ k_ ≠ gb243))) (fun _ hk => hk.1.2) (.slice Ao128 t274.length co128)) (fun _ hk => hk.2) (.slice Ao130 t280.length co130)) (fun _ hk => ⟨hk.1.1.1, ⟨hk.1.1.2.1, ⟨hk.1.1.2.2.1, ⟨hk.1.1.2.2.2.1, hk.1.1.2.2.2.2⟩⟩⟩⟩))⟩
          have n6_ : Aside0 (Kd.V (Kd.int .u32) 102 w132 w.heap.size (fun k_ => k_ ≠ gb223 ∧ k_ ≠ gb241 ∧ k_ ≠ gb242 ∧ k_ ≠ gb243 ∧ k_ ≠ gb265) (.slice Ao130 t280.length co130) t280) := ⟨by rw [hw]; exact (by exact vy <| Kd.V_mono (Kd.V_far (p := ⟨gb243, 0, none⟩) (Kd.V_far (p := ⟨gb241, 0, none⟩) (Kd.V_mono (Kd.V_mono HO282.out (fun k_ hk => (⟨hk, hk.2.1⟩ : _ ∧ k_ ≠ gb241))) (fun k_ hk => (⟨hk, hk.1.2.2.2.1⟩ : _ ∧ k_ ≠ gb243))) (fun _ hk => hk.1.2) (.slice Ao128 t274.length co128)) (fun _ hk => hk.2) (.slice Ao130 t280.length co130)) (fun _ hk => ⟨hk.1.1.1, ⟨hk.1.1.2.1, ⟨hk.1.1.2.2.1, ⟨hk.1.1.2.2.2.1, hk.1.1.2.2.2.2⟩⟩⟩⟩))⟩
          have n7_ : Aside0 (w132.heap[gb223]? = some (.cells #[.int .i64 t270] 3 (0, 0))) := ⟨by rw [hw]; exact (by refine bf NB223_243 ?_; refine bf NB223_241 ?_; exact bk BK223)⟩
          have n8_ : Aside0 (w132.heap[gb241]? = some (.cells #[.slice Ao128 t274.length co128] 56 (0, 0))) := ⟨by rw [hw]; exact (by refine bf NB241_243 ?_; (with_reducible repeat (first | refine blk_drewN ?_ _ | refine blk_drew ?_ | refine blk_alloc ?_ _)); refine blk_put (cs := #[.slice Ao97 x242q0_56.length co97]) ?_ 0 _ rfl; exact bk BK241)⟩
          have n9_ : Aside0 (w132.heap[gb242]? = some (.cells #[.slice Ao98 x243q0_56.length co98] 56 (0, 0))) := ⟨by rw [hw]; exact (by refine bf NB242_243 ?_; refine bf NB242_241 ?_; exact bk BK242)⟩
          have n10_ : Aside0 (w132.heap[gb243]? = some (.cells #[.slice Ao130 t280.length co130] 56 (0, 0))) := ⟨by rw [hw]; exact (by (with_reducible repeat (first | refine blk_drewN ?_ _ | refine blk_drew ?_ | refine blk_alloc ?_ _)); refine blk_put (cs := #[.slice Ao126 x244q0_56.length co126]) ?_ 0 _ rfl; refine bf NB243_241 ?_; exact bk BK243)⟩
          have n11_ : Aside0 (w132.heap[gb265]? = some (.cells #[.bool ((Int.tmod t227 2) == 0)] 4 (0, 0))) := ⟨by rw [hw]; exact (by refine bf NB265_243 ?_; refine bf NB265_241 ?_; exact bk BK265)⟩
          have n12_ : Aside0 (Below w.heap.size w w132) := ⟨by rw [hw]; exact (lk HB)⟩
          clear hw
          (try clear HO_9)
          (try clear HO_242q0)
          (try clear HO_243q0)
          (try clear HO_244q0)
          (try clear HO276)
          (try clear HO279)
          (try clear HO282)
          (try clear BK223)
          (try clear BK241)
          (try clear BK242)
          (try clear BK243)
          (try clear BK265)
          (try clear HB)
          have HO_9 := n0_
          have HO_242q0 := n1_
          have HO_243q0 := n2_
          have HO_244q0 := n3_
          have HO276 := n4_
          have HO279 := n5_
          have HO282 := n6_
          have BK223 := n7_
          have BK241 := n8_
          have BK242 := n9_
          have BK243 := n10_
          have BK265 := n11_
          have HB := n12_
          clear n0_ n1_ n2_ n3_ n4_ n5_ n6_ n7_ n8_ n9_ n10_ n11_ n12_
          try go_wp2
          go_meet
          case rel => exact ⟨_, (t277), (t274), (x243q0_56), (t280), (.slice Ao128 t274.length co128), (.slice Ao98 x243q0_56.length co98), (.slice Ao130 t280.length co130), H', ⟨by have := HJ2.out; have := HJ15.out; have := HJ36.out; have := HJ56.out; first | omega | exact Nat.le_refl _⟩, ⟨vk HO279⟩, ⟨vk HO276⟩, ⟨vk HO_243q0⟩, ⟨vk HO282⟩, ⟨bk BK223⟩, ⟨bk BK241⟩, ⟨bk BK242⟩, ⟨bk BK243⟩, ⟨bk BK265⟩, ⟨lk HB⟩⟩
         case rest =>
          clear HC88
          obtain ⟨kq, x9_87, x242q0_87, x243q0_87, x244q0_87, u242000, u243000, u244000, HA, HJ87, HO_9, HO_242q0, HO_243q0, HO_244q0, BK223, BK241, BK242, BK243, BK265, HB⟩ := hcut
          cases kq with
          | zero => exact absurd HA.out (by simp [num_Digits.j4])
          | succ kj87 =>
           have H := HA.out
           clear HA
           simp only [num_Digits.j4] at H
           have H' := am H
           clear H
           go_wp2
           go_loopg [] kj87 (fun kq w' => ∃ (x224q0_6 : Int) (x243q0_6 : List Int) (u243000 : Value), Aside0 (num_Digits.l0 kq t224 x9_87 x224q0_6 x242q0_87 x243q0_6 x244q0_87 ((Int.tmod t227 2) == 0) = some (r1, r2, r3)) ∧ Aside0 (kq ≤ kj87) ∧ Aside0 (Kd.V (Kd.int .u32) 102 w' w.heap.size (fun k_ => k_ ≠ gb223 ∧ k_ ≠ gb241 ∧ k_ ≠ gb242 ∧ k_ ≠ gb243 ∧ k_ ≠ gb265) u9 x9_87) ∧ Aside0 (Kd.V (Kd.int .u32) 102 w' w.heap.size (fun k_ => k_ ≠ gb223 ∧ k_ ≠ gb241 ∧ k_ ≠ gb242 ∧ k_ ≠ gb243 ∧ k_ ≠ gb265) u242000 x242q0_87) ∧ Aside0 (Kd.V (Kd.int .u32) 102 w' w.heap.size (fun k_ => k_ ≠ gb223 ∧ k_ ≠ gb241 ∧ k_ ≠ gb242 ∧ k_ ≠ gb243 ∧ k_ ≠ gb265) u243000 x243q0_6) ∧ Aside0 (Kd.V (Kd.int .u32) 102 w' w.heap.size (fun k_ => k_ ≠ gb223 ∧ k_ ≠ gb241 ∧ k_ ≠ gb242 ∧ k_ ≠ gb243 ∧ k_ ≠ gb265) u244000 x244q0_87) ∧ Aside0 (w'.heap[gb223]? = some (.cells #[.int .i64 x224q0_6] 3 (0, 0))) ∧ Aside0 (w'.heap[gb241]? = some (.cells #[u242000] 56 (0, 0))) ∧ Aside0 (w'.heap[gb242]? = some (.cells #[u243000] 56 (0, 0))) ∧ Aside0 (w'.heap[gb243]? = some (.cells #[u244000] 56 (0, 0))) ∧ Aside0 (w'.heap[gb265]? = some (.cells #[.bool ((Int.tmod t227 2) == 0)] 4 (0, 0))) ∧ Aside0 (Below w.heap.size w w'))
           case atStart => exact ⟨(t270), (x243q0_87), (u243000), H', ⟨Nat.le_refl _⟩, ⟨vk HO_9⟩, ⟨vk HO_242q0⟩, ⟨vk HO_243q0⟩, ⟨vk HO_244q0⟩, ⟨bk BK223⟩, ⟨bk BK241⟩, ⟨bk BK242⟩, ⟨bk BK243⟩, ⟨bk BK265⟩, ⟨lk HB⟩⟩
           case round =>
            clear H'
            obtain ⟨x224q0_6, x243q0_6, u243000, HA, HK6, HO_9, HO_242q0, HO_243q0, HO_244q0, BK223, BK241, BK242, BK243, BK265, HB⟩ := hrel
            cases gk with
            | zero => exact absurd HA.out (by simp [num_Digits.l0])
            | succ k6 =>
             have H := HA.out
             clear HA
             simp only [num_Digits.l0] at H
             replace H := bm H
             obtain ⟨t283, A1330, H⟩ := H
             replace H : (if t283 = true then ((num_nat_tens.f k6 x243q0_6 1).bind fun t284 => (num_Digits.l0 k6 t224 x9_87 (wrap64 (x224q0_6 + 1)) x242q0_87 t284 x244q0_87 ((Int.tmod t227 2) == 0))) else ((num_shortest.f k6 x242q0_87 x243q0_6 x9_87 x244q0_87 ((Int.tmod t227 2) == 0) x224q0_6).bind fun bt287 => (some (strOfNums bt287.1, bt287.2, t224)))) = some (r1, r2, r3) := H
             have A133 := am A1330
             clear A1330
             by_cases c134 : t283 = true
             ·
              subst c134
              have H1 : ((num_nat_tens.f k6 x243q0_6 1).bind fun t284 => (num_Digits.l0 k6 t224 x9_87 (wrap64 (x224q0_6 + 1)) x242q0_87 t284 x244q0_87 ((Int.tmod t227 2) == 0))) = some (r1, r2, r3) := by rw [if_pos rfl] at H; exact H
              clear H
              have H := H1
              clear H1
              replace H := bm H
              obtain ⟨t284, A1350, H⟩ := H
              replace H : (num_Digits.l0 k6 t224 x9_87 (wrap64 (x224q0_6 + 1)) x242q0_87 t284 x244q0_87 ((Int.tmod t227 2) == 0)) = some (r1, r2, r3) := H
              have A135 := am A1350
              clear A1350
              have H' := am H
              clear H
              obtain ⟨Ao136, co136, eo136⟩ := Kd.V_slice HO_242q0.out
              subst eo136
              obtain ⟨Ao137, co137, eo137⟩ := Kd.V_slice HO_244q0.out
              subst eo137
              obtain ⟨Ao138, co138, eo138⟩ := Kd.V_slice HO_243q0.out
              subst eo138
              go_wp2_with (first | ((refine Hd.gate_clo (t := 95) rfl ?_); refine Hd.goesC_ (some 96) rfl rfl Tryd.func47 (by kernel_rfl) rfl #[.pointer (some ⟨gb241, 0, none⟩), .pointer (some ⟨gb243, 0, none⟩), .pointer (some ⟨gb242, 0, none⟩), .pointer (some ⟨gb265, 0, none⟩)] rfl rfl ?_; (with_reducible refine (Hd.num_Digits_1.calls k6 gb241 gb243 gb242 gb265 Ao136 co136 x242q0_87 Ao137 co137 x244q0_87 Ao138 co138 x243q0_6 ((Int.tmod t227 2) == 0) true _ ?side1 ?side2 ?side3 ?side4 ?side5 ?side6 ?side7 ?side8 ?side9 ?side10 A133.out).mono ?_); (case side1 => exact bk BK241); (case side2 => exact bk BK243); (case side3 => exact bk BK242); (case side4 => exact bk BK265); (case side5 => exact ck (Kd.V_reads' HO_242q0.out).2.2); (case side6 => exact (Kd.V_reads' HO_242q0.out).2.1); (case side7 => exact ck (Kd.V_reads' HO_244q0.out).2.2); (case side8 => exact (Kd.V_reads' HO_244q0.out).2.1); (case side9 => exact ck (Kd.V_reads' HO_243q0.out).2.2); (case side10 => exact (Kd.V_reads' HO_243q0.out).2.1); rintro e w139 ⟨rfl, hb⟩; refine ⟨_, rfl, ?_⟩; replace HO_9 := vb HO_9 hb; replace HO_242q0 := vb HO_242q0 hb; replace HO_243q0 := vb HO_243q0 hb; replace HO_244q0 := vb HO_244q0 hb; replace BK223 := bb BK223 hb; replace BK241 := bb BK241 hb; replace BK242 := bb BK242 hb; replace BK243 := bb BK243 hb; replace BK265 := bb BK265 hb; replace HB := lb HB hb; have hnb140 := NB242_223.out; have hnc140 := NB223_242.out; have hnb141 := NB242_241.out; have hnc141 := NB241_242.out; have hnb142 := NB242_243.out; have hnc142 := NB243_242.out; have hnb143 := NB242_265.out; have hnc143 := NB265_242.out; have hcz144_0 : w139.cell? ⟨gb242, 0, none⟩ = some (.slice Ao138 x243q0_6.length co138) := (blk_cell BK242.out 0).trans rfl; have hfz144_0 := blk_frozen BK242.out 0) | ((with_reducible refine gate_callee (f := 52) rfl ?_); refine gL (some 100) Tryd.func52 #[.slice Ao138 x243q0_6.length co138, .int .i64 1] ?_; (with_reducible refine (num_nat_tens.calls k6 (fun k_ => (k_ ≠ gb223 ∧ (k_ ≠ gb241 ∧ (k_ ≠ gb242 ∧ (k_ ≠ gb243 ∧ k_ ≠ gb265))))) _ _ x243q0_6 1 t284 _ ?side1 A135.out).mono ?_); (case side1 => exact HO_243q0.out); rintro e w145 ⟨v285, rfl, ho0, hb⟩; refine ⟨_, rfl, ?_⟩; replace HO_9 := vb HO_9 hb; replace HO_242q0 := vb HO_242q0 hb; replace HO_243q0 := vb HO_243q0 hb; replace HO_244q0 := vb HO_244q0 hb; have HO286 := am (Kd.V_lower (Kd.V_mono (ok' := fun k_ => k_ ≠ gb223 ∧ k_ ≠ gb241 ∧ k_ ≠ gb242 ∧ k_ ≠ gb243 ∧ k_ ≠ gb265) ho0 (fun k_ hk_ => ⟨Or.elim hk_ (fun hs_ => hs_.1) (fun hn_ => (Kd.freshB (bk BK223) k_ hn_)), Or.elim hk_ (fun hs_ => hs_.2.1) (fun hn_ => (Kd.freshB (bk BK241) k_ hn_)), Or.elim hk_ (fun hs_ => hs_.2.2.1) (fun hn_ => (Kd.freshB (bk BK242) k_ hn_)), Or.elim hk_ (fun hs_ => hs_.2.2.2.1) (fun hn_ => (Kd.freshB (bk BK243) k_ hn_)), Or.elim hk_ (fun hs_ => hs_.2.2.2.2) (fun hn_ => (Kd.freshB (bk BK265) k_ hn_))⟩)) (below_size (lk HB))); replace BK223 := bb BK223 hb; replace BK241 := bb BK241 hb; replace BK242 := bb BK242 hb; replace BK243 := bb BK243 hb; replace BK265 := bb BK265 hb; replace HB := lb HB hb; obtain ⟨Ao146, co146, eo146⟩ := Kd.V_slice HO286.out; subst eo146; have hcz147_0 : w145.cell? ⟨gb242, 0, none⟩ = some (.slice Ao138 x243q0_6.length co138) := (blk_cell BK242.out 0).trans rfl; have hfz147_0 := blk_frozen BK242.out 0; have hnb148 := NB223_241.out; have hnc148 := NB241_223.out; have hnb149 := NB223_243.out; have hnc149 := NB243_223.out; have hnb150 := NB223_265.out; have hnc150 := NB265_223.out; have hcz151_0 : w145.cell? ⟨gb223, 0, none⟩ = some (.int .i64 x224q0_6) := (blk_cell BK223.out 0).trans rfl; have hfz151_0 := blk_frozen BK223.out 0))
              go_roundg k6
              case measure => have := HJ2.out; have := HJ15.out; have := HJ36.out; have := HJ56.out; have := HJ87.out; have := HK6.out; omega
              case rel => exact ⟨(wrap64 (x224q0_6 + 1)), (t284), (.slice Ao146 t284.length co146), H', ⟨by have := HJ2.out; have := HJ15.out; have := HJ36.out; have := HJ56.out; have := HJ87.out; have := HK6.out; omega⟩, ⟨by exact vy <| Kd.V_mono (Kd.V_far (p := ⟨gb223, 0, none⟩) (Kd.V_far (p := ⟨gb242, 0, none⟩) (Kd.V_mono (Kd.V_mono HO_9.out (fun k_ hk => (⟨hk, hk.2.2.1⟩ : _ ∧ k_ ≠ gb242))) (fun k_ hk => (⟨hk, hk.1.1⟩ : _ ∧ k_ ≠ gb223))) (fun _ hk => hk.1.2) (.slice Ao146 t284.length co146)) (fun _ hk => hk.2) (.int .i64 (wrap64 (x224q0_6 + 1)))) (fun _ hk => ⟨hk.1.1.1, ⟨hk.1.1.2.1, ⟨hk.1.1.2.2.1, ⟨hk.1.1.2.2.2.1, hk.1.1.2.2.2.2⟩⟩⟩⟩)⟩, ⟨by exact vy <| Kd.V_mono (Kd.V_far (p := ⟨gb223, 0, none⟩) (Kd.V_far (p := ⟨gb242, 0, none⟩) (Kd.V_mono (Kd.V_mono HO_242q0.out (fun k_ hk => (⟨hk, hk.2.2.1⟩ : _ ∧ k_ ≠ gb242))) (fun k_ hk => (⟨hk, hk.1.1⟩ : _ ∧ k_ ≠ gb223))) (fun _ hk => hk.1.2) (.slice Ao146 t284.length co146)) (fun _ hk => hk.2) (.int .i64 (wrap64 (x224q0_6 + 1)))) (fun _ hk => ⟨hk.1.1.1, ⟨hk.1.1.2.1, ⟨hk.1.1.2.2.1, ⟨hk.1.1.2.2.2.1, hk.1.1.2.2.2.2⟩⟩⟩⟩)⟩, ⟨by exact vy <| Kd.V_mono (Kd.V_far (p := ⟨gb223, 0, none⟩) (Kd.V_far (p := ⟨gb242, 0, none⟩) (Kd.V_mono (Kd.V_mono HO286.out (fun k_ hk => (⟨hk, hk.2.2.1⟩ : _ ∧ k_ ≠ gb242))) (fun k_ hk => (⟨hk, hk.1.1⟩ : _ ∧ k_ ≠ gb223))) (fun _ hk => hk.1.2) (.slice Ao146 t284.length co146)) (fun _ hk => hk.2) (.int .i64 (wrap64 (x224q0_6 + 1)))) (fun _ hk => ⟨hk.1.1.1, ⟨hk.1.1.2.1, ⟨hk.1.1.2.2.1, ⟨hk.1.1.2.2.2.1, hk.1.1.2.2.2.2⟩⟩⟩⟩)⟩, ⟨by exact vy <| Kd.V_mono (Kd.V_far (p := ⟨gb223, 0, none⟩) (Kd.V_far (p := ⟨gb242, 0, none⟩) (Kd.V_mono (Kd.V_mono HO_244q0.out (fun k_ hk => (⟨hk, hk.2.2.1⟩ : _ ∧ k_ ≠ gb242))) (fun k_ hk => (⟨hk, hk.1.1⟩ : _ ∧ k_ ≠ gb223))) (fun _ hk => hk.1.2) (.slice Ao146 t284.length co146)) (fun _ hk => hk.2) (.int .i64 (wrap64 (x224q0_6 + 1)))) (fun _ hk => ⟨hk.1.1.1, ⟨hk.1.1.2.1, ⟨hk.1.1.2.2.1, ⟨hk.1.1.2.2.2.1, hk.1.1.2.2.2.2⟩⟩⟩⟩)⟩, ⟨by (with_reducible repeat (first | refine blk_drewN ?_ _ | refine blk_drew ?_ | refine blk_alloc ?_ _)); refine blk_put (cs := #[.int .i64 x224q0_6]) ?_ 0 _ rfl; refine bf NB223_242 ?_; exact bk BK223⟩, ⟨by refine bf NB241_223 ?_; refine bf NB241_242 ?_; exact bk BK241⟩, ⟨by refine bf NB242_223 ?_; (with_reducible repeat (first | refine blk_drewN ?_ _ | refine blk_drew ?_ | refine blk_alloc ?_ _)); refine blk_put (cs := #[.slice Ao138 x243q0_6.length co138]) ?_ 0 _ rfl; exact bk BK242⟩, ⟨by refine bf NB243_223 ?_; refine bf NB243_242 ?_; exact bk BK243⟩, ⟨by refine bf NB265_223 ?_; refine bf NB265_242 ?_; exact bk BK265⟩, ⟨lk HB⟩⟩
             replace c134 := Bool.eq_false_iff.mpr c134
             subst c134
             have H1 : ((num_shortest.f k6 x242q0_87 x243q0_6 x9_87 x244q0_87 ((Int.tmod t227 2) == 0) x224q0_6).bind fun bt287 => (some (strOfNums bt287.1, bt287.2, t224))) = some (r1, r2, r3) := by rw [if_neg (show ¬ (false = true) by decide)] at H; exact H
             clear H
             have H := H1
             clear H1
             replace H := bm H
             obtain ⟨⟨t287, t290⟩, A1520, H⟩ := H
             replace H : (some (strOfNums t287, t290, t224)) = some (r1, r2, r3) := H
             have A152 := am A1520
             clear A1520
             simp only [Option.some.injEq, Prod.mk.injEq] at H
             obtain ⟨rfl, rfl, rfl⟩ := H
             obtain ⟨Ao153, co153, eo153⟩ := Kd.V_slice HO_242q0.out
             subst eo153
             obtain ⟨Ao154, co154, eo154⟩ := Kd.V_slice HO_244q0.out
             subst eo154
             obtain ⟨Ao155, co155, eo155⟩ := Kd.V_slice HO_243q0.out
             subst eo155
             try go_wp2_with (first | ((refine Hd.gate_clo (t := 95) rfl ?_); refine Hd.goesC_ (some 96) rfl rfl Tryd.func47 (by kernel_rfl) rfl #[.pointer (some ⟨gb241, 0, none⟩), .pointer (some ⟨gb243, 0, none⟩), .pointer (some ⟨gb242, 0, none⟩), .pointer (some ⟨gb265, 0, none⟩)] rfl rfl ?_; (with_reducible refine (Hd.num_Digits_1.calls k6 gb241 gb243 gb242 gb265 Ao153 co153 x242q0_87 Ao154 co154 x244q0_87 Ao155 co155 x243q0_6 ((Int.tmod t227 2) == 0) false _ ?side1 ?side2 ?side3 ?side4 ?side5 ?side6 ?side7 ?side8 ?side9 ?side10 A133.out).mono ?_); (case side1 => exact bk BK241); (case side2 => exact bk BK243); (case side3 => exact bk BK242); (case side4 => exact bk BK265); (case side5 => exact ck (Kd.V_reads' HO_242q0.out).2.2); (case side6 => exact (Kd.V_reads' HO_242q0.out).2.1); (case side7 => exact ck (Kd.V_reads' HO_244q0.out).2.2); (case side8 => exact (Kd.V_reads' HO_244q0.out).2.1); (case side9 => exact ck (Kd.V_reads' HO_243q0.out).2.2); (case side10 => exact (Kd.V_reads' HO_243q0.out).2.1); rintro e w156 ⟨rfl, hb⟩; refine ⟨_, rfl, ?_⟩; replace HO_9 := vb HO_9 hb; replace HO_242q0 := vb HO_242q0 hb; replace HO_243q0 := vb HO_243q0 hb; replace HO_244q0 := vb HO_244q0 hb; replace BK223 := bb BK223 hb; replace BK241 := bb BK241 hb; replace BK242 := bb BK242 hb; replace BK243 := bb BK243 hb; replace BK265 := bb BK265 hb; replace HB := lb HB hb; have hnb157 := NB241_223.out; have hnc157 := NB223_241.out; have hnb158 := NB241_242.out; have hnc158 := NB242_241.out; have hnb159 := NB241_243.out; have hnc159 := NB243_241.out; have hnb160 := NB241_265.out; have hnc160 := NB265_241.out; have hcz161_0 : w156.cell? ⟨gb241, 0, none⟩ = some (.slice Ao153 x242q0_87.length co153) := (blk_cell BK241.out 0).trans rfl; have hfz161_0 := blk_frozen BK241.out 0; have hnb162 := NB242_223.out; have hnc162 := NB223_242.out; have hnb163 := NB242_243.out; have hnc163 := NB243_242.out; have hnb164 := NB242_265.out; have hnc164 := NB265_242.out; have hcz165_0 : w156.cell? ⟨gb242, 0, none⟩ = some (.slice Ao155 x243q0_6.length co155) := (blk_cell BK242.out 0).trans rfl; have hfz165_0 := blk_frozen BK242.out 0; have hnb166 := NB243_223.out; have hnc166 := NB223_243.out; have hnb167 := NB243_265.out; have hnc167 := NB265_243.out; have hcz168_0 : w156.cell? ⟨gb243, 0, none⟩ = some (.slice Ao154 x244q0_87.length co154) := (blk_cell BK243.out 0).trans rfl; have hfz168_0 := blk_frozen BK243.out 0; have hnb169 := NB265_223.out; have hnc169 := NB223_265.out; have hcz170_0 : w156.cell? ⟨gb265, 0, none⟩ = some (.bool ((Int.tmod t227 2) == 0)) := (blk_cell BK265.out 0).trans rfl; have hfz170_0 := blk_frozen BK265.out 0; obtain ⟨Ao171, co171, eo171⟩ := Kd.V_slice HO_9.out; subst eo171; have HIb223 := am (show IsS3 w _ gb223 x224q0_6 from ⟨BK223.out, GE223.out⟩)) | ((with_reducible refine gate_callee (f := 53) rfl ?_); refine gL (some 106) Tryd.func53 #[.slice Ao153 x242q0_87.length co153, .slice Ao155 x243q0_6.length co155, .slice Ao171 x9_87.length co171, .slice Ao154 x244q0_87.length co154, .bool ((Int.tmod t227 2) == 0), .pointer (some ⟨gb223, 0, none⟩)] ?_; (with_reducible refine (num_shortest.calls k6 (fun k_ => (k_ ≠ gb223 ∧ (k_ ≠ gb241 ∧ (k_ ≠ gb242 ∧ (k_ ≠ gb243 ∧ k_ ≠ gb265))))) _ _ x242q0_87 _ _ x243q0_6 (fun k_ => (k_ ≠ gb223 ∧ (k_ ≠ gb241 ∧ (k_ ≠ gb242 ∧ (k_ ≠ gb243 ∧ k_ ≠ gb265))))) _ _ x9_87 (fun k_ => (k_ ≠ gb223 ∧ (k_ ≠ gb241 ∧ (k_ ≠ gb242 ∧ (k_ ≠ gb243 ∧ k_ ≠ gb265))))) _ _ x244q0_87 ((Int.tmod t227 2) == 0) gb223 x224q0_6 t287 t290 w _ ?side1 ?side2 ?side3 ?side4 ?side5 ?side6 ?side7 ?side8 A152.out).mono ?_); (case side1 => repeat (first | (with_reducible first | exact HIb223.out | apply IsS3.alloc | apply IsS3.drewN | apply IsS3.drew | apply IsS3.set_0 | refine IsS3.far ?_ NB223_241.out _ | refine IsS3.far ?_ NB223_242.out _ | refine IsS3.far ?_ NB223_243.out _ | refine IsS3.far ?_ NB223_265.out _) | exact HIb223.out)); (case side2 => repeat (first | (with_reducible first | exact HB.out | apply below_alloc | apply pw_below_drewN | apply below_drew1 | refine below_set ?_ (IsS3.ge HIb223.out) | refine below_set ?_ GE241.out | refine below_set ?_ GE242.out | refine below_set ?_ GE243.out | refine below_set ?_ GE265.out) | exact HB.out)); (case side3 => exact Kd.V_mono (HO_242q0.out) (fun k_ hk_ => ⟨hk_, hk_.1⟩)); (case side4 => exact ck (Kd.V_reads' HO_243q0.out).2.2); (case side5 => exact (Kd.V_reads' HO_243q0.out).2.1); (case side6 => exact Hd.far_V 0 HO_243q0.out (fun k_ hk_ => hk_.1)); (case side7 => exact Kd.V_mono (HO_9.out) (fun k_ hk_ => ⟨hk_, hk_.1⟩)); (case side8 => exact Kd.V_mono (HO_244q0.out) (fun k_ hk_ => ⟨hk_, hk_.1⟩)); rintro e w172 ⟨v288, rfl, ho0, hi, hb, hk⟩; refine ⟨_, rfl, ?_⟩; have n0_ := am (Kd.V_mono (Kd.V_told (Kd.V_oldK (Kd.V_mono (ok := fun k_ => (k_ ≠ gb223 ∧ (k_ ≠ gb241 ∧ (k_ ≠ gb242 ∧ (k_ ≠ gb243 ∧ k_ ≠ gb265))))) (vk HO_9) (fun k_ hk_ => (⟨hk_, hk_.1⟩ : _ ∧ k_ ≠ gb223))) hk) (Kd.R_base ho0)) (fun _ h_ => h_.1)); have n1_ := am (Kd.V_mono (Kd.V_told (Kd.V_oldK (Kd.V_mono (ok := fun k_ => (k_ ≠ gb223 ∧ (k_ ≠ gb241 ∧ (k_ ≠ gb242 ∧ (k_ ≠ gb243 ∧ k_ ≠ gb265))))) (vk HO_242q0) (fun k_ hk_ => (⟨hk_, hk_.1⟩ : _ ∧ k_ ≠ gb223))) hk) (Kd.R_base ho0)) (fun _ h_ => h_.1)); have n2_ := am (Kd.V_mono (Kd.V_told (Kd.V_oldK (Kd.V_mono (ok := fun k_ => (k_ ≠ gb223 ∧ (k_ ≠ gb241 ∧ (k_ ≠ gb242 ∧ (k_ ≠ gb243 ∧ k_ ≠ gb265))))) (vk HO_243q0) (fun k_ hk_ => (⟨hk_, hk_.1⟩ : _ ∧ k_ ≠ gb223))) hk) (Kd.R_base ho0)) (fun _ h_ => h_.1)); have n3_ := am (Kd.V_mono (Kd.V_told (Kd.V_oldK (Kd.V_mono (ok := fun k_ => (k_ ≠ gb223 ∧ (k_ ≠ gb241 ∧ (k_ ≠ gb242 ∧ (k_ ≠ gb243 ∧ k_ ≠ gb265))))) (vk HO_244q0) (fun k_ hk_ => (⟨hk_, hk_.1⟩ : _ ∧ k_ ≠ gb223))) hk) (Kd.R_base ho0)) (fun _ h_ => h_.1)); have n4_ := am (KeepBut.blk hk (g' := gb241) (o := .cells #[.slice Ao153 x242q0_87.length co153] 56 (0, 0)) (bk BK241) NB241_223.out (by simp)); have n5_ := am (KeepBut.blk hk (g' := gb242) (o := .cells #[.slice Ao155 x243q0_6.length co155] 56 (0, 0)) (bk BK242) NB242_223.out (by simp)); have n6_ := am (KeepBut.blk hk (g' := gb243) (o := .cells #[.slice Ao154 x244q0_87.length co154] 56 (0, 0)) (bk BK243) NB243_223.out (by simp)); have n7_ := am (KeepBut.blk hk (g' := gb265) (o := .cells #[.bool ((Int.tmod t227 2) == 0)] 4 (0, 0)) (bk BK265) NB265_223.out (by simp)); have n8_ := am (Kd.R_lower (Kd.R_mono (ok' := fun k_ => True) ho0 (fun _ hk_ => trivial)) (below_size (by repeat (first | (with_reducible first | exact HB.out | apply below_alloc | apply pw_below_drewN | apply below_drew1 | refine below_set ?_ (IsS3.ge HIb223.out) | refine below_set ?_ GE241.out | refine below_set ?_ GE242.out | refine below_set ?_ GE243.out | refine below_set ?_ GE265.out) | exact HB.out)))); have n9_ := am (hb); have n10_ := am (hi.1); clear HO_9 HO_242q0 HO_243q0 HO_244q0 BK241 BK242 BK243 BK265 HB BK223; have HO_9 := n0_; have HO_242q0 := n1_; have HO_243q0 := n2_; have HO_244q0 := n3_; have BK241 := n4_; have BK242 := n5_; have BK243 := n6_; have BK265 := n7_; have HO289 := n8_; have HB := n9_; have BK223 := n10_; clear n0_ n1_ n2_ n3_ n4_ n5_ n6_ n7_ n8_ n9_ n10_))
             have n0_ := am (Kd.V_drew HO_9.out)
             have n1_ := am (Kd.V_drew HO_242q0.out)
             have n2_ := am (Kd.V_drew HO_243q0.out)
             have n3_ := am (Kd.V_drew HO_244q0.out)
             have n4_ := am (Kd.R_drew HO289.out)
             have n5_ := am (blk_drew BK223.out)
             have n6_ := am (blk_drew BK241.out)
             have n7_ := am (blk_drew BK242.out)
             have n8_ := am (blk_drew BK243.out)
             have n9_ := am (blk_drew BK265.out)
             have n10_ := am (below_drew1 HB.out)
             clear HO_9
             clear HO_242q0
             clear HO_243q0
             clear HO_244q0
             clear HO289
             clear BK223
             clear BK241
             clear BK242
             clear BK243
             clear BK265
             clear HB
             have HO_9 := n0_
             have HO_242q0 := n1_
             have HO_243q0 := n2_
             have HO_244q0 := n3_
             have HO289 := n4_
             have BK223 := n5_
             have BK241 := n6_
             have BK242 := n7_
             have BK243 := n8_
             have BK265 := n9_
             have HB := n10_
             clear n0_ n1_ n2_ n3_ n4_ n5_ n6_ n7_ n8_ n9_ n10_
             have hcv174 := own_string (P := Tryd.prog) Tryd.underlying43 Tryd.underlying5 Tryd.underlying9 (Kd.own_of_R HO289.out)
             refine start_ (n := 7) (S := fun w' => w'.cell? ⟨gb223, 0, none⟩ = some (.int .i64 t290) ∧ (convert 43 9 v288).run Tryd.prog w' = .ok (.string (strOfNums t287)) w') (ds := [5]) #[false, false, false, false, false, false, false] (by kernel_rfl) rfl rfl ⟨(blk_cell BK223.out 0).trans rfl, hcv174⟩ (fun hHeld => ?_)
             generalize w172.drew = w173 at HO_9 HO_242q0 HO_243q0 HO_244q0 HO289 BK223 BK241 BK242 BK243 BK265 HB hHeld ⊢
             refine pure_ (i := 0) (N := some 107) (v := ?_) (a' := ?_) #[true, false, false, false, false, false, false] rfl rfl (by kernel_rfl) (fun _ _ _ h => h) (Or.inl ⟨by rfl, ?_⟩) ?_ ?_
             rotate_left
             ·
              intro w'
              go_simp
              with_reducible rfl
             rotate_left
             ·
              exact pz
             refine take_ (i := 1) (N := some 108) (v := ?_) (a' := ?_) #[true, true, false, false, false, false, false] rfl rfl (by kernel_rfl) (fun _ _ _ h => h) (Or.inl ⟨by rfl, ?_⟩) hHeld ?_ ?_
             rotate_left
             ·
              rintro w' ⟨s0, s1⟩
              go_simp
              with_reducible rfl
             rotate_left
             ·
              exact pz
             refine pure_ (i := 3) (N := some 110) (v := ?_) (a' := ?_) #[true, true, false, true, false, false, false] rfl rfl (by kernel_rfl) (fun _ _ _ h => h) (Or.inl ⟨by rfl, ?_⟩) ?_ ?_
             rotate_left
             ·
              intro w'
              go_simp
              with_reducible rfl
             rotate_left
             ·
              exact pz
             refine pure_ (i := 4) (N := some 2) (v := ?_) (a' := ?_) #[true, true, false, true, true, false, false] rfl rfl (by kernel_rfl) (fun _ _ _ h => h) (Or.inl ⟨by rfl, ?_⟩) ?_ ?_
             rotate_left
             ·
              intro w'
              go_simp
              with_reducible rfl
             rotate_left
             ·
              exact pz
             refine take_ (i := 2) (N := some 109) (v := ?_) (a' := ?_) #[true, true, true, true, true, false, false] rfl rfl (by kernel_rfl) (fun _ _ _ h => h) (Or.inl ⟨by rfl, ?_⟩) hHeld ?_ ?_
             rotate_left
             ·
              rintro w' ⟨s0, s1⟩
              go_simp
              with_reducible rfl
             rotate_left
             ·
              exact pz
             refine last_ (i := 5) (N := none) #[true, true, true, true, true, true, false] rfl rfl (by kernel_rfl) (by decide) (fun K hK => ?_)
             have hs175 : w173.cell? ⟨gb223, 0, none⟩ = some (.int .i64 t290) := (blk_cell BK223.out 0).trans rfl
             have hfs175 := blk_frozen BK223.out 0
             have hns175_1 := NB241_223.out
             have hns175_2 := NB242_223.out
             have hns175_3 := NB243_223.out
             have hns175_4 := NB265_223.out
             have hms175_1 := NB223_241.out
             have hms175_2 := NB223_242.out
             have hms175_3 := NB223_243.out
             have hms175_4 := NB223_265.out
             refine skip_ (w1 := ?_) (by rfl) rfl ?_ ?_
             rotate_left
             ·
              go_simp
              rfl
             refine hK.out _ _ ?_
             clear hK K
             refine pure_ (i := 6) (N := some 4) (v := ?_) (a' := ?_) #[true, true, true, true, true, true, true] rfl rfl (by kernel_rfl) (fun _ _ _ h => h) (Or.inl ⟨by rfl, ?_⟩) ?_ ?_
             rotate_left
             ·
              intro w'
              go_simp
              with_reducible rfl
             rotate_left
             ·
              exact pz
             refine done_ (by kernel_rfl) ?_
             (first | refine Hd.letter_ (fun w176 hw => ?_) | refine Hd.letterL_ (fun w176 hw => ?_) | refine Hd.letterE_ (fun w176 hw => ?_))
             have n0_ : Aside0 (Kd.V (Kd.int .u32) 102 w176 w.heap.size (fun k_ => some k_ ≠ (v288 : Value).ownBlock ∧ k_ ≠ gb223 ∧ k_ ≠ gb241 ∧ k_ ≠ gb242 ∧ k_ ≠ gb243 ∧ k_ ≠ gb265) (.slice Ao171 x9_87.length co171) x9_87) := ⟨by rw [hw]; exact (by exact vy <| Kd.V_mono (Kd.V_far (p := ⟨gb223, 0, none⟩) (Kd.V_mono HO_9.out (fun k_ hk => (⟨hk, hk.1.1⟩ : _ ∧ k_ ≠ gb223))) (fun _ hk => hk.2) (.int .i64 t290)) (fun _ hk => ⟨hk.1.2, ⟨hk.1.1.1, ⟨hk.1.1.2.1, ⟨hk.1.1.2.2.1, ⟨hk.1.1.2.2.2.1, hk.1.1.2.2.2.2⟩⟩⟩⟩⟩))⟩
             have n1_ : Aside0 (Kd.V (Kd.int .u32) 102 w176 w.heap.size (fun k_ => some k_ ≠ (v288 : Value).ownBlock ∧ k_ ≠ gb223 ∧ k_ ≠ gb241 ∧ k_ ≠ gb242 ∧ k_ ≠ gb243 ∧ k_ ≠ gb265) (.slice Ao153 x242q0_87.length co153) x242q0_87) := ⟨by rw [hw]; exact (by exact vy <| Kd.V_mono (Kd.V_far (p := ⟨gb223, 0, none⟩) (Kd.V_mono HO_242q0.out (fun k_ hk => (⟨hk, hk.1.1⟩ : _ ∧ k_ ≠ gb223))) (fun _ hk => hk.2) (.int .i64 t290)) (fun _ hk => ⟨hk.1.2, ⟨hk.1.1.1, ⟨hk.1.1.2.1, ⟨hk.1.1.2.2.1, ⟨hk.1.1.2.2.2.1, hk.1.1.2.2.2.2⟩⟩⟩⟩⟩))⟩
             have n2_ : Aside0 (Kd.V (Kd.int .u32) 102 w176 w.heap.size (fun k_ => some k_ ≠ (v288 : Value).ownBlock ∧ k_ ≠ gb223 ∧ k_ ≠ gb241 ∧ k_ ≠ gb242 ∧ k_ ≠ gb243 ∧ k_ ≠ gb265) (.slice Ao155 x243q0_6.length co155) x243q0_6) := ⟨by rw [hw]; exact (by exact vy <| Kd.V_mono (Kd.V_far (p := ⟨gb223, 0, none⟩) (Kd.V_mono HO_243q0.out (fun k_ hk => (⟨hk, hk.1.1⟩ : _ ∧ k_ ≠ gb223))) (fun _ hk => hk.2) (.int .i64 t290)) (fun _ hk => ⟨hk.1.2, ⟨hk.1.1.1, ⟨hk.1.1.2.1, ⟨hk.1.1.2.2.1, ⟨hk.1.1.2.2.2.1, hk.1.1.2.2.2.2⟩⟩⟩⟩⟩))⟩
             have n3_ : Aside0 (Kd.V (Kd.int .u32) 102 w176 w.heap.size (fun k_ => some k_ ≠ (v288 : Value).ownBlock ∧ k_ ≠ gb223 ∧ k_ ≠ gb241 ∧ k_ ≠ gb242 ∧ k_ ≠ gb243 ∧ k_ ≠ gb265) (.slice Ao154 x244q0_87.length co154) x244q0_87) := ⟨by rw [hw]; exact (by exact vy <| Kd.V_mono (Kd.V_far (p := ⟨gb223, 0, none⟩) (Kd.V_mono HO_244q0.out (fun k_ hk => (⟨hk, hk.1.1⟩ : _ ∧ k_ ≠ gb223))) (fun _ hk => hk.2) (.int .i64 t290)) (fun _ hk => ⟨hk.1.2, ⟨hk.1.1.1, ⟨hk.1.1.2.1, ⟨hk.1.1.2.2.1, ⟨hk.1.1.2.2.2.1, hk.1.1.2.2.2.2⟩⟩⟩⟩⟩))⟩
             have n4_ : Aside0 (Kd.R (Kd.int .u8) 5 w176 w.heap.size (fun _ => True) v288 t287) := ⟨by rw [hw]; exact (by exact ry <| Kd.R_mono (Kd.R_far (p := ⟨gb223, 0, none⟩) (Kd.R_types HO289.out BK223.out (by decide)) (fun _ hk => hk.2) (.int .i64 t290)) (fun _ hk => trivial))⟩
             have n5_ : Aside0 (w176.heap[gb223]? = some (.cells #[.int .i64 t290] 3 (0, 0))) := ⟨by rw [hw]; exact (by (with_reducible repeat (first | refine blk_drewN ?_ _ | refine blk_drew ?_ | refine blk_alloc ?_ _)); refine blk_put (cs := #[.int .i64 t290]) ?_ 0 _ rfl; exact bk BK223)⟩
             have n6_ : Aside0 (w176.heap[gb241]? = some (.cells #[.slice Ao153 x242q0_87.length co153] 56 (0, 0))) := ⟨by rw [hw]; exact (by refine bf NB241_223 ?_; exact bk BK241)⟩
             have n7_ : Aside0 (w176.heap[gb242]? = some (.cells #[.slice Ao155 x243q0_6.length co155] 56 (0, 0))) := ⟨by rw [hw]; exact (by refine bf NB242_223 ?_; exact bk BK242)⟩
             have n8_ : Aside0 (w176.heap[gb243]? = some (.cells #[.slice Ao154 x244q0_87.length co154] 56 (0, 0))) := ⟨by rw [hw]; exact (by refine bf NB243_223 ?_; exact bk BK243)⟩
             have n9_ : Aside0 (w176.heap[gb265]? = some (.cells #[.bool ((Int.tmod t227 2) == 0)] 4 (0, 0))) := ⟨by rw [hw]; exact (by refine bf NB265_223 ?_; exact bk BK265)⟩
             have n10_ : Aside0 (Below w.heap.size w w176) := ⟨by rw [hw]; exact (lk HB)⟩
             clear hw
             (try clear HO_9)
             (try clear HO_242q0)
             (try clear HO_243q0)
             (try clear HO_244q0)
             (try clear HO289)
             (try clear BK223)
             (try clear BK241)
             (try clear BK242)
             (try clear BK243)
             (try clear BK265)
             (try clear HB)
             have HO_9 := n0_
             have HO_242q0 := n1_
             have HO_243q0 := n2_
             have HO_244q0 := n3_
             have HO289 := n4_
             have BK223 := n5_
             have BK241 := n6_
             have BK242 := n7_
             have BK243 := n8_
             have BK265 := n9_
             have HB := n10_
             clear n0_ n1_ n2_ n3_ n4_ n5_ n6_ n7_ n8_ n9_ n10_
             try go_wp2
             refine bodyPost_ret (Hd.results_tct rfl _ _ gb223 3 (.int .i64 t290) (0, 0) _ rfl (bk BK223) Tryd.underlying3 rfl) rfl ?_
             exact ex (lk HB)
mutual
def num_Text.j0 : Nat → Nat → ByteArray → Int → ByteArray → Option (ByteArray)
 | 0, _, _, _, _ => none
 | k + 1, x0, x3, x4, x6 => (math_IsNaN.f x0).bind fun t495 => (if t495 = true then (some (⟨#[78, 97, 78]⟩ : ByteArray)) else (if (FloatKind.f64.format.order x0 9218868437227405311 == some Ordering.gt) = true then (some (⟨#[43, 73, 110, 102]⟩ : ByteArray)) else (if (FloatKind.f64.format.order x0 18442240474082181119 == some Ordering.lt) = true then (some (⟨#[45, 73, 110, 102]⟩ : ByteArray)) else (if (FloatKind.f64.format.order x0 0 == some Ordering.eq) = true then (if x6.size + 1 ≤ 9223372036854775807 then (some (x6 ++ (⟨#[48]⟩ : ByteArray))) else (none)) else (if x4 < (-5) then (num_Text.j1 k x3 x4 x6 true) else (num_Text.j1 k x3 x4 x6 (decide (x4 > 21))))))))
def num_Text.j1 : Nat → ByteArray → Int → ByteArray → Bool → Option (ByteArray)
 | 0, _, _, _, _ => none
 | k + 1, x3, x4, x6, x28 => if x28 = true then ((num_scientific.f k x3 (wrap64 (x4 - 1))).bind fun t497 => (if x6.size + t497.size ≤ 9223372036854775807 then (some (x6 ++ t497)) else (none))) else (if x4 ≤ 0 then (if x6.size + 2 ≤ 9223372036854775807 then ((some (x6 ++ (⟨#[48, 46]⟩ : ByteArray) : ByteArray)).bind fun y499 => ((Hd.strings_Repeat.f (⟨#[48]⟩ : ByteArray) (wrap64 (-x4))).bind fun t500 => (if y499.size + t500.size ≤ 9223372036854775807 then ((some (y499 ++ t500 : ByteArray)).bind fun y501 => (if y501.size + x3.size ≤ 9223372036854775807 then (some (y501 ++ x3)) else (none))) else (none)))) else (none)) else (if x4 ≥ (x3.size : Int) then (if x6.size + x3.size ≤ 9223372036854775807 then ((some (x6 ++ x3 : ByteArray)).bind fun y503 => ((Hd.strings_Repeat.f (⟨#[48]⟩ : ByteArray) (wrap64 (x4 - (x3.size : Int)))).bind fun t504 => (if y503.size + t504.size ≤ 9223372036854775807 then (some (y503 ++ t504)) else (none)))) else (none)) else (if 0 ≤ x4 then (if x4 ≤ (x3.size : Int) then ((some (x3.extract 0 (x4 : Int).toNat : ByteArray)).bind fun y506 => (if x6.size + y506.size ≤ 9223372036854775807 then ((some (x6 ++ y506 : ByteArray)).bind fun y507 => (if y507.size + 1 ≤ 9223372036854775807 then ((some (y507 ++ (⟨#[46]⟩ : ByteArray) : ByteArray)).bind fun y508 => ((some (x3.extract (x4 : Int).toNat x3.size : ByteArray)).bind fun y509 => (if y508.size + y509.size ≤ 9223372036854775807 then (some (y508 ++ y509)) else (none)))) else (none))) else (none))) else (none)) else (none))))
end
def num_Text.f (k : Nat) (a0 : Nat) : Option (ByteArray) := (num_Digits.f k a0).bind fun bt492 => (if bt492.2.2 = true then (num_Text.j0 k a0 bt492.1 bt492.2.1 (⟨#[45]⟩ : ByteArray)) else (num_Text.j0 k a0 bt492.1 bt492.2.1 (⟨#[]⟩ : ByteArray)))
theorem num_Text.mono_l : ∀ k, (∀ y0 y1 y2 y3, LeO (num_Text.j0 k y0 y1 y2 y3) (num_Text.j0 (k + 1) y0 y1 y2 y3)) ∧ (∀ y0 y1 y2 y3, LeO (num_Text.j1 k y0 y1 y2 y3) (num_Text.j1 (k + 1) y0 y1 y2 y3))
 | 0 => ⟨fun _ _ _ _ r h => by simp [num_Text.j0] at h, fun _ _ _ _ r h => by simp [num_Text.j1] at h⟩
 | k + 1 => by
  obtain ⟨ih0, ih1⟩ := num_Text.mono_l k
  refine ⟨?_, ?_⟩ <;> intros <;> (first | unfold num_Text.j0 | unfold num_Text.j1) <;> repeat' (with_reducible first | apply ih0 | apply ih1 | apply num_Digits.mono | apply num_scientific.mono | apply LeO.refl | apply LeO.none | apply LeO.ite | refine LeO.bind ?_ (fun _ => ?_))
theorem num_Text.mono : ∀ a0 k, LeO (num_Text.f k a0) (num_Text.f (k + 1) a0) := by
 intro a0 k
 obtain ⟨ih0, ih1⟩ := num_Text.mono_l k
 unfold num_Text.f
 repeat' (with_reducible first | apply ih0 | apply ih1 | apply num_Digits.mono | apply num_scientific.mono | apply LeO.refl | apply LeO.none | apply LeO.ite | refine LeO.bind ?_ (fun _ => ?_))
set_option maxHeartbeats 8000000 in
theorem num_Text.calls (k : Nat) (a0 : Nat) (r : ByteArray) (w : World) (h : num_Text.f k a0 = some r) :
  Calls Tryd.prog 15 #[.float .f64 a0] w fun e w' => e = .returned (.string r) ∧ Below w.heap.size w w' := by
 have HB := am (Below.refl w.heap.size w)
 have H : ((num_Digits.f k a0).bind fun bt492 => (if bt492.2.2 = true then (num_Text.j0 k a0 bt492.1 bt492.2.1 (⟨#[45]⟩ : ByteArray)) else (num_Text.j0 k a0 bt492.1 bt492.2.1 (⟨#[]⟩ : ByteArray)))) = some r := h
 clear h
 replace H := bm H
 obtain ⟨⟨t492, t493, t494⟩, A20, H⟩ := H
 replace H : (if t494 = true then (num_Text.j0 k a0 t492 t493 (⟨#[45]⟩ : ByteArray)) else (num_Text.j0 k a0 t492 t493 (⟨#[]⟩ : ByteArray))) = some r := H
 have A2 := am A20
 clear A20
 have HC3 := am H
 clear H
 go_enter Tryd.func15, Tryd.ntmps15
 go_upto_if 13 with (first | (go_at_call 13; (with_reducible refine (num_Digits.calls k a0 t492 t493 t494 _ A2.out).mono ?_); rintro e w4 ⟨rfl, hb⟩; replace HB := lb HB hb))
 repeat (go_quiet (first | (go_at_call 13; (with_reducible refine (num_Digits.calls k a0 t492 t493 t494 _ A2.out).mono ?_); rintro e w4 ⟨rfl, hb⟩; replace HB := lb HB hb)); go_upto_if 13 with (first | (go_at_call 13; (with_reducible refine (num_Digits.calls k a0 t492 t493 t494 _ A2.out).mono ?_); rintro e w4 ⟨rfl, hb⟩; replace HB := lb HB hb)))
 (try simp only [Act.put, List.setIfInBounds_toArray, List.set_cons_zero, List.set_cons_succ])
 go_cut [6] (fun v6 wc => ∃ (kq : Nat) (x6_2 : ByteArray), v6 = .string x6_2 ∧ Aside0 (num_Text.j0 kq a0 t492 t493 x6_2 = some r) ∧ Aside0 (kq ≤ k) ∧ Aside0 (Below w.heap.size w wc))
 case first =>
  have H := HC3.out
  clear HC3
  by_cases c5 : t494 = true
  ·
   subst c5
   rw [if_pos rfl] at H
   have H' := am H
   clear H
   go_wp2
   repeat (go_quiet (fail); try go_wp2)
   go_meet
   case rel => exact ⟨_, ((⟨#[45]⟩ : ByteArray)), eqd, H', ol, ⟨lk HB⟩⟩
  replace c5 := Bool.eq_false_iff.mpr c5
  subst c5
  rw [if_neg (show ¬ (false = true) by decide)] at H
  have H' := am H
  clear H
  go_wp2
  repeat (go_quiet (fail); try go_wp2)
  go_meet
  case rel => exact ⟨_, ((⟨#[]⟩ : ByteArray)), eqd, H', ol, ⟨lk HB⟩⟩
 case rest =>
  clear HC3
  obtain ⟨kq, x6_2, rfl, HA, HJ2, HB⟩ := hcut
  cases kq with
  | zero => exact absurd HA.out (by simp [num_Text.j0])
  | succ kj2 =>
   have H := HA.out
   clear HA
   simp only [num_Text.j0] at H
   replace H := bm H
   obtain ⟨t495, A60, H⟩ := H
   have A6 := am A60
   clear A60
   by_cases c7 : t495 = true
   ·
    subst c7
    rw [if_pos rfl] at H
    obtain rfl := Option.some.inj H
    go_wp2_with (first | (go_at_call 43; (with_reducible refine (math_IsNaN.calls a0 true _ A6.out).mono ?_); rintro e w' ⟨rfl, ⟨nd, rfl⟩⟩; (try first | exact ⟨rfl, _, World.drewN_drewN _ _ _⟩ | exact ⟨rfl, _, Eq.trans (World.drewN_drewN _ _ _) (congrArg (World.drewN _) (Nat.add_assoc _ _ _))⟩)))
    repeat (go_quiet (first | (go_at_call 43; (with_reducible refine (math_IsNaN.calls a0 true _ A6.out).mono ?_); rintro e w' ⟨rfl, ⟨nd, rfl⟩⟩; (try first | exact ⟨rfl, _, World.drewN_drewN _ _ _⟩ | exact ⟨rfl, _, Eq.trans (World.drewN_drewN _ _ _) (congrArg (World.drewN _) (Nat.add_assoc _ _ _))⟩))); try go_wp2_with (first | (go_at_call 43; (with_reducible refine (math_IsNaN.calls a0 true _ A6.out).mono ?_); rintro e w' ⟨rfl, ⟨nd, rfl⟩⟩; (try first | exact ⟨rfl, _, World.drewN_drewN _ _ _⟩ | exact ⟨rfl, _, Eq.trans (World.drewN_drewN _ _ _) (congrArg (World.drewN _) (Nat.add_assoc _ _ _))⟩))))
    go_ret
    exact ex (lk HB)
   replace c7 := Bool.eq_false_iff.mpr c7
   subst c7
   rw [if_neg (show ¬ (false = true) by decide)] at H
   by_cases c8 : (FloatKind.f64.format.order a0 9218868437227405311 == some Ordering.gt) = true
   ·
    rw [if_pos c8] at H
    have c8b0 : (FloatKind.f64.format.order a0 9218868437227405311 == some Ordering.gt) = true := c8
    (try (have c8b1 : decide (FloatKind.f64.format.order a0 9218868437227405311 = some Ordering.gt) = true := by simpa using c8))
    (try (have c8b2 : (FloatKind.f64.format.order a0 9218868437227405311 == some Ordering.gt) = true := by simpa using c8))
    clear c8
    obtain rfl := Option.some.inj H
    go_wp2_with (first | (go_at_call 43; (with_reducible refine (math_IsNaN.calls a0 false _ A6.out).mono ?_); rintro e w' ⟨rfl, ⟨nd, rfl⟩⟩; (try first | exact ⟨rfl, _, World.drewN_drewN _ _ _⟩ | exact ⟨rfl, _, Eq.trans (World.drewN_drewN _ _ _) (congrArg (World.drewN _) (Nat.add_assoc _ _ _))⟩)))
    repeat (go_quiet (first | (go_at_call 43; (with_reducible refine (math_IsNaN.calls a0 false _ A6.out).mono ?_); rintro e w' ⟨rfl, ⟨nd, rfl⟩⟩; (try first | exact ⟨rfl, _, World.drewN_drewN _ _ _⟩ | exact ⟨rfl, _, Eq.trans (World.drewN_drewN _ _ _) (congrArg (World.drewN _) (Nat.add_assoc _ _ _))⟩))); try go_wp2_with (first | (go_at_call 43; (with_reducible refine (math_IsNaN.calls a0 false _ A6.out).mono ?_); rintro e w' ⟨rfl, ⟨nd, rfl⟩⟩; (try first | exact ⟨rfl, _, World.drewN_drewN _ _ _⟩ | exact ⟨rfl, _, Eq.trans (World.drewN_drewN _ _ _) (congrArg (World.drewN _) (Nat.add_assoc _ _ _))⟩))))
    go_ret
    exact ex (lk HB)
   rw [if_neg c8] at H
   have c8b0 : (FloatKind.f64.format.order a0 9218868437227405311 == some Ordering.gt) = false := by simpa using c8
   (try (have c8b1 : decide (FloatKind.f64.format.order a0 9218868437227405311 = some Ordering.gt) = false := by simpa using c8))
   (try (have c8b2 : (FloatKind.f64.format.order a0 9218868437227405311 == some Ordering.gt) = false := by simpa using c8))
   (try (have c8b3 : ¬ (FloatKind.f64.format.order a0 9218868437227405311 = some Ordering.gt) := by simpa using c8))
   clear c8
   by_cases c9 : (FloatKind.f64.format.order a0 18442240474082181119 == some Ordering.lt) = true
   ·
    rw [if_pos c9] at H
    have c9b0 : (FloatKind.f64.format.order a0 18442240474082181119 == some Ordering.lt) = true := c9
    (try (have c9b1 : decide (FloatKind.f64.format.order a0 18442240474082181119 = some Ordering.lt) = true := by simpa using c9))
    (try (have c9b2 : (FloatKind.f64.format.order a0 18442240474082181119 == some Ordering.lt) = true := by simpa using c9))
    clear c9
    obtain rfl := Option.some.inj H
    go_wp2_with (first | (go_at_call 43; (with_reducible refine (math_IsNaN.calls a0 false _ A6.out).mono ?_); rintro e w' ⟨rfl, ⟨nd, rfl⟩⟩; (try first | exact ⟨rfl, _, World.drewN_drewN _ _ _⟩ | exact ⟨rfl, _, Eq.trans (World.drewN_drewN _ _ _) (congrArg (World.drewN _) (Nat.add_assoc _ _ _))⟩)))
    repeat (go_quiet (first | (go_at_call 43; (with_reducible refine (math_IsNaN.calls a0 false _ A6.out).mono ?_); rintro e w' ⟨rfl, ⟨nd, rfl⟩⟩; (try first | exact ⟨rfl, _, World.drewN_drewN _ _ _⟩ | exact ⟨rfl, _, Eq.trans (World.drewN_drewN _ _ _) (congrArg (World.drewN _) (Nat.add_assoc _ _ _))⟩))); try go_wp2_with (first | (go_at_call 43; (with_reducible refine (math_IsNaN.calls a0 false _ A6.out).mono ?_); rintro e w' ⟨rfl, ⟨nd, rfl⟩⟩; (try first | exact ⟨rfl, _, World.drewN_drewN _ _ _⟩ | exact ⟨rfl, _, Eq.trans (World.drewN_drewN _ _ _) (congrArg (World.drewN _) (Nat.add_assoc _ _ _))⟩))))
    go_ret
    exact ex (lk HB)
   rw [if_neg c9] at H
   have c9b0 : (FloatKind.f64.format.order a0 18442240474082181119 == some Ordering.lt) = false := by simpa using c9
   (try (have c9b1 : decide (FloatKind.f64.format.order a0 18442240474082181119 = some Ordering.lt) = false := by simpa using c9))
   (try (have c9b2 : (FloatKind.f64.format.order a0 18442240474082181119 == some Ordering.lt) = false := by simpa using c9))
   (try (have c9b3 : ¬ (FloatKind.f64.format.order a0 18442240474082181119 = some Ordering.lt) := by simpa using c9))
   clear c9
   by_cases c10 : (FloatKind.f64.format.order a0 0 == some Ordering.eq) = true
   ·
    rw [if_pos c10] at H
    have c10b0 : (FloatKind.f64.format.order a0 0 == some Ordering.eq) = true := c10
    (try (have c10b1 : decide (FloatKind.f64.format.order a0 0 = some Ordering.eq) = true := by simpa using c10))
    (try (have c10b2 : (FloatKind.f64.format.order a0 0 == some Ordering.eq) = true := by simpa using c10))
    clear c10
    by_cases c11 : x6_2.size + 1 ≤ 9223372036854775807
    ·
     rw [if_pos c11] at H
     have c11b0 := eq_true c11
     have c11b1 := dt c11
     obtain ⟨y496, hy496⟩ : ∃ y_ : ByteArray, y_ = (x6_2 ++ (⟨#[48]⟩ : ByteArray)) := ⟨_, rfl⟩
     replace H : (some y496) = some r := by first | (rw [hy496]; exact H) | exact H
     have Ny496 := am hy496
     clear hy496
     obtain rfl := Option.some.inj H
     go_wp2_with (first | (go_at_call 43; (with_reducible refine (math_IsNaN.calls a0 false _ A6.out).mono ?_); rintro e w' ⟨rfl, ⟨nd, rfl⟩⟩; (try first | exact ⟨rfl, _, World.drewN_drewN _ _ _⟩ | exact ⟨rfl, _, Eq.trans (World.drewN_drewN _ _ _) (congrArg (World.drewN _) (Nat.add_assoc _ _ _))⟩); obtain ⟨hcs12, hcs12'⟩ := sc Ny496))
     repeat (go_quiet (first | (go_at_call 43; (with_reducible refine (math_IsNaN.calls a0 false _ A6.out).mono ?_); rintro e w' ⟨rfl, ⟨nd, rfl⟩⟩; (try first | exact ⟨rfl, _, World.drewN_drewN _ _ _⟩ | exact ⟨rfl, _, Eq.trans (World.drewN_drewN _ _ _) (congrArg (World.drewN _) (Nat.add_assoc _ _ _))⟩); obtain ⟨hcs12, hcs12'⟩ := sc Ny496)); try go_wp2_with (first | (go_at_call 43; (with_reducible refine (math_IsNaN.calls a0 false _ A6.out).mono ?_); rintro e w' ⟨rfl, ⟨nd, rfl⟩⟩; (try first | exact ⟨rfl, _, World.drewN_drewN _ _ _⟩ | exact ⟨rfl, _, Eq.trans (World.drewN_drewN _ _ _) (congrArg (World.drewN _) (Nat.add_assoc _ _ _))⟩); obtain ⟨hcs12, hcs12'⟩ := sc Ny496)))
     go_ret
     exact ex (lk HB)
    rw [if_neg c11] at H
    exact absurd H (by simp)
   rw [if_neg c10] at H
   have c10b0 : (FloatKind.f64.format.order a0 0 == some Ordering.eq) = false := by simpa using c10
   (try (have c10b1 : decide (FloatKind.f64.format.order a0 0 = some Ordering.eq) = false := by simpa using c10))
   (try (have c10b2 : (FloatKind.f64.format.order a0 0 == some Ordering.eq) = false := by simpa using c10))
   (try (have c10b3 : ¬ (FloatKind.f64.format.order a0 0 = some Ordering.eq) := by simpa using c10))
   clear c10
   have HC13 := am H
   clear H
   go_upto_region 13 with (first | (go_at_call 43; (with_reducible refine (math_IsNaN.calls a0 false _ A6.out).mono ?_); rintro e w' ⟨rfl, ⟨nd, rfl⟩⟩; (try first | exact ⟨rfl, _, World.drewN_drewN _ _ _⟩ | exact ⟨rfl, _, Eq.trans (World.drewN_drewN _ _ _) (congrArg (World.drewN _) (Nat.add_assoc _ _ _))⟩)))
   repeat (go_quiet (first | (go_at_call 43; (with_reducible refine (math_IsNaN.calls a0 false _ A6.out).mono ?_); rintro e w' ⟨rfl, ⟨nd, rfl⟩⟩; (try first | exact ⟨rfl, _, World.drewN_drewN _ _ _⟩ | exact ⟨rfl, _, Eq.trans (World.drewN_drewN _ _ _) (congrArg (World.drewN _) (Nat.add_assoc _ _ _))⟩))); go_upto_region 13 with (first | (go_at_call 43; (with_reducible refine (math_IsNaN.calls a0 false _ A6.out).mono ?_); rintro e w' ⟨rfl, ⟨nd, rfl⟩⟩; (try first | exact ⟨rfl, _, World.drewN_drewN _ _ _⟩ | exact ⟨rfl, _, Eq.trans (World.drewN_drewN _ _ _) (congrArg (World.drewN _) (Nat.add_assoc _ _ _))⟩))))
   (try simp only [Act.put, List.setIfInBounds_toArray, List.set_cons_zero, List.set_cons_succ])
   go_cut [28] (fun v28 wc => ∃ (kq : Nat) (x28_12 : Bool), v28 = .bool x28_12 ∧ Aside0 (num_Text.j1 kq t492 t493 x6_2 x28_12 = some r) ∧ Aside0 (kq ≤ kj2) ∧ Aside0 (Below w.heap.size w wc))
   case first =>
    have H := HC13.out
    clear HC13
    by_cases c14 : t493 < (-5)
    ·
     rw [if_pos c14] at H
     have c14b0 := dt c14
     clear c14
     (first | rw [c14b0] | (simp only [i64_w, i32_w]; rw [c14b0]) | skip)
     have H' := am H
     clear H
     go_wp2
     repeat (go_quiet (fail); try go_wp2)
     go_meet
     case rel => exact ⟨_, (true), eqd, H', ⟨by have := HJ2.out; first | omega | exact Nat.le_refl _⟩, ⟨lk HB⟩⟩
    rw [if_neg c14] at H
    have c14b0 := decide_eq_false c14
    clear c14
    (first | rw [c14b0] | (simp only [i64_w, i32_w]; rw [c14b0]) | skip)
    have H' := am H
    clear H
    go_wp2
    repeat (go_quiet (fail); try go_wp2)
    go_meet
    case rel => exact ⟨_, (decide (t493 > 21)), eqd, H', ⟨by have := HJ2.out; first | omega | exact Nat.le_refl _⟩, ⟨lk HB⟩⟩
   case rest =>
    clear HC13
    obtain ⟨kq, x28_12, rfl, HA, HJ12, HB⟩ := hcut
    cases kq with
    | zero => exact absurd HA.out (by simp [num_Text.j1])
    | succ kj12 =>
     have H := HA.out
     clear HA
     simp only [num_Text.j1] at H
     by_cases c15 : x28_12 = true
     ·
      subst c15
      rw [if_pos rfl] at H
      replace H := bm H
      obtain ⟨t497, A160, H⟩ := H
      have A16 := am A160
      clear A160
      by_cases c17 : x6_2.size + t497.size ≤ 9223372036854775807
      ·
       rw [if_pos c17] at H
       have c17b0 := eq_true c17
       have c17b1 := dt c17
       obtain ⟨y498, hy498⟩ : ∃ y_ : ByteArray, y_ = (x6_2 ++ t497) := ⟨_, rfl⟩
       replace H : (some y498) = some r := by first | (rw [hy498]; exact H) | exact H
       have Ny498 := am hy498
       clear hy498
       obtain rfl := Option.some.inj H
       go_wp2_with (first | (go_at_call 61; (with_reducible refine (num_scientific.calls kj12 t492 (wrap64 (t493 - 1)) t497 _ A16.out).mono ?_); rintro e w18 ⟨rfl, hb⟩; replace HB := lb HB hb; obtain ⟨hcs19, hcs19'⟩ := sc Ny498))
       repeat (go_quiet (first | (go_at_call 61; (with_reducible refine (num_scientific.calls kj12 t492 (wrap64 (t493 - 1)) t497 _ A16.out).mono ?_); rintro e w18 ⟨rfl, hb⟩; replace HB := lb HB hb; obtain ⟨hcs19, hcs19'⟩ := sc Ny498)); try go_wp2_with (first | (go_at_call 61; (with_reducible refine (num_scientific.calls kj12 t492 (wrap64 (t493 - 1)) t497 _ A16.out).mono ?_); rintro e w18 ⟨rfl, hb⟩; replace HB := lb HB hb; obtain ⟨hcs19, hcs19'⟩ := sc Ny498)))
       go_ret
       exact ex (lk HB)
      rw [if_neg c17] at H
      exact absurd H (by simp)
     replace c15 := Bool.eq_false_iff.mpr c15
     subst c15
     rw [if_neg (show ¬ (false = true) by decide)] at H
     by_cases c20 : t493 ≤ 0
     ·
      rw [if_pos c20] at H
      have c20b0 := dt c20
      clear c20
      by_cases c21 : x6_2.size + 2 ≤ 9223372036854775807
      ·
       rw [if_pos c21] at H
       have c21b0 := eq_true c21
       have c21b1 := dt c21
       obtain ⟨y499, Ny499, H⟩ := yb H
       replace H := bm H
       obtain ⟨t500, A220, H⟩ := H
       have A22 := am A220
       clear A220
       by_cases c23 : y499.size + t500.size ≤ 9223372036854775807
       ·
        rw [if_pos c23] at H
        have c23b0 := eq_true c23
        have c23b1 := dt c23
        obtain ⟨y501, Ny501, H⟩ := yb H
        by_cases c24 : y501.size + t492.size ≤ 9223372036854775807
        ·
         rw [if_pos c24] at H
         have c24b0 := eq_true c24
         have c24b1 := dt c24
         obtain ⟨y502, hy502⟩ : ∃ y_ : ByteArray, y_ = (y501 ++ t492) := ⟨_, rfl⟩
         replace H : (some y502) = some r := by first | (rw [hy502]; exact H) | exact H
         have Ny502 := am hy502
         clear hy502
         obtain rfl := Option.some.inj H
         obtain ⟨hcs25, hcs25'⟩ := sc Ny499
         go_wp2_with (first | (go_at_call 62; (with_reducible refine (Hd.strings_Repeat.calls (⟨#[48]⟩ : ByteArray) (wrap64 (-t493)) t500 _ A22.out).mono ?_); rintro e w26 ⟨rfl, hb⟩; replace HB := lb HB hb; obtain ⟨hcs27, hcs27'⟩ := sc Ny501; obtain ⟨hcs28, hcs28'⟩ := sc Ny502))
         repeat (go_quiet (first | (go_at_call 62; (with_reducible refine (Hd.strings_Repeat.calls (⟨#[48]⟩ : ByteArray) (wrap64 (-t493)) t500 _ A22.out).mono ?_); rintro e w26 ⟨rfl, hb⟩; replace HB := lb HB hb; obtain ⟨hcs27, hcs27'⟩ := sc Ny501; obtain ⟨hcs28, hcs28'⟩ := sc Ny502)); try go_wp2_with (first | (go_at_call 62; (with_reducible refine (Hd.strings_Repeat.calls (⟨#[48]⟩ : ByteArray) (wrap64 (-t493)) t500 _ A22.out).mono ?_); rintro e w26 ⟨rfl, hb⟩; replace HB := lb HB hb; obtain ⟨hcs27, hcs27'⟩ := sc Ny501; obtain ⟨hcs28, hcs28'⟩ := sc Ny502)))
         go_ret
         exact ex (lk HB)
        rw [if_neg c24] at H
        exact absurd H (by simp)
       rw [if_neg c23] at H
       exact absurd H (by simp)
      rw [if_neg c21] at H
      exact absurd H (by simp)
     rw [if_neg c20] at H
     have c20b0 := decide_eq_false c20
     clear c20
     by_cases c29 : t493 ≥ (t492.size : Int)
     ·
      rw [if_pos c29] at H
      have c29b0 : decide ((t492.size : Int) ≤ t493) = true := dt c29
      clear c29
      by_cases c30 : x6_2.size + t492.size ≤ 9223372036854775807
      ·
       rw [if_pos c30] at H
       have c30b0 := eq_true c30
       have c30b1 := dt c30
       obtain ⟨y503, Ny503, H⟩ := yb H
       replace H := bm H
       obtain ⟨t504, A310, H⟩ := H
       have A31 := am A310
       clear A310
       by_cases c32 : y503.size + t504.size ≤ 9223372036854775807
       ·
        rw [if_pos c32] at H
        have c32b0 := eq_true c32
        have c32b1 := dt c32
        obtain ⟨y505, hy505⟩ : ∃ y_ : ByteArray, y_ = (y503 ++ t504) := ⟨_, rfl⟩
        replace H : (some y505) = some r := by first | (rw [hy505]; exact H) | exact H
        have Ny505 := am hy505
        clear hy505
        obtain rfl := Option.some.inj H
        obtain ⟨hcs33, hcs33'⟩ := sc Ny503
        go_wp2_with (first | (go_at_call 62; (with_reducible refine (Hd.strings_Repeat.calls (⟨#[48]⟩ : ByteArray) (wrap64 (t493 - (t492.size : Int))) t504 _ A31.out).mono ?_); rintro e w34 ⟨rfl, hb⟩; replace HB := lb HB hb; obtain ⟨hcs35, hcs35'⟩ := sc Ny505))
        repeat (go_quiet (first | (go_at_call 62; (with_reducible refine (Hd.strings_Repeat.calls (⟨#[48]⟩ : ByteArray) (wrap64 (t493 - (t492.size : Int))) t504 _ A31.out).mono ?_); rintro e w34 ⟨rfl, hb⟩; replace HB := lb HB hb; obtain ⟨hcs35, hcs35'⟩ := sc Ny505)); try go_wp2_with (first | (go_at_call 62; (with_reducible refine (Hd.strings_Repeat.calls (⟨#[48]⟩ : ByteArray) (wrap64 (t493 - (t492.size : Int))) t504 _ A31.out).mono ?_); rintro e w34 ⟨rfl, hb⟩; replace HB := lb HB hb; obtain ⟨hcs35, hcs35'⟩ := sc Ny505)))
        go_ret
        exact ex (lk HB)
       rw [if_neg c32] at H
       exact absurd H (by simp)
      rw [if_neg c30] at H
      exact absurd H (by simp)
     rw [if_neg c29] at H
     have c29b0 : decide ((t492.size : Int) ≤ t493) = false := decide_eq_false c29
     clear c29
     by_cases c36 : 0 ≤ t493
     ·
      rw [if_pos c36] at H
      have c36b0 := eq_true c36
      have c36b1 := dt c36
      clear c36
      by_cases c37 : t493 ≤ (t492.size : Int)
      ·
       rw [if_pos c37] at H
       have c37b0 := eq_true c37
       have c37b1 := dt c37
       clear c37
       obtain ⟨y506, Ny506, H⟩ := yb H
       by_cases c38 : x6_2.size + y506.size ≤ 9223372036854775807
       ·
        rw [if_pos c38] at H
        have c38b0 := eq_true c38
        have c38b1 := dt c38
        obtain ⟨y507, Ny507, H⟩ := yb H
        by_cases c39 : y507.size + 1 ≤ 9223372036854775807
        ·
         rw [if_pos c39] at H
         have c39b0 := eq_true c39
         have c39b1 := dt c39
         obtain ⟨y508, Ny508, H⟩ := yb H
         have c40b0 := eq_true (od : 0 ≤ t493)
         have c41b0 := eq_true (od : t493 ≤ (t492.size : Int))
         obtain ⟨y509, Ny509, H⟩ := yb H
         by_cases c42 : y508.size + y509.size ≤ 9223372036854775807
         ·
          rw [if_pos c42] at H
          have c42b0 := eq_true c42
          have c42b1 := dt c42
          obtain ⟨y510, hy510⟩ : ∃ y_ : ByteArray, y_ = (y508 ++ y509) := ⟨_, rfl⟩
          replace H : (some y510) = some r := by first | (rw [hy510]; exact H) | exact H
          have Ny510 := am hy510
          clear hy510
          obtain rfl := Option.some.inj H
          have hcs43 := Hd.str_to (P := Tryd.prog) (k := .i64) Tryd.underlying9 (j := t493) (s := t492) (y := y506) oo oo Ny506.out
          obtain ⟨hcs44, hcs44'⟩ := sc Ny507
          obtain ⟨hcs45, hcs45'⟩ := sc Ny508
          have hcs46 := Hd.str_from (P := Tryd.prog) (k := .i64) Tryd.underlying9 (i := t493) (s := t492) (y := y509) oo oo Ny509.out
          obtain ⟨hcs47, hcs47'⟩ := sc Ny510
          go_wp2
          repeat (go_quiet (fail); try go_wp2)
          go_ret
          exact ex (lk HB)
         rw [if_neg c42] at H
         exact absurd H (by simp)
        rw [if_neg c39] at H
        exact absurd H (by simp)
       rw [if_neg c38] at H
       exact absurd H (by simp)
      rw [if_neg c37] at H
      exact absurd H (by simp)
     rw [if_neg c36] at H
     exact absurd H (by simp)
def w_wakes.f (k : Nat)  : Option (Bool) := (num_Parse.f k (⟨#[50, 46, 53, 101, 45, 49]⟩ : ByteArray)).bind fun bt617 => (if bt617.2 = 0 then (if (FloatKind.f64.format.order bt617.1 4598175219545276416 == some Ordering.eq) = true then ((num_Text.f k 4591870180066957722).bind fun t619 => (if t619.toList = ([48, 46, 49] : List UInt8) then ((num_DurationText.f k 90000).bind fun t620 => (some (t620.toList == ([49, 109, 51, 48, 115] : List UInt8)))) else (some false))) else (some false)) else (some false))
theorem w_wakes.mono : ∀ k, LeO (w_wakes.f k ) (w_wakes.f (k + 1) ) := by
 intro  k
 unfold w_wakes.f
 repeat' (with_reducible first | apply num_DurationText.mono | apply num_Parse.mono | apply num_Text.mono | apply LeO.refl | apply LeO.none | apply LeO.ite | refine LeO.bind ?_ (fun _ => ?_))
set_option maxHeartbeats 8000000 in
theorem w_wakes.calls (k : Nat)  (r : Bool) (w : World) (h : w_wakes.f k  = some r) :
  Calls Tryd.prog 17 #[] w fun e w' => e = .returned (.bool r) ∧ Below w.heap.size w w' := by
 have HB := am (Below.refl w.heap.size w)
 have H : ((num_Parse.f k (⟨#[50, 46, 53, 101, 45, 49]⟩ : ByteArray)).bind fun bt617 => (if bt617.2 = 0 then (if (FloatKind.f64.format.order bt617.1 4598175219545276416 == some Ordering.eq) = true then ((num_Text.f k 4591870180066957722).bind fun t619 => (if t619.toList = ([48, 46, 49] : List UInt8) then ((num_DurationText.f k 90000).bind fun t620 => (some (t620.toList == ([49, 109, 51, 48, 115] : List UInt8)))) else (some false))) else (some false)) else (some false))) = some r := h
 clear h
 replace H := bm H
 obtain ⟨⟨t617, t618⟩, A10, H⟩ := H
 replace H : (if t618 = 0 then (if (FloatKind.f64.format.order t617 4598175219545276416 == some Ordering.eq) = true then ((num_Text.f k 4591870180066957722).bind fun t619 => (if t619.toList = ([48, 46, 49] : List UInt8) then ((num_DurationText.f k 90000).bind fun t620 => (some (t620.toList == ([49, 109, 51, 48, 115] : List UInt8)))) else (some false))) else (some false)) else (some false)) = some r := H
 have A1 := am A10
 clear A10
 by_cases c2 : t618 = 0
 ·
  rw [if_pos c2] at H
  have c2b0 : (t618 == 0) = true := beq_iff_eq.mpr c2
  have c2b1 : (t618 != 0) = false := bne_eq_false_iff_eq.mpr c2
  clear c2
  by_cases c3 : (FloatKind.f64.format.order t617 4598175219545276416 == some Ordering.eq) = true
  ·
   rw [if_pos c3] at H
   have c3b0 : (FloatKind.f64.format.order t617 4598175219545276416 == some Ordering.eq) = true := c3
   (try (have c3b1 : decide (FloatKind.f64.format.order t617 4598175219545276416 = some Ordering.eq) = true := by simpa using c3))
   (try (have c3b2 : (FloatKind.f64.format.order t617 4598175219545276416 == some Ordering.eq) = true := by simpa using c3))
   clear c3
   replace H := bm H
   obtain ⟨t619, A40, H⟩ := H
   have A4 := am A40
   clear A40
   by_cases c5 : t619.toList = ([48, 46, 49] : List UInt8)
   ·
    rw [if_pos c5] at H
    have c5b0 : (t619.toList == ([48, 46, 49] : List UInt8)) = true := beq_iff_eq.mpr c5
    have c5b1 : (t619.toList != ([48, 46, 49] : List UInt8)) = false := bne_eq_false_iff_eq.mpr c5
    clear c5
    replace H := bm H
    obtain ⟨t620, A60, H⟩ := H
    have A6 := am A60
    clear A60
    obtain rfl := Option.some.inj H
    go_enter Tryd.func17, Tryd.ntmps17
    go_wp2_with (first | (refine gL (some 4) Tryd.func18 #[.string (⟨#[50, 46, 53, 101, 45, 49]⟩ : ByteArray)] ?_; (with_reducible refine (num_Parse.calls k (⟨#[50, 46, 53, 101, 45, 49]⟩ : ByteArray) t617 t618 _ A1.out).mono ?_); rintro e w7 ⟨rfl, hb⟩; refine ⟨_, rfl, ?_⟩; replace HB := lb HB hb) | (go_at_call 15; (with_reducible refine (num_Text.calls k 4591870180066957722 t619 _ A4.out).mono ?_); rintro e w8 ⟨rfl, hb⟩; replace HB := lb HB hb) | (go_at_call 38; (with_reducible refine (num_DurationText.calls k 90000 t620 _ A6.out).mono ?_); rintro e w9 ⟨rfl, hb⟩; replace HB := lb HB hb))
    go_ret
    exact ex (lk HB)
   rw [if_neg c5] at H
   have c5b0 : (t619.toList == ([48, 46, 49] : List UInt8)) = false := beq_eq_false_iff_ne.mpr c5
   have c5b1 : (t619.toList != ([48, 46, 49] : List UInt8)) = true := bne_iff_ne.mpr c5
   obtain rfl := Option.some.inj H
   go_enter Tryd.func17, Tryd.ntmps17
   go_wp2_with (first | (refine gL (some 4) Tryd.func18 #[.string (⟨#[50, 46, 53, 101, 45, 49]⟩ : ByteArray)] ?_; (with_reducible refine (num_Parse.calls k (⟨#[50, 46, 53, 101, 45, 49]⟩ : ByteArray) t617 t618 _ A1.out).mono ?_); rintro e w10 ⟨rfl, hb⟩; refine ⟨_, rfl, ?_⟩; replace HB := lb HB hb) | (go_at_call 15; (with_reducible refine (num_Text.calls k 4591870180066957722 t619 _ A4.out).mono ?_); rintro e w11 ⟨rfl, hb⟩; replace HB := lb HB hb))
   go_ret
   exact ex (lk HB)
  rw [if_neg c3] at H
  have c3b0 : (FloatKind.f64.format.order t617 4598175219545276416 == some Ordering.eq) = false := by simpa using c3
  (try (have c3b1 : decide (FloatKind.f64.format.order t617 4598175219545276416 = some Ordering.eq) = false := by simpa using c3))
  (try (have c3b2 : (FloatKind.f64.format.order t617 4598175219545276416 == some Ordering.eq) = false := by simpa using c3))
  (try (have c3b3 : ¬ (FloatKind.f64.format.order t617 4598175219545276416 = some Ordering.eq) := by simpa using c3))
  clear c3
  obtain rfl := Option.some.inj H
  go_enter Tryd.func17, Tryd.ntmps17
  go_wp2_with (first | (refine gL (some 4) Tryd.func18 #[.string (⟨#[50, 46, 53, 101, 45, 49]⟩ : ByteArray)] ?_; (with_reducible refine (num_Parse.calls k (⟨#[50, 46, 53, 101, 45, 49]⟩ : ByteArray) t617 t618 _ A1.out).mono ?_); rintro e w12 ⟨rfl, hb⟩; refine ⟨_, rfl, ?_⟩; replace HB := lb HB hb))
  go_ret
  exact ex (lk HB)
 rw [if_neg c2] at H
 have c2b0 : (t618 == 0) = false := beq_eq_false_iff_ne.mpr c2
 have c2b1 : (t618 != 0) = true := bne_iff_ne.mpr c2
 obtain rfl := Option.some.inj H
 go_enter Tryd.func17, Tryd.ntmps17
 go_wp2_with (first | (refine gL (some 4) Tryd.func18 #[.string (⟨#[50, 46, 53, 101, 45, 49]⟩ : ByteArray)] ?_; (with_reducible refine (num_Parse.calls k (⟨#[50, 46, 53, 101, 45, 49]⟩ : ByteArray) t617 t618 _ A1.out).mono ?_); rintro e w13 ⟨rfl, hb⟩; refine ⟨_, rfl, ?_⟩; replace HB := lb HB hb))
 go_ret
 exact ex (lk HB)
def w_NumDurations.j0 : Nat → Int → Bool → Option (Bool)
 | 0, _, _ => none
 | k + 1, x0, x43 => if x43 = true then (some false) else ((q_Within.f x0 9007199254740993).bind fun t840 => ((num_DurationText.f k t840).bind fun t841 => ((num_Duration.f k t841).bind fun bt842 => (if bt842.2 = 0 then (if bt842.1 = t840 then ((w_wakes.f k).bind fun t844 => (some t844)) else (some false)) else (some false)))))
def w_NumDurations.f (k : Nat) (a0 : Int) (a1 : ByteArray) : Option (Bool) := (num_Duration.f k a1).bind fun bt832 => ((r_Duration.f k a1).bind fun bt834 => (if bt832.1 = bt834.1 then (if bt832.2 = bt834.2 then ((num_DurationText.f k a0).bind fun t836 => ((r_DurationText.f k a0).bind fun t837 => (if t836.toList = t837.toList then ((num_Seconds.f k a0).bind fun t838 => ((r_Seconds.f k a0).bind fun t839 => (w_NumDurations.j0 k a0 (t838.toList != t839.toList)))) else (w_NumDurations.j0 k a0 true)))) else (w_NumDurations.j0 k a0 true)) else (w_NumDurations.j0 k a0 true)))
theorem w_NumDurations.mono_l : ∀ k, (∀ y0 y1, LeO (w_NumDurations.j0 k y0 y1) (w_NumDurations.j0 (k + 1) y0 y1))
 | 0 => fun _ _ r h => by simp [w_NumDurations.j0] at h
 | k + 1 => by
  have ih0 := w_NumDurations.mono_l k
  ·
   intro y0 y1
   unfold w_NumDurations.j0
   repeat' (with_reducible first | apply ih0 | apply num_Duration.mono | apply num_DurationText.mono | apply num_Seconds.mono | apply w_wakes.mono | apply r_Duration.mono | apply r_DurationText.mono | apply r_Seconds.mono | apply LeO.refl | apply LeO.none | apply LeO.ite | refine LeO.bind ?_ (fun _ => ?_))
theorem w_NumDurations.mono : ∀ a0 a1 k, LeO (w_NumDurations.f k a0 a1) (w_NumDurations.f (k + 1) a0 a1) := by
 intro a0 a1 k
 have ih0 := w_NumDurations.mono_l k
 unfold w_NumDurations.f
 repeat' (with_reducible first | apply ih0 | apply num_Duration.mono | apply num_DurationText.mono | apply num_Seconds.mono | apply w_wakes.mono | apply r_Duration.mono | apply r_DurationText.mono | apply r_Seconds.mono | apply LeO.refl | apply LeO.none | apply LeO.ite | refine LeO.bind ?_ (fun _ => ?_))
set_option maxHeartbeats 8000000 in
theorem w_NumDurations.calls (k : Nat) (a0 : Int) (a1 : ByteArray) (r : Bool) (w : World) (h : w_NumDurations.f k a0 a1 = some r) :
  Calls Tryd.prog 11 #[.int .i64 a0, .string a1] w fun e w' => e = .returned (.bool r) ∧ Below w.heap.size w w' := by
 have HB := am (Below.refl w.heap.size w)
 have H : ((num_Duration.f k a1).bind fun bt832 => ((r_Duration.f k a1).bind fun bt834 => (if bt832.1 = bt834.1 then (if bt832.2 = bt834.2 then ((num_DurationText.f k a0).bind fun t836 => ((r_DurationText.f k a0).bind fun t837 => (if t836.toList = t837.toList then ((num_Seconds.f k a0).bind fun t838 => ((r_Seconds.f k a0).bind fun t839 => (w_NumDurations.j0 k a0 (t838.toList != t839.toList)))) else (w_NumDurations.j0 k a0 true)))) else (w_NumDurations.j0 k a0 true)) else (w_NumDurations.j0 k a0 true)))) = some r := h
 clear h
 replace H := bm H
 obtain ⟨⟨t832, t833⟩, A30, H⟩ := H
 replace H : ((r_Duration.f k a1).bind fun bt834 => (if t832 = bt834.1 then (if t833 = bt834.2 then ((num_DurationText.f k a0).bind fun t836 => ((r_DurationText.f k a0).bind fun t837 => (if t836.toList = t837.toList then ((num_Seconds.f k a0).bind fun t838 => ((r_Seconds.f k a0).bind fun t839 => (w_NumDurations.j0 k a0 (t838.toList != t839.toList)))) else (w_NumDurations.j0 k a0 true)))) else (w_NumDurations.j0 k a0 true)) else (w_NumDurations.j0 k a0 true))) = some r := H
 have A3 := am A30
 clear A30
 replace H := bm H
 obtain ⟨⟨t834, t835⟩, A40, H⟩ := H
 replace H : (if t832 = t834 then (if t833 = t835 then ((num_DurationText.f k a0).bind fun t836 => ((r_DurationText.f k a0).bind fun t837 => (if t836.toList = t837.toList then ((num_Seconds.f k a0).bind fun t838 => ((r_Seconds.f k a0).bind fun t839 => (w_NumDurations.j0 k a0 (t838.toList != t839.toList)))) else (w_NumDurations.j0 k a0 true)))) else (w_NumDurations.j0 k a0 true)) else (w_NumDurations.j0 k a0 true)) = some r := H
 have A4 := am A40
 clear A40
 have HC5 := am H
 clear H
 go_enter Tryd.func11, Tryd.ntmps11
 go_upto_region 3 with (first | (refine gL (some 14) Tryd.func36 #[.string a1] ?_; (with_reducible refine (num_Duration.calls k a1 t832 t833 _ A3.out).mono ?_); rintro e w6 ⟨rfl, hb⟩; refine ⟨_, rfl, ?_⟩; replace HB := lb HB hb) | (refine gL (some 19) Tryd.func37 #[.string a1] ?_; (with_reducible refine (r_Duration.calls k a1 t834 t835 _ A4.out).mono ?_); rintro e w7 ⟨rfl, hb⟩; refine ⟨_, rfl, ?_⟩; replace HB := lb HB hb))
 (try simp only [Act.put, List.setIfInBounds_toArray, List.set_cons_zero, List.set_cons_succ])
 go_cut [43] (fun v43 wc => ∃ (kq : Nat) (x43_4 : Bool), v43 = .bool x43_4 ∧ Aside0 (w_NumDurations.j0 kq a0 x43_4 = some r) ∧ Aside0 (kq ≤ k) ∧ Aside0 (Below w.heap.size w wc))
 case first =>
  have H := HC5.out
  clear HC5
  by_cases c8 : t832 = t834
  ·
   rw [if_pos c8] at H
   have c8b0 : (t832 == t834) = true := beq_iff_eq.mpr c8
   have c8b1 : (t832 != t834) = false := bne_eq_false_iff_eq.mpr c8
   clear c8
   (first | rw [c8b0] | (simp only [i64_w, i32_w]; rw [c8b0]) | skip)
   by_cases c9 : t833 = t835
   ·
    rw [if_pos c9] at H
    have c9b0 : (t833 == t835) = true := beq_iff_eq.mpr c9
    have c9b1 : (t833 != t835) = false := bne_eq_false_iff_eq.mpr c9
    clear c9
    replace H := bm H
    obtain ⟨t836, A100, H⟩ := H
    have A10 := am A100
    clear A100
    replace H := bm H
    obtain ⟨t837, A110, H⟩ := H
    have A11 := am A110
    clear A110
    by_cases c12 : t836.toList = t837.toList
    ·
     rw [if_pos c12] at H
     have c12b0 : (t836.toList == t837.toList) = true := beq_iff_eq.mpr c12
     have c12b1 : (t836.toList != t837.toList) = false := bne_eq_false_iff_eq.mpr c12
     clear c12
     replace H := bm H
     obtain ⟨t838, A130, H⟩ := H
     have A13 := am A130
     clear A130
     replace H := bm H
     obtain ⟨t839, A140, H⟩ := H
     have A14 := am A140
     clear A140
     have H' := am H
     clear H
     go_wp2_with (first | (go_at_call 38; (with_reducible refine (num_DurationText.calls k a0 t836 _ A10.out).mono ?_); rintro e w15 ⟨rfl, hb⟩; replace HB := lb HB hb) | (go_at_call 39; (with_reducible refine (r_DurationText.calls k a0 t837 _ A11.out).mono ?_); rintro e w16 ⟨rfl, hb⟩; replace HB := lb HB hb) | (go_at_call 40; (with_reducible refine (num_Seconds.calls k a0 t838 _ A13.out).mono ?_); rintro e w17 ⟨rfl, hb⟩; replace HB := lb HB hb) | (go_at_call 41; (with_reducible refine (r_Seconds.calls k a0 t839 _ A14.out).mono ?_); rintro e w18 ⟨rfl, hb⟩; replace HB := lb HB hb))
     go_meet
     case rel => exact ⟨_, ((t838.toList != t839.toList)), eqd, H', ol, ⟨lk HB⟩⟩
    rw [if_neg c12] at H
    have c12b0 : (t836.toList == t837.toList) = false := beq_eq_false_iff_ne.mpr c12
    have c12b1 : (t836.toList != t837.toList) = true := bne_iff_ne.mpr c12
    have H' := am H
    clear H
    go_wp2_with (first | (go_at_call 38; (with_reducible refine (num_DurationText.calls k a0 t836 _ A10.out).mono ?_); rintro e w19 ⟨rfl, hb⟩; replace HB := lb HB hb) | (go_at_call 39; (with_reducible refine (r_DurationText.calls k a0 t837 _ A11.out).mono ?_); rintro e w20 ⟨rfl, hb⟩; replace HB := lb HB hb))
    go_meet
    case rel => exact ⟨_, (true), eqd, H', ol, ⟨lk HB⟩⟩
   rw [if_neg c9] at H
   have c9b0 : (t833 == t835) = false := beq_eq_false_iff_ne.mpr c9
   have c9b1 : (t833 != t835) = true := bne_iff_ne.mpr c9
   have H' := am H
   clear H
   go_wp2
   go_meet
   case rel => exact ⟨_, (true), eqd, H', ol, ⟨lk HB⟩⟩
  rw [if_neg c8] at H
  have c8b0 : (t832 == t834) = false := beq_eq_false_iff_ne.mpr c8
  have c8b1 : (t832 != t834) = true := bne_iff_ne.mpr c8
  (first | rw [c8b0] | (simp only [i64_w, i32_w]; rw [c8b0]) | skip)
  have H' := am H
  clear H
  go_wp2
  go_meet
  case rel => exact ⟨_, (true), eqd, H', ol, ⟨lk HB⟩⟩
 case rest =>
  clear HC5
  obtain ⟨kq, x43_4, rfl, HA, HJ4, HB⟩ := hcut
  cases kq with
  | zero => exact absurd HA.out (by simp [w_NumDurations.j0])
  | succ kj4 =>
   have H := HA.out
   clear HA
   simp only [w_NumDurations.j0] at H
   by_cases c21 : x43_4 = true
   ·
    subst c21
    rw [if_pos rfl] at H
    obtain rfl := Option.some.inj H
    go_wp2
    go_ret
    exact ex (lk HB)
   replace c21 := Bool.eq_false_iff.mpr c21
   subst c21
   rw [if_neg (show ¬ (false = true) by decide)] at H
   replace H := bm H
   obtain ⟨t840, A220, H⟩ := H
   have A22 := am A220
   clear A220
   replace H := bm H
   obtain ⟨t841, A230, H⟩ := H
   have A23 := am A230
   clear A230
   replace H := bm H
   obtain ⟨⟨t842, t843⟩, A240, H⟩ := H
   replace H : (if t843 = 0 then (if t842 = t840 then ((w_wakes.f kj4).bind fun t844 => (some t844)) else (some false)) else (some false)) = some r := H
   have A24 := am A240
   clear A240
   by_cases c25 : t843 = 0
   ·
    rw [if_pos c25] at H
    have c25b0 : (t843 == 0) = true := beq_iff_eq.mpr c25
    have c25b1 : (t843 != 0) = false := bne_eq_false_iff_eq.mpr c25
    clear c25
    by_cases c26 : t842 = t840
    ·
     rw [if_pos c26] at H
     have c26b0 : (t842 == t840) = true := beq_iff_eq.mpr c26
     have c26b1 : (t842 != t840) = false := bne_eq_false_iff_eq.mpr c26
     clear c26
     replace H := bm H
     obtain ⟨t844, A270, H⟩ := H
     replace H : (some t844) = some r := H
     have A27 := am A270
     clear A270
     obtain rfl := Option.some.inj H
     go_wp2_with (first | (refine gL (some 45) Tryd.func21 #[.int .i64 a0, .int .i64 9007199254740993] ?_; (with_reducible refine (q_Within.calls a0 9007199254740993 t840 _ A22.out).mono ?_); rintro e w' ⟨rfl, ⟨nd, rfl⟩⟩; refine ⟨_, rfl, ?_⟩) | (refine gL (some 48) Tryd.func38 #[.int .i64 t840] ?_; (with_reducible refine (num_DurationText.calls kj4 t840 t841 _ A23.out).mono ?_); rintro e w28 ⟨rfl, hb⟩; refine ⟨_, rfl, ?_⟩; replace HB := lb HB hb) | (refine gL (some 49) Tryd.func36 #[.string t841] ?_; (with_reducible refine (num_Duration.calls kj4 t841 t842 t843 _ A24.out).mono ?_); rintro e w29 ⟨rfl, hb⟩; refine ⟨_, rfl, ?_⟩; replace HB := lb HB hb) | (go_at_call 17; (with_reducible refine (w_wakes.calls kj4  t844 _ A27.out).mono ?_); rintro e w30 ⟨rfl, hb⟩; replace HB := lb HB hb))
     go_ret
     exact ex (lk HB)
    rw [if_neg c26] at H
    have c26b0 : (t842 == t840) = false := beq_eq_false_iff_ne.mpr c26
    have c26b1 : (t842 != t840) = true := bne_iff_ne.mpr c26
    obtain rfl := Option.some.inj H
    go_wp2_with (first | (refine gL (some 45) Tryd.func21 #[.int .i64 a0, .int .i64 9007199254740993] ?_; (with_reducible refine (q_Within.calls a0 9007199254740993 t840 _ A22.out).mono ?_); rintro e w' ⟨rfl, ⟨nd, rfl⟩⟩; refine ⟨_, rfl, ?_⟩) | (refine gL (some 48) Tryd.func38 #[.int .i64 t840] ?_; (with_reducible refine (num_DurationText.calls kj4 t840 t841 _ A23.out).mono ?_); rintro e w31 ⟨rfl, hb⟩; refine ⟨_, rfl, ?_⟩; replace HB := lb HB hb) | (refine gL (some 49) Tryd.func36 #[.string t841] ?_; (with_reducible refine (num_Duration.calls kj4 t841 t842 t843 _ A24.out).mono ?_); rintro e w32 ⟨rfl, hb⟩; refine ⟨_, rfl, ?_⟩; replace HB := lb HB hb))
    go_ret
    exact ex (lk HB)
   rw [if_neg c25] at H
   have c25b0 : (t843 == 0) = false := beq_eq_false_iff_ne.mpr c25
   have c25b1 : (t843 != 0) = true := bne_iff_ne.mpr c25
   obtain rfl := Option.some.inj H
   go_wp2_with (first | (refine gL (some 45) Tryd.func21 #[.int .i64 a0, .int .i64 9007199254740993] ?_; (with_reducible refine (q_Within.calls a0 9007199254740993 t840 _ A22.out).mono ?_); rintro e w' ⟨rfl, ⟨nd, rfl⟩⟩; refine ⟨_, rfl, ?_⟩) | (refine gL (some 48) Tryd.func38 #[.int .i64 t840] ?_; (with_reducible refine (num_DurationText.calls kj4 t840 t841 _ A23.out).mono ?_); rintro e w33 ⟨rfl, hb⟩; refine ⟨_, rfl, ?_⟩; replace HB := lb HB hb) | (refine gL (some 49) Tryd.func36 #[.string t841] ?_; (with_reducible refine (num_Duration.calls kj4 t841 t842 t843 _ A24.out).mono ?_); rintro e w34 ⟨rfl, hb⟩; refine ⟨_, rfl, ?_⟩; replace HB := lb HB hb))
   go_ret
   exact ex (lk HB)
def w_NumDurations.Pure : Prop := ∀ (a0 : Int) (a1 : ByteArray), (Lit.int .i64 a0).wf = true → a1.size ≤ 140737488351232 → ∃ k, w_NumDurations.f k a0 a1 = some true
theorem w_NumDurations.walk (P : w_NumDurations.Pure) (a0 : Int) (a1 : ByteArray) (w : World) (w0 : (Lit.int .i64 a0).wf = true) (w1 : a1.size ≤ 140737488351232) :
  Calls Tryd.prog 11 #[.int .i64 a0, .string a1] w fun e w' => e = .returned (.bool true) ∧ Below w.heap.size w w' := by
 obtain ⟨k, h⟩ := P a0 a1 w0 w1
 refine (w_NumDurations.calls k a0 a1 true w h).mono ?_
 rintro e w' ⟨rfl, hd⟩
 exact ⟨rfl, hd⟩
end Go.Proofs.YtjlnfnfdibfniaaDoor.F
namespace Go.Proofs.YtjlnfnfdibfniaaDoor.Pl
open F Hd Go.RowKit Go.Proofs.YW.PWords Go.Proofs.YW.PMore
theorem w64 {n : Int} (h0 : -9223372036854775808 ≤ n) (h1 : n ≤ 9223372036854775807) : wrap64 n = n := by unfold wrap64; omega
end Go.Proofs.YtjlnfnfdibfniaaDoor.Pl
namespace Go.Proofs.YtjlnfnfdibfniaaDoor.Pl
open F Hd Go.RowKit Go.Proofs.YW.PWords Go.Proofs.YW.PMore
end Go.Proofs.YtjlnfnfdibfniaaDoor.Pl
namespace Go.Proofs.YtjlnfnfdibfniaaDoor.Pl
open Ieee
end Go.Proofs.YtjlnfnfdibfniaaDoor.Pl
namespace Go.Proofs.YtjlnfnfdibfniaaDoor.Pl
end Go.Proofs.YtjlnfnfdibfniaaDoor.Pl
namespace Go.Proofs.YtjlnfnfdibfniaaDoor.Pl
open F Hd Go.RowKit Go.Proofs.YW.PWords Go.Proofs.YW.PMore
end Go.Proofs.YtjlnfnfdibfniaaDoor.Pl
namespace Go.Proofs.YtjlnfnfdibfniaaDoor.Pl
open Hd
def isDig (c : UInt8) : Bool := decide (48 ≤ c.toNat) && decide (c.toNat ≤ 57)
def val (l : List UInt8) : Nat := l.foldl (fun v c => 10 * v + (c.toNat - 48)) 0
theorem snoc_ind {α : Type} {P : List α → Prop} (h0 : P []) (h1 : ∀ l c, P l → P (l ++ [c])) (l : List α) : P l := by
 have h : ∀ r : List α, P r.reverse := by
  intro r
  induction r with
  | nil => exact h0
  | cons a r ih => rw [List.reverse_cons]; exact h1 _ _ ih
 have := h l.reverse
 rwa [List.reverse_reverse] at this
theorem val_snoc (l : List UInt8) (c : UInt8) : val (l ++ [c]) = 10 * val l + (c.toNat - 48) := by simp [val]
theorem val_lt (l : List UInt8) (h : ∀ c ∈ l, isDig c = true) : val l < 10 ^ l.length := by
 induction l using snoc_ind with
 | h0 => simp [val]
 | h1 l c ih =>
  have h1 := ih (fun c hc => h c (List.mem_append_left _ hc))
  have h2 := h c (List.mem_append_right _ (List.mem_singleton.2 rfl))
  simp only [isDig, Bool.and_eq_true, decide_eq_true_eq] at h2
  rw [val_snoc, List.length_append, List.length_singleton, Nat.pow_succ]
  omega
theorem dig_of (n : Nat) (h : n < 10) : (UInt8.ofNat (48 + n)).toNat = 48 + n := by
 rw [UInt8.toNat_ofNat']; omega
theorem dec_spec (n : Nat) (h : n < 10 ^ 20) : val (dec n) = n ∧ (∀ c ∈ dec n, isDig c = true) ∧ dec n ≠ [] ∧ (0 < n → ∀ c r, dec n = c :: r → c.toNat ≠ 48) := by
 induction n using Nat.strongRecOn with
 | _ n ih =>
  rw [dec_step n h]
  have hd := dig_of (n % 10) (Nat.mod_lt _ (by decide))
  unfold dec0
  by_cases h0 : n / 10 = 0
  ·
   rw [if_pos h0]
   refine ⟨?_, ?_, by simp, ?_⟩
   ·
    rw [val_snoc, hd]; simp [val]; omega
   ·
    intro c hc
    rw [List.nil_append, List.mem_singleton] at hc
    subst hc
    simp only [isDig, hd, Bool.and_eq_true, decide_eq_true_eq]; omega
   ·
    intro hn c r hr
    rw [List.nil_append, List.cons.injEq] at hr
    rw [← hr.1, hd]; omega
  ·
   rw [if_neg h0]
   obtain ⟨i1, i2, i3, i4⟩ := ih (n / 10) (by omega) (by omega)
   refine ⟨?_, ?_, by simp, ?_⟩
   ·
    rw [val_snoc, hd, i1]; omega
   ·
    intro c hc
    rcases List.mem_append.1 hc with hc | hc
    ·
     exact i2 c hc
    ·
     rw [List.mem_singleton] at hc
     subst hc
     simp only [isDig, hd, Bool.and_eq_true, decide_eq_true_eq]; omega
   ·
    intro hn c r hr
    cases hq : dec (n / 10) with
    | nil => exact absurd hq i3
    | cons a b =>
     rw [hq] at hr
     rw [List.cons_append, List.cons.injEq] at hr
     rw [← hr.1]
     exact i4 (by omega) a b hq
theorem decF_short : ∀ (f n e : Nat), n < 10 ^ (e + 1) → (decF f n).length ≤ e + 1
 | 0, _, _, _ => by simp [decF]
 | f + 1, n, 0, h => by
  rw [decF, if_pos (by omega)]; simp
 | f + 1, n, e + 1, h => by
  have h1 : n / 10 < 10 ^ (e + 1) := by rw [Nat.pow_succ] at h; omega
  have := decF_short f (n / 10) e h1
  rw [decF]
  split <;> simp <;> omega
end Go.Proofs.YtjlnfnfdibfniaaDoor.Pl
namespace Go.Proofs.YtjlnfnfdibfniaaDoor.Pl
open F Hd Go.RowKit Go.Proofs.YW.PWords Go.Proofs.YW.PMore
end Go.Proofs.YtjlnfnfdibfniaaDoor.Pl
namespace Go.Proofs.YtjlnfnfdibfniaaDoor.Pl
open F Hd Go.RowKit Go.Proofs.YW.PWords Go.Proofs.YW.PMore
theorem extract_upto (s : ByteArray) (i : Nat) : (s.extract 0 i).data.toList = s.data.toList.take i := by
 rw [ByteArray.data_extract, Array.toList_extract]; simp
theorem extract_from (s : ByteArray) (a : Nat) : (s.extract a s.size).data.toList = s.data.toList.drop a := by
 rw [ByteArray.data_extract, Array.toList_extract]
 have : s.size = s.data.toList.length := by rw [Array.length_toList]; rfl
 rw [List.extract_eq_take_drop, this, List.take_of_length_le (by rw [List.length_drop]; omega)]
theorem len_data (s : ByteArray) : s.data.toList.length = s.size := by rw [Array.length_toList]; rfl
theorem bytes_ext {a b : ByteArray} (h : a.data.toList = b.data.toList) : a = b := by
 cases a; cases b; simp at h; simp [h]
theorem bt_get (s : ByteArray) (i : Nat) (h : i < s.data.toList.length) : bt s (i : Int) = (s.data.toList[i].toNat : Int) := by
 have h' : i < s.size := by rw [← len_data]; exact h
 unfold bt
 simp only [Int.toNat_natCast]
 rw [dif_pos h']
 simp [ByteArray.getElem_eq_getElem_data]
theorem digit_f (c : UInt8) : num_digit.f (c.toNat : Int) = some (isDig c) := by
 unfold num_digit.f isDig
 by_cases h : 48 ≤ c.toNat
 ·
  rw [if_pos (by omega)]
  have : decide ((c.toNat : Int) ≤ 57) = decide (c.toNat ≤ 57) := decide_eq_decide.2 (by omega)
  simp [h, this]
 ·
  rw [if_neg (by omega)]; simp [h]
theorem refdigit_f (c : UInt8) : r_digit.f (c.toNat : Int) = some (isDig c) := digit_f c
theorem run_l0 (s : ByteArray) (hs : s.size ≤ 140737488351232) : ∀ (d i : Nat), i + d = s.data.toList.length → ∀ k, d < k → num_run.l0 k s (i : Int) = some (((i + ((s.data.toList.drop i).takeWhile isDig).length : Nat)) : Int) := by
 intro d
 induction d with
 | zero =>
  intro i hi k hk
  obtain ⟨k, rfl⟩ : ∃ k', k = k' + 1 := ⟨k - 1, by omega⟩
  rw [num_run.l0, if_neg (by rw [← len_data]; omega), List.drop_of_length_le (by omega)]
  simp
 | succ d ih =>
  intro i hi k hk
  obtain ⟨k, rfl⟩ : ∃ k', k = k' + 1 := ⟨k - 1, by omega⟩
  have hl : i < s.data.toList.length := by omega
  rw [num_run.l0, if_pos (by rw [← len_data]; omega), if_pos (by omega), bt_get s i hl, digit_f, Option.bind_some, List.drop_eq_getElem_cons hl, List.takeWhile_cons]
  have hlen := len_data s
  cases hd : isDig s.data.toList[i] with
  | true =>
   have hw : wrap64 ((i : Int) + 1) = ((i + 1 : Nat) : Int) := by rw [w64 (by omega) (by omega)]; omega
   rw [if_pos rfl, if_pos rfl, hw, ih (i + 1) (by omega) k (by omega), List.length_cons]
   congr 1; omega
  | false => rw [if_neg (by decide), if_neg (by decide)]; simp
theorem run_f (s : ByteArray) (hs : s.size ≤ 140737488351232) (k : Nat) (hk : s.size < k) : num_run.f k s = some ((s.data.toList.takeWhile isDig).length : Int) := by
 unfold num_run.f
 have := run_l0 s hs s.data.toList.length 0 (by omega) k (by rw [len_data]; exact hk)
 simpa using this
theorem sub48 (c : UInt8) (h : isDig c = true) : ((c.toNat : Int) - 48) % 256 = ((c.toNat - 48 : Nat) : Int) ∧ c.toNat - 48 ≤ 9 := by
 simp only [isDig, Bool.and_eq_true, decide_eq_true_eq] at h
 omega
end Go.Proofs.YtjlnfnfdibfniaaDoor.Pl
namespace Go.Proofs.YtjlnfnfdibfniaaDoor.Pl
open F Hd Go.RowKit Go.Proofs.YW.PWords Go.Proofs.YW.PMore
end Go.Proofs.YtjlnfnfdibfniaaDoor.Pl
namespace Go.Proofs.YtjlnfnfdibfniaaDoor.Pl
open F Hd Go.RowKit Go.Proofs.YW.PWords Go.Proofs.YW.PMore
def mk (l : List UInt8) : ByteArray := ⟨l.toArray⟩
theorem mk_data (l : List UInt8) : (mk l).data.toList = l := by simp [mk]
theorem mk_self (s : ByteArray) : mk s.data.toList = s := bytes_ext (mk_data _)
theorem mk_size (l : List UInt8) : (mk l).size = l.length := by rw [← len_data, mk_data]
theorem mk_list (l : List UInt8) : (mk l).toList = l := by rw [ByteArray.toList_eq, mk_data]
theorem mk_upto (l : List UInt8) (i : Nat) : (mk l).extract 0 i = mk (l.take i) := bytes_ext (by rw [extract_upto, mk_data, mk_data])
theorem mk_from (l : List UInt8) (i : Nat) : (mk l).extract i l.length = mk (l.drop i) := bytes_ext (by rw [← mk_size l, extract_from, mk_data, mk_data])
theorem mk_part (l : List UInt8) (i j : Nat) : (mk l).extract i j = mk ((l.drop i).take (j - i)) := bytes_ext (by
 rw [ByteArray.data_extract, Array.toList_extract, List.extract_eq_take_drop, mk_data, mk_data])
theorem mk_append (a b : List UInt8) : mk a ++ mk b = mk (a ++ b) := bytes_ext (by rw [mk_data]; simp [ByteArray.data_append, mk])
theorem mk_bt (l : List UInt8) (i : Nat) (h : i < l.length) : bt (mk l) (i : Int) = (l[i].toNat : Int) := by
 rw [bt_get (mk l) i (by rw [mk_data]; exact h)]; simp [mk_data]
theorem mk_bt0 (c : UInt8) (r : List UInt8) : bt (mk (c :: r)) 0 = (c.toNat : Int) := mk_bt (c :: r) 0 (by simp)
end Go.Proofs.YtjlnfnfdibfniaaDoor.Pl
namespace Go.Proofs.YtjlnfnfdibfniaaDoor.Pl
open F Hd Go.RowKit Go.Proofs.YW.PWords Go.Proofs.YW.PMore
theorem strOfNums_one (n : Nat) : (strOfNums [(n : Int)]).data.toList = [UInt8.ofNat n] := by
 show [UInt8.ofNat ((n : Int)).toNat] = _
 rw [Int.toNat_natCast]
theorem plain_f : ∀ (k : Nat) (n : Int), n.natAbs < 10 ^ k → k ≤ 20 → -9223372036854775808 ≤ n → n ≤ 9223372036854775807 → r_plain.f (k + 1) n = some ⟨(dec n.natAbs).toArray⟩ := by
 intro k
 induction k with
 | zero =>
  intro n h _ _ _
  have : n = 0 := by omega
  subst this
  show r_plain.f 1 0 = some ⟨(dec 0).toArray⟩
  kernel_rfl
 | succ k ih =>
  intro n h hk h0 h1
  have hlt : n.natAbs < 10 ^ 20 := Nat.lt_of_lt_of_le h (Nat.pow_le_pow_right (by decide) hk)
  have hq : n.natAbs / 10 < 10 ^ k := by rw [Nat.pow_succ] at h; omega
  have hdq : (Int.tdiv n 10).natAbs = n.natAbs / 10 := by rw [Int.natAbs_tdiv]; rfl
  have hdr : -9223372036854775808 ≤ Int.tdiv n 10 ∧ Int.tdiv n 10 ≤ 9223372036854775807 := by omega
  have hm : (Int.tmod n 10).natAbs = n.natAbs % 10 := by rw [Int.natAbs_tmod]; rfl
  have hy : ∃ y : List Int, y = [((48 + n.natAbs % 10 : Nat) : Int)] := ⟨_, rfl⟩
  have hw : wrap64 (Int.tdiv n 10) = Int.tdiv n 10 := w64 hdr.1 hdr.2
  have hs := strOfNums_one (48 + n.natAbs % 10)
  have fin_ : (if wrap64 (Int.tdiv n 10) = 0 then some (strOfNums [((48 + n.natAbs % 10 : Nat) : Int)]) else (r_plain.f (k + 1) (wrap64 (Int.tdiv n 10))).bind fun t => if t.size + (strOfNums [((48 + n.natAbs % 10 : Nat) : Int)]).size ≤ 9223372036854775807 then some (t ++ strOfNums [((48 + n.natAbs % 10 : Nat) : Int)]) else none) = some ⟨(dec n.natAbs).toArray⟩ := by
   rw [hw]
   by_cases hz : Int.tdiv n 10 = 0
   ·
    rw [if_pos hz]
    have : n.natAbs / 10 = 0 := by rw [← hdq, hz]; rfl
    refine congrArg some (bytes_ext ?_)
    rw [hs, dec_step _ hlt, dec0, if_pos this]
    simp
   ·
    rw [if_neg hz, ih _ (by rw [hdq]; exact hq) (by omega) hdr.1 hdr.2, Option.bind_some, hdq]
    have h3 : ¬ n.natAbs / 10 = 0 := by rw [← hdq]; omega
    have hsz : (⟨(dec (n.natAbs / 10)).toArray⟩ : ByteArray).size + (strOfNums [((48 + n.natAbs % 10 : Nat) : Int)]).size ≤ 9223372036854775807 := by
     have e1 := dec_length (n.natAbs / 10)
     have e2 := congrArg List.length hs
     rw [len_data] at e2
     simp only [List.length_singleton] at e2
     have e3 : (⟨(dec (n.natAbs / 10)).toArray⟩ : ByteArray).size = (dec (n.natAbs / 10)).length := by rw [← len_data]
     omega
    rw [if_pos hsz]
    refine congrArg some (bytes_ext ?_)
    rw [ByteArray.data_append, Array.toList_append, hs, dec_step n.natAbs hlt, dec0, if_neg h3]
  rw [r_plain.f]
  by_cases hneg : Int.tmod n 10 < 0
  ·
   have e1 : (wrap64 (48 + wrap64 (-Int.tmod n 10))) % 256 = ((48 + n.natAbs % 10 : Nat) : Int) := by
    rw [w64 (n := -Int.tmod n 10) (by omega) (by omega), w64 (by omega) (by omega)]; omega
   rw [if_pos hneg, e1]
   exact fin_
  ·
   have e1 : (wrap64 (48 + Int.tmod n 10)) % 256 = ((48 + n.natAbs % 10 : Nat) : Int) := by
    rw [w64 (by omega) (by omega)]; omega
   rw [if_neg hneg, e1]
   exact fin_
end Go.Proofs.YtjlnfnfdibfniaaDoor.Pl
namespace Go.Proofs.YtjlnfnfdibfniaaDoor.Pl
open F Hd Go.RowKit Go.Proofs.YW.PWords Go.Proofs.YW.PMore
end Go.Proofs.YtjlnfnfdibfniaaDoor.Pl
namespace Go.Proofs.YtjlnfnfdibfniaaDoor.Pl
end Go.Proofs.YtjlnfnfdibfniaaDoor.Pl
namespace Go.Proofs.YtjlnfnfdibfniaaDoor.Pl
open Go.RowKit
end Go.Proofs.YtjlnfnfdibfniaaDoor.Pl
namespace Go.Proofs.YtjlnfnfdibfniaaDoor.Pl
end Go.Proofs.YtjlnfnfdibfniaaDoor.Pl
namespace Go.Proofs.YtjlnfnfdibfniaaDoor.Pl
open F Hd Go.RowKit Go.Proofs.YW.PWords Go.Proofs.YW.PMore
end Go.Proofs.YtjlnfnfdibfniaaDoor.Pl
namespace Go.Proofs.YtjlnfnfdibfniaaDoor.Pl
open F Hd Go.RowKit Go.Proofs.YW.PWords Go.Proofs.YW.PMore
theorem wr64 (n : Int) (h0 : 0 ≤ n) (h1 : n < 2 ^ 64) : IntKind.u64.wrap n = n := by rw [IntKind.wrap_u64]; omega
end Go.Proofs.YtjlnfnfdibfniaaDoor.Pl
namespace Go.Proofs.YtjlnfnfdibfniaaDoor.Pl
open F Hd Go.RowKit Go.Proofs.YW.PWords Go.Proofs.YW.PMore
end Go.Proofs.YtjlnfnfdibfniaaDoor.Pl
namespace Go.Proofs.YtjlnfnfdibfniaaDoor.Pl
open F Hd Go.RowKit Go.Proofs.YW.PWords Go.Proofs.YW.PMore
def sgnText (neg : Bool) : List UInt8 := if neg = true then [45] else []
end Go.Proofs.YtjlnfnfdibfniaaDoor.Pl
namespace Go.Proofs.YtjlnfnfdibfniaaDoor.Pl
open F Hd Go.RowKit Go.Proofs.YW.PWords Go.Proofs.YW.PMore
theorem runs_of_mono {α : Type} {g : Nat → Option α} (hm : ∀ k, LeO (g k) (g (k + 1))) {k : Nat} {r : α} (h : g k = some r) : Runs g r := by
 refine ⟨k, fun j hj => ?_⟩
 obtain ⟨d, rfl⟩ : ∃ d, j = k + d := ⟨j - k, by omega⟩
 clear hj
 induction d with
 | zero => exact h
 | succ d ih => exact hm _ _ ih
theorem plain_int (n : Int) (h0 : -9223372036854775808 ≤ n) (h1 : n ≤ 9223372036854775807) : Runs (fun k => r_plain.f k n) (mk (dec n.natAbs)) := by
 have e : (10 : Nat) ^ 20 = 100000000000000000000 := by decide
 exact runs_of_mono (fun k => r_plain.mono n k) (plain_f 20 n (by omega) (by decide) h0 h1)
def us : List (List UInt8 × Nat) := [([121], 31536000000), ([119], 604800000), ([100], 86400000), ([104], 3600000), ([109], 60000), ([115], 1000), ([109, 115], 1)]
def durText : List (List UInt8 × Nat) → Nat → List UInt8
 | [], _ => []
 | u :: r, n => (if 0 < n / u.2 then dec (n / u.2) ++ u.1 else []) ++ durText r (n % u.2)
theorem int_dec (n : Nat) (h : n ≤ 9223372036854775807) : num_IntText.f (n : Int) = some (mk (dec n)) := by
 unfold num_IntText.f
 rw [if_pos (by omega)]
 show some (intText (n : Int)) = _
 unfold intText
 rw [if_neg (by omega), Int.toNat_natCast]; rfl
theorem tdiv_nat (n m : Nat) : Int.tdiv (n : Int) (m : Int) = ((n / m : Nat) : Int) := by rw [Int.tdiv_eq_ediv_of_nonneg (by omega)]; exact (Int.natCast_ediv n m).symm
theorem tmod_nat (n m : Nat) : Int.tmod (n : Int) (m : Int) = ((n % m : Nat) : Int) := by rw [Int.tmod_eq_emod_of_nonneg (by omega)]; exact (Int.natCast_emod n m).symm
theorem nd_step (UL : List S98) (i n ms : Nat) (nm acc rest : List UInt8) (hUL : UL.length = 7) (hi : i < 7) (hu : rd_T98 UL (i : Int) = ⟨mk nm, (ms : Int)⟩) (hms : 1 ≤ ms) (hms2 : ms ≤ 100000000000) (_hn : n ≤ 9223372036854775808) (hq : n / ms ≤ 100000000000) (hacc : acc.length ≤ 1000) (hnm : nm.length ≤ 10)
  (h : Runs (fun k => num_DurationText.l0 k ((n % ms : Nat) : Int) (mk (acc ++ (if 0 < n / ms then dec (n / ms) ++ nm else []))) UL 7 ((i + 1 : Nat) : Int)) (mk rest)) :
  Runs (fun k => num_DurationText.l0 k (n : Int) (mk acc) UL 7 (i : Int)) (mk rest) := by
 have hd := dec_length (n / ms)
 have g1 : ∀ a b : List UInt8, mk a ++ mk b = mk (a ++ b) := mk_append
 have hlt : n % ms < ms := Nat.mod_lt _ (by omega)
 refine Runs.suc ?_
 simp only [num_DurationText.l0]
 rw [hu, hUL]
 simp only
 have hz : ¬ 0 < n / ms → n % ms = n := fun c => Nat.mod_eq_of_lt (by
  rcases Nat.lt_or_ge n ms with c2 | c2
  ·
   exact c2
  ·
   exact absurd (Nat.div_pos c2 (by omega)) c)
 rw [wr64 (ms : Int) (by omega) (by omega), tdiv_nat, tmod_nat]
 generalize n / ms = q at *
 generalize n % ms = rr at *
 rw [wr64 (q : Int) (by omega) (by omega), w64 (n := (q : Int)) (by omega) (by omega), int_dec _ (by omega), w64 (n := (i : Int) + 1) (by omega) (by omega)]
 rw [show ((i + 1 : Nat) : Int) = (i : Int) + 1 by omega] at h
 refine Runs.yes (by omega) (Runs.yes (by omega) (Runs.yes (by omega) (Runs.no (by omega) ?_)))
 by_cases c : 0 < q
 ·
  rw [if_pos c] at h
  refine Runs.yes (by omega) (Runs.bind (Runs.pure _) ?_)
  rw [mk_size, mk_size]
  refine Runs.yes (by omega) (Runs.bind (Runs.pure _) ?_)
  rw [g1, mk_size, mk_size]
  refine Runs.yes (by rw [List.length_append]; omega) ?_
  rw [g1]
  exact h
 ·
  rw [if_neg c, List.append_nil] at h
  refine Runs.no (by omega) ?_
  rw [hz c] at h
  exact h
def UL : List S98 := [⟨⟨#[121]⟩, 31536000000⟩, ⟨⟨#[119]⟩, 604800000⟩, ⟨⟨#[100]⟩, 86400000⟩, ⟨⟨#[104]⟩, 3600000⟩, ⟨⟨#[109]⟩, 60000⟩, ⟨⟨#[115]⟩, 1000⟩, ⟨⟨#[109, 115]⟩, 1⟩]
theorem dt_len (u : List UInt8) (q : Nat) (hu : u.length ≤ 10) : (if 0 < q then dec q ++ u else []).length ≤ 30 := by
 have := dec_length q
 split
 ·
  rw [List.length_append]; omega
 ·
  simp
theorem nd_loop (n : Nat) (acc : List UInt8) (hn : n ≤ 9223372036854775808) (hacc : acc.length ≤ 10) : Runs (fun k => num_DurationText.l0 k (n : Int) (mk acc) UL 7 0) (mk (acc ++ durText us n)) := by
 unfold us
 simp only [durText]
 have m1 := Nat.mod_lt n (show 0 < 31536000000 by decide)
 have l1 := dt_len [121] (n / 31536000000) (by decide)
 have d1 : n / 31536000000 ≤ 100000000000 := by omega
 refine nd_step UL 0 n 31536000000 [121] acc _ rfl (by decide) rfl (by decide) (by decide) hn d1 (by omega) (by decide) ?_
 generalize (if 0 < n / 31536000000 then dec (n / 31536000000) ++ [121] else []) = t1 at *
 generalize n % 31536000000 = n1 at *
 have m2 := Nat.mod_lt n1 (show 0 < 604800000 by decide)
 have l2 := dt_len [119] (n1 / 604800000) (by decide)
 refine nd_step UL 1 n1 604800000 [119] (acc ++ t1) _ rfl (by decide) rfl (by decide) (by decide) (by omega) (by omega) (by rw [List.length_append]; omega) (by decide) ?_
 generalize (if 0 < n1 / 604800000 then dec (n1 / 604800000) ++ [119] else []) = t2 at *
 generalize n1 % 604800000 = n2 at *
 have m3 := Nat.mod_lt n2 (show 0 < 86400000 by decide)
 have l3 := dt_len [100] (n2 / 86400000) (by decide)
 refine nd_step UL 2 n2 86400000 [100] (acc ++ t1 ++ t2) _ rfl (by decide) rfl (by decide) (by decide) (by omega) (by omega) (by rw [List.length_append, List.length_append]; omega) (by decide) ?_
 generalize (if 0 < n2 / 86400000 then dec (n2 / 86400000) ++ [100] else []) = t3 at *
 generalize n2 % 86400000 = n3 at *
 have m4 := Nat.mod_lt n3 (show 0 < 3600000 by decide)
 have l4 := dt_len [104] (n3 / 3600000) (by decide)
 refine nd_step UL 3 n3 3600000 [104] (acc ++ t1 ++ t2 ++ t3) _ rfl (by decide) rfl (by decide) (by decide) (by omega) (by omega) (by rw [List.length_append, List.length_append, List.length_append]; omega) (by decide) ?_
 generalize (if 0 < n3 / 3600000 then dec (n3 / 3600000) ++ [104] else []) = t4 at *
 generalize n3 % 3600000 = n4 at *
 have m5 := Nat.mod_lt n4 (show 0 < 60000 by decide)
 have l5 := dt_len [109] (n4 / 60000) (by decide)
 refine nd_step UL 4 n4 60000 [109] (acc ++ t1 ++ t2 ++ t3 ++ t4) _ rfl (by decide) rfl (by decide) (by decide) (by omega) (by omega) (by simp only [List.length_append]; omega) (by decide) ?_
 generalize (if 0 < n4 / 60000 then dec (n4 / 60000) ++ [109] else []) = t5 at *
 generalize n4 % 60000 = n5 at *
 have m6 := Nat.mod_lt n5 (show 0 < 1000 by decide)
 have l6 := dt_len [115] (n5 / 1000) (by decide)
 refine nd_step UL 5 n5 1000 [115] (acc ++ t1 ++ t2 ++ t3 ++ t4 ++ t5) _ rfl (by decide) rfl (by decide) (by decide) (by omega) (by omega) (by simp only [List.length_append]; omega) (by decide) ?_
 generalize (if 0 < n5 / 1000 then dec (n5 / 1000) ++ [115] else []) = t6 at *
 generalize n5 % 1000 = n6 at *
 refine nd_step UL 6 n6 1 [109, 115] (acc ++ t1 ++ t2 ++ t3 ++ t4 ++ t5 ++ t6) _ rfl (by decide) rfl (by decide) (by decide) (by omega) (by omega) (by simp only [List.length_append]; omega) (by decide) ?_
 refine Runs.suc ?_
 simp only [num_DurationText.l0]
 refine Runs.no (by decide) ((Runs.pure _).of (congrArg mk ?_))
 simp only [List.append_assoc, List.append_nil]
theorem rd_step (s : Int) (hs : s = 1 ∨ s = -1) (i n ms : Nat) (nm acc rest : List UInt8) (hi : i < 7) (hu : unitN (i : Int) = some (mk nm, (ms : Int))) (hms : 1 ≤ ms) (hms2 : ms ≤ 100000000000) (_hn : n ≤ 9223372036854775808) (hq : n / ms ≤ 100000000000) (hacc : acc.length ≤ 1000) (hnm : nm.length ≤ 10)
  (h : Runs (fun k => r_DurationText.l0 k (s * ((n % ms : Nat) : Int)) (mk (acc ++ (if 0 < n / ms then dec (n / ms) ++ nm else []))) s ((i + 1 : Nat) : Int)) (mk rest)) :
  Runs (fun k => r_DurationText.l0 k (s * (n : Int)) (mk acc) s (i : Int)) (mk rest) := by
 have hd := dec_length (n / ms)
 have g1 : ∀ a b : List UInt8, mk a ++ mk b = mk (a ++ b) := mk_append
 have e1 : Int.tdiv (s * (n : Int)) (ms : Int) = s * ((n / ms : Nat) : Int) := by
  rcases hs with rfl | rfl
  ·
   rw [Int.one_mul, Int.one_mul, tdiv_nat]
  ·
   rw [Int.neg_mul, Int.one_mul, Int.neg_tdiv, tdiv_nat, Int.neg_mul, Int.one_mul]
 have e2 : Int.tmod (s * (n : Int)) (ms : Int) = s * ((n % ms : Nat) : Int) := by
  rcases hs with rfl | rfl
  ·
   rw [Int.one_mul, Int.one_mul, tmod_nat]
  ·
   rw [Int.neg_mul, Int.one_mul, Int.neg_tmod, tmod_nat, Int.neg_mul, Int.one_mul]
 generalize n / ms = q at *
 generalize n % ms = rr at *
 have e3 : s * (q : Int) * s = (q : Int) := by
  rcases hs with rfl | rfl <;> omega
 have hw : wrap64 (s * (q : Int)) = s * (q : Int) := by
  rcases hs with rfl | rfl
  ·
   exact w64 (by omega) (by omega)
  ·
   exact w64 (by omega) (by omega)
 have hpl := plain_int (q : Int) (by omega) (by omega)
 rw [Int.natAbs_natCast] at hpl
 refine Runs.suc ?_
 simp only [r_DurationText.l0]
 have hu2 : Hd.r_unit.f (i : Int) = some (mk nm, (ms : Int)) := hu
 rw [hu2]
 refine Runs.yes (by omega) (Runs.bind (Runs.pure _) ?_)
 simp only
 rw [e1, e2, hw, e3, w64 (n := (q : Int)) (by omega) (by omega), w64 (n := (i : Int) + 1) (by omega) (by omega)]
 rw [show ((i + 1 : Nat) : Int) = (i : Int) + 1 by omega] at h
 refine Runs.no (by omega) ?_
 by_cases c : 0 < q
 ·
  rw [if_pos c] at h
  refine Runs.no (by omega) (Runs.bind hpl ?_)
  rw [mk_size, mk_size, mk_size]
  refine Runs.yes (by omega) (Runs.bind (Runs.pure _) ?_)
  rw [g1, mk_size, g1]
  rw [← List.append_assoc] at h
  exact Runs.yes (by rw [List.length_append]; omega) h
 ·
  rw [if_neg c, List.append_nil] at h
  exact Runs.yes (by omega) h
theorem rd_loop (s : Int) (hs : s = 1 ∨ s = -1) (n : Nat) (acc : List UInt8) (hn : n ≤ 9223372036854775808) (hacc : acc.length ≤ 10) : Runs (fun k => r_DurationText.l0 k (s * (n : Int)) (mk acc) s 0) (mk (acc ++ durText us n)) := by
 unfold us
 simp only [durText]
 have m1 := Nat.mod_lt n (show 0 < 31536000000 by decide)
 have l1 := dt_len [121] (n / 31536000000) (by decide)
 have d1 : n / 31536000000 ≤ 100000000000 := by omega
 refine rd_step s hs 0 n 31536000000 [121] acc _ (by decide) rfl (by decide) (by decide) hn d1 (by omega) (by decide) ?_
 generalize (if 0 < n / 31536000000 then dec (n / 31536000000) ++ [121] else []) = t1 at *
 generalize n % 31536000000 = n1 at *
 have m2 := Nat.mod_lt n1 (show 0 < 604800000 by decide)
 have l2 := dt_len [119] (n1 / 604800000) (by decide)
 refine rd_step s hs 1 n1 604800000 [119] (acc ++ t1) _ (by decide) rfl (by decide) (by decide) (by omega) (by omega) (by rw [List.length_append]; omega) (by decide) ?_
 generalize (if 0 < n1 / 604800000 then dec (n1 / 604800000) ++ [119] else []) = t2 at *
 generalize n1 % 604800000 = n2 at *
 have m3 := Nat.mod_lt n2 (show 0 < 86400000 by decide)
 have l3 := dt_len [100] (n2 / 86400000) (by decide)
 refine rd_step s hs 2 n2 86400000 [100] (acc ++ t1 ++ t2) _ (by decide) rfl (by decide) (by decide) (by omega) (by omega) (by rw [List.length_append, List.length_append]; omega) (by decide) ?_
 generalize (if 0 < n2 / 86400000 then dec (n2 / 86400000) ++ [100] else []) = t3 at *
 generalize n2 % 86400000 = n3 at *
 have m4 := Nat.mod_lt n3 (show 0 < 3600000 by decide)
 have l4 := dt_len [104] (n3 / 3600000) (by decide)
 refine rd_step s hs 3 n3 3600000 [104] (acc ++ t1 ++ t2 ++ t3) _ (by decide) rfl (by decide) (by decide) (by omega) (by omega) (by rw [List.length_append, List.length_append, List.length_append]; omega) (by decide) ?_
 generalize (if 0 < n3 / 3600000 then dec (n3 / 3600000) ++ [104] else []) = t4 at *
 generalize n3 % 3600000 = n4 at *
 have m5 := Nat.mod_lt n4 (show 0 < 60000 by decide)
 have l5 := dt_len [109] (n4 / 60000) (by decide)
 refine rd_step s hs 4 n4 60000 [109] (acc ++ t1 ++ t2 ++ t3 ++ t4) _ (by decide) rfl (by decide) (by decide) (by omega) (by omega) (by simp only [List.length_append]; omega) (by decide) ?_
 generalize (if 0 < n4 / 60000 then dec (n4 / 60000) ++ [109] else []) = t5 at *
 generalize n4 % 60000 = n5 at *
 have m6 := Nat.mod_lt n5 (show 0 < 1000 by decide)
 have l6 := dt_len [115] (n5 / 1000) (by decide)
 refine rd_step s hs 5 n5 1000 [115] (acc ++ t1 ++ t2 ++ t3 ++ t4 ++ t5) _ (by decide) rfl (by decide) (by decide) (by omega) (by omega) (by simp only [List.length_append]; omega) (by decide) ?_
 generalize (if 0 < n5 / 1000 then dec (n5 / 1000) ++ [115] else []) = t6 at *
 generalize n5 % 1000 = n6 at *
 refine rd_step s hs 6 n6 1 [109, 115] (acc ++ t1 ++ t2 ++ t3 ++ t4 ++ t5 ++ t6) _ (by decide) rfl (by decide) (by decide) (by omega) (by omega) (by simp only [List.length_append]; omega) (by decide) ?_
 refine Runs.suc ?_
 simp only [r_DurationText.l0]
 refine Runs.no (by decide) ((Runs.pure _).of (congrArg mk ?_))
 simp only [List.append_assoc, List.append_nil]
def durOf (n : Int) : List UInt8 := if n = 0 then [48, 115] else sgnText (decide (n < 0)) ++ durText us n.natAbs
theorem abs_u (n : Int) (h0 : -9223372036854775808 ≤ n) (h : n < 0) : IntKind.u64.wrap (-(IntKind.u64.wrap n)) = (n.natAbs : Int) := by
 rw [IntKind.wrap_u64, IntKind.wrap_u64]; omega
theorem dtext_num (n : Int) (h0 : -9223372036854775808 ≤ n) (h1 : n ≤ 9223372036854775807) : Runs (fun k => num_DurationText.f k n) (mk (durOf n)) := by
 unfold durOf
 simp only [num_DurationText.f]
 have j0 : ∀ (m : Nat) (acc : List UInt8), m ≤ 9223372036854775808 → acc.length ≤ 10 → Runs (fun k => num_DurationText.j0 k (m : Int) (mk acc)) (mk (acc ++ durText us m)) := by
  intro m acc hm ha
  refine Runs.suc ?_
  simp only [num_DurationText.j0]
  exact Runs.bind (a := UL) (Runs.pure _) (nd_loop m acc hm ha)
 by_cases c : n = 0
 ·
  rw [if_pos c]
  exact Runs.yes c (Runs.pure _)
 ·
  rw [if_neg c]
  refine Runs.no c ?_
  by_cases c2 : n < 0
  ·
   rw [abs_u n h0 c2, decide_eq_true c2]
   exact Runs.yes c2 (j0 n.natAbs [45] (by omega) (by decide))
  ·
   rw [wr64 n (by omega) (by omega), decide_eq_false c2, show n = (n.natAbs : Int) by omega, Int.natAbs_natCast]
   exact Runs.no (by omega) (j0 n.natAbs [] (by omega) (by decide))
theorem dtext_ref (n : Int) (h0 : -9223372036854775808 ≤ n) (h1 : n ≤ 9223372036854775807) : Runs (fun k => r_DurationText.f k n) (mk (durOf n)) := by
 unfold durOf
 simp only [r_DurationText.f]
 have j0 : ∀ (s : Int) (m : Nat) (acc : List UInt8), (s = 1 ∨ s = -1) → m ≤ 9223372036854775808 → acc.length ≤ 10 → Runs (fun k => r_DurationText.j0 k (s * (m : Int)) (mk acc) s) (mk (acc ++ durText us m)) := by
  intro s m acc hs hm ha
  refine Runs.suc ?_
  simp only [r_DurationText.j0]
  exact rd_loop s hs m acc hm ha
 by_cases c : n = 0
 ·
  rw [if_pos c]
  exact Runs.yes c (Runs.pure _)
 ·
  rw [if_neg c]
  refine Runs.no c ?_
  by_cases c2 : n < 0
  ·
   rw [decide_eq_true c2]
   have e : n = -1 * (n.natAbs : Int) := by omega
   have := j0 (-1) n.natAbs [45] (.inr rfl) (by omega) (by decide)
   rw [← e] at this
   exact Runs.yes c2 this
  ·
   rw [decide_eq_false c2]
   have e : n = 1 * (n.natAbs : Int) := by omega
   have := j0 1 n.natAbs [] (.inl rfl) (by omega) (by decide)
   rw [← e] at this
   exact Runs.no (by omega) this
end Go.Proofs.YtjlnfnfdibfniaaDoor.Pl
namespace Go.Proofs.YtjlnfnfdibfniaaDoor.Pl
open F Hd Go.RowKit Go.Proofs.YW.PWords Go.Proofs.YW.PMore
end Go.Proofs.YtjlnfnfdibfniaaDoor.Pl
namespace Go.Proofs.YtjlnfnfdibfniaaDoor.Pl
open F Hd Go.RowKit Go.Proofs.YW.PWords Go.Proofs.YW.PMore
def durS : Nat → List UInt8 → List (List UInt8 × Nat) → Nat → Bool → Int × Int
 | 0, _, _, _, _ => (0, 8)
 | f + 1, t, left, sum, large =>
  if (t.takeWhile isDig).length < 1 ∨ 15 < (t.takeWhile isDig).length then (0, 8)
  else match left.dropWhile (fun u => u.1 != (t.drop (t.takeWhile isDig).length).takeWhile isAz) with
   | [] => (0, 8)
   | u :: left' =>
    if (t.drop (t.takeWhile isDig).length).drop ((t.drop (t.takeWhile isDig).length).takeWhile isAz).length = [] then
     (if (large || decide (9007199254740992 < sum + val (t.takeWhile isDig) * u.2)) = true then (0, 9) else (((sum + val (t.takeWhile isDig) * u.2 : Nat) : Int), 0))
    else durS f ((t.drop (t.takeWhile isDig).length).drop ((t.drop (t.takeWhile isDig).length).takeWhile isAz).length) left'
     (if (large || decide (9007199254740992 < sum + val (t.takeWhile isDig) * u.2)) = true then sum else sum + val (t.takeWhile isDig) * u.2) (large || decide (9007199254740992 < sum + val (t.takeWhile isDig) * u.2))
theorem tw_take {p : UInt8 → Bool} (l : List UInt8) : l.take (l.takeWhile p).length = l.takeWhile p := by
 induction l with
 | nil => rfl
 | cons c r ih =>
  rw [List.takeWhile_cons]
  split
  ·
   rw [List.length_cons, List.take_succ_cons, ih]
  ·
   rfl
theorem tw_le {p : UInt8 → Bool} (l : List UInt8) : (l.takeWhile p).length ≤ l.length := by
 induction l with
 | nil => exact Nat.le_refl _
 | cons c r ih =>
  rw [List.takeWhile_cons]
  split
  ·
   rw [List.length_cons, List.length_cons]; omega
  ·
   rw [List.length_nil]; omega
theorem tw_at {p : UInt8 → Bool} : ∀ (l : List UInt8) (i : Nat) (h : i < l.length), (i < (l.takeWhile p).length → p l[i] = true) ∧ (i = (l.takeWhile p).length → p l[i] = false)
 | [], i, h => by simp at h
 | c :: r, 0, _ => by
  rw [List.takeWhile_cons, List.getElem_cons_zero]
  split
  ·
   rename_i g; exact ⟨fun _ => g, fun h => by rw [List.length_cons] at h; omega⟩
  ·
   rename_i g; exact ⟨fun h => by simp at h, fun _ => by simpa using g⟩
 | c :: r, i + 1, h => by
  rw [List.takeWhile_cons, List.getElem_cons_succ]
  obtain ⟨g1, g2⟩ := tw_at (p := p) r i (by simpa using h)
  split
  ·
   rw [List.length_cons]
   exact ⟨fun h => g1 (by omega), fun h => g2 (by omega)⟩
  ·
   exact ⟨fun h => by simp at h, fun h => by simp at h⟩
theorem az_idx (r : List UInt8) : azIdx (mk (r ++ [48])) = ((r.takeWhile isAz).length : Int) := by
 have h : (r ++ [48]).takeWhile isAz = r.takeWhile isAz := by
  induction r with
  | nil => rfl
  | cons c r ih =>
   rw [List.cons_append, List.takeWhile_cons, List.takeWhile_cons, ih]
 have hle := tw_le (p := isAz) r
 unfold azIdx azRun
 rw [mk_data, h, mk_size, List.length_append, List.length_singleton, if_pos (by omega)]
def toS (u : List UInt8 × Nat) : S98 := ⟨mk u.1, (u.2 : Int)⟩
theorem rd_toS (l : List (List UInt8 × Nat)) (i : Nat) (u : List UInt8 × Nat) (l' : List (List UInt8 × Nat)) (h : l.drop i = u :: l') : rd_T98 (l.map toS) (i : Int) = toS u := by
 have hi : l[i]? = some u := by
  have := congrArg (fun z => z[0]?) h
  simpa using this
 show (l.map toS).getD (i : Int).toNat z98 = toS u
 rw [Int.toNat_natCast, List.getD_eq_getElem?_getD, List.getElem?_map, hi]
 rfl
def Small (l : List (List UInt8 × Nat)) : Prop := ∀ u ∈ l, 1 ≤ u.2 ∧ u.2 ≤ 31536000000
theorem dropWhile_suffix {q : (List UInt8 × Nat) → Bool} (l l' : List (List UInt8 × Nat)) (u : List UInt8 × Nat) (h : l.dropWhile q = u :: l') : (∀ x ∈ l', x ∈ l) ∧ u ∈ l ∧ l'.length < l.length := by
 induction l with
 | nil => cases h
 | cons a r ih =>
  rw [List.dropWhile_cons] at h
  split at h
  ·
   obtain ⟨h1, h2, h3⟩ := ih h
   exact ⟨fun x hx => List.mem_cons_of_mem _ (h1 x hx), List.mem_cons_of_mem _ h2, by rw [List.length_cons]; omega⟩
  ·
   injection h with e1 e2
   subst e1 e2
   exact ⟨fun x hx => List.mem_cons_of_mem _ hx, List.mem_cons_self .., by rw [List.length_cons]; omega⟩
theorem nd_match (x4 sum v : Nat) (large : Bool) (t' nm : List UInt8) (left l' : List (List UInt8 × Nat)) (u : List UInt8 × Nat) (i : Nat) (R : Int × Int) (hdrop : left.drop i = u :: l') (hun : u.1 = nm) (hu : 1 ≤ u.2 ∧ u.2 ≤ 31536000000) (hlen : left.length ≤ 100) (_hv : v < 1000000000000000)
  (hsum : large = false → x4 = sum) (hs : sum ≤ 9007199254740992)
  (h : ∀ y4 : Nat, ((large || decide (9007199254740992 < sum + v * u.2)) = false → y4 = sum + v * u.2) → Runs (fun k => num_Duration.l0 k (mk t') (y4 : Int) (large || decide (9007199254740992 < sum + v * u.2)) (l'.map toS) false) R) :
  Runs (fun k => num_Duration.l2 k (mk t') (x4 : Int) large (left.map toS) (v : Int) (mk nm) (left.map toS) (left.length : Int) (i : Int)) R := by
 have hi : i < left.length := by
  rcases Nat.lt_or_ge i left.length with c | c
  ·
   exact c
  ·
   rw [List.drop_eq_nil_of_le c] at hdrop; cases hdrop
 have hl' : l' = left.drop (i + 1) := by
  have := congrArg List.tail hdrop
  rw [List.tail_drop, List.tail_cons] at this
  exact this.symm
 have hrd := rd_toS left i u l' hdrop
 have hms : Int.tdiv 9007199254740992 (u.2 : Int) = ((9007199254740992 / u.2 : Nat) : Int) := tdiv_nat 9007199254740992 u.2
 have hdv : (9007199254740992 : Int) / (u.2 : Int) = ((9007199254740992 / u.2 : Nat) : Int) := by rw [← hms, Int.tdiv_eq_ediv_of_nonneg (by decide)]
 have hq : 9007199254740992 / u.2 ≤ 9007199254740992 := Nat.div_le_self ..
 have hiff : 9007199254740992 / u.2 < v ↔ 9007199254740992 < v * u.2 := Nat.div_lt_iff_lt_mul (by omega)
 have hle : ¬ 9007199254740992 / u.2 < v → v * u.2 ≤ 9007199254740992 := fun c => by
  rcases Nat.lt_or_ge 9007199254740992 (v * u.2) with g | g
  ·
   exact absurd (hiff.2 g) c
  ·
   exact g
 generalize hQ : 9007199254740992 / u.2 = Q at *
 refine Runs.suc ?_
 simp only [num_Duration.l2]
 rw [hrd, List.length_map]
 unfold toS
 simp only
 rw [hdv, w64 (n := (i : Int) + 1) (by omega) (by omega), mk_list, mk_list]
 refine Runs.yes (by omega) (Runs.yes (by omega) (Runs.yes (by omega) (Runs.yes hun (Runs.yes (by omega) (Runs.yes (by omega) (Runs.bind (Runs.pure _) ?_))))))
 have hdr : (left.map (fun u => (⟨mk u.1, (u.2 : Int)⟩ : S98))).drop ((i : Int) + 1).toNat = l'.map toS := by
  rw [show ((i : Int) + 1).toNat = i + 1 by omega, hl', ← List.map_drop]; rfl
 rw [hdr]
 cases large with
 | true => exact Runs.yes rfl (h x4 (fun g => by cases g))
 | false =>
  have hx := hsum rfl
  subst hx
  refine Runs.no Bool.false_ne_true (Runs.no (by omega) ?_)
  rw [w64 (n := (Q : Int)) (by omega) (by omega)]
  by_cases c : Q < v
  ·
   have hb : decide ((v : Int) > (Q : Int)) = (false || decide (9007199254740992 < x4 + v * u.2)) := by
    rw [Bool.false_or]
    have := hiff.1 c
    exact (decide_eq_true (by omega)).trans (decide_eq_true (by omega)).symm
   refine Runs.yes (by omega) ?_
   rw [hb]
   refine h x4 (fun g => ?_)
   have := hiff.1 c
   rw [Bool.false_or, decide_eq_false_iff_not] at g
   omega
  ·
   have hle := hle c
   have hm : (v : Int) * (u.2 : Int) = ((v * u.2 : Nat) : Int) := (Int.natCast_mul v u.2).symm
   generalize v * u.2 = w at *
   have hb : decide ((((x4 + w : Nat) : Int)) > 9007199254740992) = (false || decide (9007199254740992 < x4 + w)) := by
    rw [Bool.false_or]
    exact decide_eq_decide.2 (by omega)
   refine Runs.no (by omega) ?_
   rw [hm, w64 (n := (w : Int)) (by omega) (by omega), w64 (n := (x4 : Int) + (w : Int)) (by omega) (by omega), show (x4 : Int) + (w : Int) = ((x4 + w : Nat) : Int) by omega, hb]
   exact h (x4 + w) (fun _ => rfl)
theorem nd_find (x4 sum v : Nat) (large : Bool) (t' nm : List UInt8) (left : List (List UInt8 × Nat)) (R : Int × Int) (hsm : Small left) (hlen : left.length ≤ 100) (hv : v < 1000000000000000) (hsum : large = false → x4 = sum) (hs : sum ≤ 9007199254740992) :
  ∀ (l : List (List UInt8 × Nat)) (i : Nat), left.drop i = l →
  (match l.dropWhile (fun u => u.1 != nm) with
   | [] => R = (0, 8)
   | u :: l' => ∀ y4 : Nat, ((large || decide (9007199254740992 < sum + v * u.2)) = false → y4 = sum + v * u.2) → Runs (fun k => num_Duration.l0 k (mk t') (y4 : Int) (large || decide (9007199254740992 < sum + v * u.2)) (l'.map toS) false) R) →
  Runs (fun k => num_Duration.l2 k (mk t') (x4 : Int) large (left.map toS) (v : Int) (mk nm) (left.map toS) (left.length : Int) (i : Int)) R := by
 intro l
 induction l with
 | nil =>
  intro i hd h
  have hi : left.length ≤ i := by
   have := congrArg List.length hd
   rw [List.length_drop, List.length_nil] at this; omega
  have h : R = (0, 8) := h
  subst h
  refine Runs.suc ?_
  simp only [num_Duration.l2]
  exact Runs.no (by omega) (Runs.pure _)
 | cons u l' ih =>
  intro i hd h
  have hum : u ∈ left := List.mem_of_mem_drop (by rw [hd]; exact List.mem_cons_self ..)
  have hi : i < left.length := by
   rcases Nat.lt_or_ge i left.length with c | c
   ·
    exact c
   ·
    rw [List.drop_eq_nil_of_le c] at hd; cases hd
  by_cases c : u.1 = nm
  ·
   rw [List.dropWhile_cons_of_neg (by simp [c])] at h
   exact nd_match x4 sum v large t' nm left l' u i R hd c (hsm u hum) hlen hv hsum hs h
  ·
   rw [List.dropWhile_cons_of_pos (by simp [c])] at h
   have hd2 : left.drop (i + 1) = l' := by
    have := congrArg List.tail hd
    rwa [List.tail_drop, List.tail_cons] at this
   have ih := ih (i + 1) hd2 h
   have hrd := rd_toS left i u l' hd
   refine Runs.suc ?_
   simp only [num_Duration.l2]
   rw [hrd, List.length_map]
   unfold toS
   simp only
   rw [w64 (n := (i : Int) + 1) (by omega) (by omega), mk_list, mk_list]
   rw [show ((i + 1 : Nat) : Int) = (i : Int) + 1 by omega] at ih
   exact Runs.yes (by omega) (Runs.yes (by omega) (Runs.yes (by omega) (Runs.no c ih)))
theorem nd_digits (t : List UInt8) (x4 : Int) (large : Bool) (L : List S98) (n : Nat) (hn : n = (t.takeWhile isDig).length) (hn2 : n ≤ 15) (ht : t.length ≤ 140737488351232) (R : Int × Int) (hR : Runs (fun k => num_Duration.l1 k (mk t) x4 large L (n : Int) ((val (t.take n) : Nat) : Int) (n : Int) (n : Int)) R) :
  ∀ (d i : Nat), i + d = n → Runs (fun k => num_Duration.l1 k (mk t) x4 large L (n : Int) ((val (t.take i) : Nat) : Int) (n : Int) (i : Int)) R := by
 intro d
 induction d with
 | zero =>
  intro i hi
  obtain rfl : i = n := by omega
  exact hR
 | succ d ih =>
  intro i hi
  have ih := ih (i + 1) (by omega)
  have hle := tw_le (p := isDig) t
  have hit : i < t.length := by omega
  have hdg := (tw_at (p := isDig) t i hit).1 (by omega)
  obtain ⟨s1, s2⟩ := sub48 t[i] hdg
  have htk : t.take (i + 1) = t.take i ++ [t[i]] := by rw [List.take_succ_eq_append_getElem hit]
  have hall : ∀ c ∈ t.take i, isDig c = true := by
   intro c hc
   obtain ⟨j, hj, rfl⟩ := List.getElem_of_mem hc
   rw [List.length_take] at hj
   rw [List.getElem_take]
   exact (tw_at (p := isDig) t j (by omega)).1 (by omega)
  have hvl := val_lt (t.take i) hall
  have hpw : 10 ^ (t.take i).length ≤ 10 ^ 15 := Nat.pow_le_pow_right (by decide) (by rw [List.length_take]; omega)
  have e15 : (10 : Nat) ^ 15 = 1000000000000000 := by decide
  rw [htk, val_snoc] at ih
  have hsub : ((t[i].toNat : Int) - 48) = ((t[i].toNat - 48 : Nat) : Int) := by
   simp only [isDig, Bool.and_eq_true, decide_eq_true_eq] at hdg
   omega
  generalize val (t.take i) = v at *
  refine Runs.suc ?_
  simp only [num_Duration.l1]
  rw [mk_size, mk_bt t i hit, s1, w64 (n := 10 * (v : Int)) (by omega) (by omega), w64 (n := 10 * (v : Int) + _) (by omega) (by omega), w64 (n := (i : Int) + 1) (by omega) (by omega)]
  rw [show ((i + 1 : Nat) : Int) = (i : Int) + 1 by omega, show ((10 * v + (t[i].toNat - 48) : Nat) : Int) = 10 * (v : Int) + ((t[i].toNat - 48 : Nat) : Int) by omega] at ih
  exact Runs.yes (by omega) (Runs.yes (by omega) (Runs.yes (by omega) ih))
theorem run_any (t : List UInt8) (ht : t.length ≤ 140737488351232) : Runs (fun k => num_run.f k (mk t)) ((t.takeWhile isDig).length : Int) := by
 refine ⟨(mk t).size + 1, fun k hk => ?_⟩
 have := run_f (mk t) (by rw [mk_size]; exact ht) k (by omega)
 rw [mk_data] at this
 exact this
theorem nd_all : ∀ (f : Nat) (t : List UInt8) (left : List (List UInt8 × Nat)) (sum x4 : Nat) (large first : Bool), left.length < f → left.length ≤ 100 → Small left → t.length ≤ 140737488351232 → (large = false → x4 = sum) → sum ≤ 9007199254740992 → (first = true ∨ t ≠ []) →
  Runs (fun k => num_Duration.l0 k (mk t) (x4 : Int) large (left.map toS) first) (durS f t left sum large) := by
 intro f
 induction f with
 | zero => intro t left sum x4 large first h; omega
 | succ f ih =>
  intro t left sum x4 large first hf hlen hsm ht hsum hs hfirst
  have hle := tw_le (p := isDig) t
  have j1 : ∀ R, Runs (fun k => num_Duration.j1 k (mk t) (x4 : Int) large (left.map toS) true) R → Runs (fun k => num_Duration.l0 k (mk t) (x4 : Int) large (left.map toS) first) R := by
   intro R h
   refine Runs.suc ?_
   simp only [num_Duration.l0]
   by_cases c : first = true
   ·
    exact Runs.yes c h
   ·
    have hne : ((mk t).toList != ([] : List UInt8)) = true := by
     rw [mk_list, bne_iff_ne]
     rcases hfirst with g | g
     ·
      exact absurd g c
     ·
      exact g
    rw [hne]
    exact Runs.no c h
  refine j1 _ (Runs.suc ?_)
  simp only [num_Duration.j1]
  refine Runs.yes trivial (Runs.bind (run_any t ht) ?_)
  obtain ⟨n, hn⟩ : ∃ n, n = (t.takeWhile isDig).length := ⟨_, rfl⟩
  have bad : durS (f + 1) t left sum large = (0, 8) ∨ 1 ≤ n ∧ n ≤ 15 := by
   rcases Nat.lt_or_ge n 1 with c | c
   ·
    left; unfold durS; rw [if_pos (.inl (by omega))]
   ·
    rcases Nat.lt_or_ge 15 n with c2 | c2
    ·
     left; unfold durS; rw [if_pos (.inr (by omega))]
    ·
     exact .inr ⟨c, by omega⟩
  rw [← hn]
  by_cases c0 : n < 1 ∨ 15 < n
  ·
   have hb : durS (f + 1) t left sum large = (0, 8) := by unfold durS; rw [if_pos (by rw [← hn]; exact c0)]
   rw [hb]
   have j2 : Runs (fun k => num_Duration.j2 k (mk t) (x4 : Int) large (left.map toS) (n : Int) true) (0, 8) := by
    refine Runs.suc ?_
    simp only [num_Duration.j2]
    exact Runs.yes trivial (Runs.pure _)
   by_cases c1 : n < 1
   ·
    exact Runs.yes (by omega) j2
   ·
    rw [decide_eq_true (show (n : Int) > 15 by omega)]
    exact Runs.no (by omega) j2
  ·
   have hn1 : 1 ≤ n := by omega
   have hn2 : n ≤ 15 := by omega
   rw [decide_eq_false (show ¬ (n : Int) > 15 by omega)]
   refine Runs.no (by omega) (Runs.suc ?_)
   simp only [num_Duration.j2]
   refine Runs.no Bool.false_ne_true ?_
   refine nd_digits t (x4 : Int) large (left.map toS) n hn hn2 ht _ ?_ n 0 (by omega)
   have htk : t.take n = t.takeWhile isDig := by rw [hn]; exact tw_take t
   obtain ⟨r, hr⟩ : ∃ r, r = t.drop n := ⟨_, rfl⟩
   have hrl : r.length ≤ 140737488351232 := by rw [hr, List.length_drop]; omega
   obtain ⟨nm, hnm⟩ : ∃ nm, nm = r.takeWhile isAz := ⟨_, rfl⟩
   have hnml := tw_le (p := isAz) r
   rw [← hnm] at hnml
   have hntk : r.take nm.length = nm := by rw [hnm]; exact tw_take r
   have hv : val (t.take n) < 1000000000000000 := by
    have := val_lt (t.take n) (by
     intro c hc
     obtain ⟨j, hj, rfl⟩ := List.getElem_of_mem hc
     rw [List.length_take] at hj
     rw [List.getElem_take]
     exact (tw_at (p := isDig) t j (by omega)).1 (by omega))
    have hpw : 10 ^ (t.take n).length ≤ 10 ^ 15 := Nat.pow_le_pow_right (by decide) (by rw [List.length_take]; omega)
    have e15 : (10 : Nat) ^ 15 = 1000000000000000 := by decide
    omega
   have hidx := az_idx r
   rw [← hnm] at hidx
   have hdur : durS (f + 1) t left sum large = (match left.dropWhile (fun u => u.1 != nm) with
     | [] => (0, 8)
     | u :: left' =>
      if r.drop nm.length = [] then (if (large || decide (9007199254740992 < sum + val (t.take n) * u.2)) = true then (0, 9) else (((sum + val (t.take n) * u.2 : Nat) : Int), 0))
      else durS f (r.drop nm.length) left' (if (large || decide (9007199254740992 < sum + val (t.take n) * u.2)) = true then sum else sum + val (t.take n) * u.2) (large || decide (9007199254740992 < sum + val (t.take n) * u.2))) := by
    rw [durS, if_neg (by rw [← hn]; exact c0), ← hn, ← htk, ← hr, ← hnm]
   rw [hdur]
   generalize val (t.take n) = v at *
   have q : mk r ++ (⟨#[48]⟩ : ByteArray) = mk (r ++ [48]) := mk_append r [48]
   refine Runs.suc ?_
   simp only [num_Duration.l1]
   rw [mk_size, Int.toNat_natCast, mk_from, ← hr]
   refine Runs.no (by omega) (Runs.yes (by omega) (Runs.yes (by omega) (Runs.bind (Runs.pure _) ?_)))
   rw [q, mk_size]
   refine Runs.yes (by omega) ?_
   unfold strings_IndexFunc.f
   rw [hidx]
   refine Runs.bind (Runs.pure _) (Runs.yes (by omega) (Runs.yes (by omega) ?_))
   rw [Int.toNat_natCast, mk_upto, hntk]
   refine Runs.bind (Runs.pure _) ?_
   rw [mk_size, Int.toNat_natCast, mk_from, List.length_map]
   refine Runs.yes (by omega) (Runs.yes (by omega) ?_)
   refine nd_find x4 sum v large (r.drop nm.length) nm left _ hsm hlen hv hsum hs left 0 rfl ?_
   cases hdw : left.dropWhile (fun u => u.1 != nm) with
   | nil => rfl
   | cons u l' =>
    obtain ⟨g1, g2, g3⟩ := dropWhile_suffix left l' u hdw
    intro y4 hy4
    simp only
    generalize hlg : (large || decide (9007199254740992 < sum + v * u.2)) = lg at *
    by_cases hend : r.drop nm.length = []
    ·
     rw [if_pos hend, hend]
     refine Runs.suc ?_
     simp only [num_Duration.l0]
     refine Runs.no Bool.false_ne_true (Runs.suc ?_)
     have hnil : ((mk []).toList != ([] : List UInt8)) = false := by rw [mk_list]; rfl
     simp only [num_Duration.j1]
     rw [hnil]
     refine Runs.no Bool.false_ne_true ?_
     cases lg with
     | true => exact Runs.yes rfl (Runs.pure _)
     | false =>
      rw [hy4 rfl]
      exact Runs.no Bool.false_ne_true (Runs.pure _)
    ·
     rw [if_neg hend]
     refine ih (r.drop nm.length) l' _ y4 lg false (by omega) (by omega) (fun x hx => hsm x (g1 x hx)) (by rw [List.length_drop]; omega) ?_ ?_ (.inr hend)
     ·
      intro g
      rw [hy4 g, if_neg (by rw [g]; exact Bool.false_ne_true)]
     ·
      split
      ·
       exact hs
      ·
       rename_i g
       rw [← hlg, Bool.or_eq_true, decide_eq_true_eq] at g
       omega
theorem small_us : Small us := by unfold Small us; intro u hu; simp at hu; rcases hu with rfl | rfl | rfl | rfl | rfl | rfl | rfl <;> exact ⟨by decide, by decide⟩
theorem dur_num (t : List UInt8) (ht : t.length ≤ 140737488351232) : Runs (fun k => num_Duration.f k (mk t)) (if t = [48] then (0, 0) else durS 8 t us 0 false) := by
 simp only [num_Duration.f]
 rw [mk_list]
 by_cases c : t = [48]
 ·
  rw [if_pos c]; exact Runs.yes c (Runs.pure _)
 ·
  rw [if_neg c]
  refine Runs.no c (Runs.bind (a := UL) (Runs.pure _) ?_)
  exact nd_all 8 t us 0 0 false true (by decide) (by decide) small_us ht (fun _ => rfl) (by decide) (.inl rfl)
end Go.Proofs.YtjlnfnfdibfniaaDoor.Pl
namespace Go.Proofs.YtjlnfnfdibfniaaDoor.Pl
open F Hd Go.RowKit Go.Proofs.YW.PWords Go.Proofs.YW.PMore
theorem unit_us (j : Nat) (u : List UInt8 × Nat) (l' : List (List UInt8 × Nat)) (h : us.drop j = u :: l') : j < 7 ∧ unitN (j : Int) = some (mk u.1, (u.2 : Int)) ∧ us.drop (j + 1) = l' ∧ 1 ≤ u.2 ∧ u.2 ≤ 31536000000 := by
 have hj : j < 7 := by
  rcases Nat.lt_or_ge j 7 with c | c
  ·
   exact c
  ·
   rw [List.drop_eq_nil_of_le (by exact c)] at h; cases h
 have hd : us.drop (j + 1) = l' := by
  have := congrArg List.tail h
  rwa [List.tail_drop, List.tail_cons] at this
 have hu : u ∈ us := List.mem_of_mem_drop (by rw [h]; exact List.mem_cons_self ..)
 refine ⟨hj, ?_, hd, (small_us u hu).1, (small_us u hu).2⟩
 have hc : j = 0 ∨ j = 1 ∨ j = 2 ∨ j = 3 ∨ j = 4 ∨ j = 5 ∨ j = 6 := by omega
 rcases hc with rfl | rfl | rfl | rfl | rfl | rfl | rfl <;> (injection h with h1 h2; subst h1; rfl)
theorem refdig_any (c : UInt8) : r_digit.f (c.toNat : Int) = some (isDig c) := refdigit_f c
theorem rd_done (s : List UInt8) (sum nx p v q : Nat) (large : Bool) (j : Int) (R : Int × Int) (h : Runs (fun k => r_Duration.l0 k (mk s) (sum : Int) (nx : Int) large (q : Int)) R) : Runs (fun k => r_Duration.l3 k (mk s) (sum : Int) (nx : Int) large (p : Int) (v : Int) (q : Int) true j) R := by
 have j8 : Runs (fun k => r_Duration.j8 k (mk s) (sum : Int) (nx : Int) large (p : Int) (v : Int) (q : Int) true j false) R := by
  refine Runs.suc ?_
  simp only [r_Duration.j8]
  exact Runs.no Bool.false_ne_true (Runs.yes trivial h)
 refine Runs.suc ?_
 simp only [r_Duration.l3]
 by_cases c : j < 7
 ·
  exact Runs.yes c j8
 ·
  exact Runs.no c j8
theorem rd_find (s nm : List UInt8) (sum nx p v q : Nat) (large : Bool) (R : Int × Int) (hpq : p ≤ q) (hq : q ≤ s.length) (_hsl : s.length ≤ 140737488351232) (hnm : (s.drop p).take (q - p) = nm) (hv : v < 1000000000000000) (hs : sum ≤ 9007199254740992) :
  ∀ (l : List (List UInt8 × Nat)) (j : Nat), us.drop j = l → j ≤ 7 →
  (match l.dropWhile (fun u => u.1 != nm) with
   | [] => R = (0, 8)
   | u :: l' => ∀ nx' : Nat, nx' ≤ 7 → us.drop nx' = l' → Runs (fun k => r_Duration.l0 k (mk s) ((if (large || decide (9007199254740992 < sum + v * u.2)) = true then sum else sum + v * u.2 : Nat) : Int) (nx' : Int) (large || decide (9007199254740992 < sum + v * u.2)) (q : Int)) R) →
  Runs (fun k => r_Duration.l3 k (mk s) (sum : Int) (nx : Int) large (p : Int) (v : Int) (q : Int) false (j : Int)) R := by
 intro l
 induction l with
 | nil =>
  intro j hd hj h
  have h : R = (0, 8) := h
  subst h
  have hj7 : 7 ≤ j := by
   have := congrArg List.length hd
   rw [List.length_drop, List.length_nil] at this
   have h7 : us.length = 7 := rfl
   omega
  refine Runs.suc ?_
  simp only [r_Duration.l3]
  refine Runs.no (by omega) (Runs.suc ?_)
  simp only [r_Duration.j8]
  exact Runs.no Bool.false_ne_true (Runs.no Bool.false_ne_true (Runs.pure _))
 | cons u l' ih =>
  intro j hd hj h
  obtain ⟨hj7, hun, hd2, hu1, hu2⟩ := unit_us j u l' hd
  have hex : (mk s).extract (p : Int).toNat (q : Int).toNat = mk nm := by
   rw [Int.toNat_natCast, Int.toNat_natCast, mk_part, hnm]
  have hun2 : Hd.r_unit.f (j : Int) = some (mk u.1, (u.2 : Int)) := hun
  refine Runs.suc ?_
  simp only [r_Duration.l3]
  refine Runs.yes (by omega) (Runs.suc ?_)
  simp only [r_Duration.j8]
  rw [hun2, hex, mk_size]
  refine Runs.yes rfl (Runs.bind (Runs.pure _) (Runs.yes (by omega) (Runs.yes (by omega) (Runs.yes (by omega) ?_))))
  simp only
  rw [mk_list, mk_list, w64 (n := (j : Int) + 1) (by omega) (by omega)]
  by_cases c : u.1 = nm
  ·
   rw [List.dropWhile_cons_of_neg (by simp [c])] at h
   have h := h (j + 1) (by omega) hd2
   refine Runs.yes c.symm ?_
   have hdone := fun (sm : Nat) (lg : Bool) (hh : Runs (fun k => r_Duration.l0 k (mk s) (sm : Int) ((j + 1 : Nat) : Int) lg (q : Int)) R) => rd_done s sm (j + 1) p v q lg ((j + 1 : Nat) : Int) R hh
   rw [show ((j + 1 : Nat) : Int) = (j : Int) + 1 by omega] at hdone h
   have htd : Int.tdiv (9007199254740992 - (sum : Int)) (v : Int) = (((9007199254740992 - sum) / v : Nat) : Int) := by
    rw [show (9007199254740992 : Int) - (sum : Int) = ((9007199254740992 - sum : Nat) : Int) by omega, tdiv_nat]
   have hqle : (9007199254740992 - sum) / v ≤ 9007199254740992 := Nat.le_trans (Nat.div_le_self ..) (by omega)
   have hm : (v : Int) * (u.2 : Int) = ((v * u.2 : Nat) : Int) := (Int.natCast_mul v u.2).symm
   by_cases c0 : v = 0
   ·
    subst c0
    rw [Nat.zero_mul, Nat.add_zero, decide_eq_false (show ¬ 9007199254740992 < sum by omega), Bool.or_false] at h
    refine Runs.no (by omega) ?_
    cases large with
    | true => exact Runs.yes rfl (hdone sum true h)
    | false =>
     refine Runs.no Bool.false_ne_true ?_
     have e : wrap64 ((sum : Int) + wrap64 (((0 : Nat) : Int) * (u.2 : Int))) = (sum : Int) := by
      rw [show ((0 : Nat) : Int) * (u.2 : Int) = 0 by omega, w64 (n := 0) (by decide) (by decide), w64 (by omega) (by omega)]; omega
     rw [e]
     exact hdone sum false h
   ·
    have hiff : (9007199254740992 - sum) / v < u.2 ↔ 9007199254740992 < sum + v * u.2 := by
     rw [Nat.div_lt_iff_lt_mul (by omega), Nat.mul_comm u.2 v]
     omega
    refine Runs.yes (by omega) (Runs.no (by omega) ?_)
    rw [w64 (n := 9007199254740992 - (sum : Int)) (by omega) (by omega), htd]
    generalize (9007199254740992 - sum) / v = Q at *
    rw [w64 (n := (Q : Int)) (by omega) (by omega)]
    by_cases c1 : Q < u.2
    ·
     rw [decide_eq_true (hiff.1 c1), Bool.or_true] at h
     exact Runs.yes (by omega) (hdone sum true h)
    ·
     have hno : ¬ 9007199254740992 < sum + v * u.2 := fun g => c1 (hiff.2 g)
     rw [decide_eq_false hno, Bool.or_false] at h
     refine Runs.no (by omega) ?_
     cases large with
     | true => exact Runs.yes rfl (hdone sum true h)
     | false =>
      refine Runs.no Bool.false_ne_true ?_
      rw [hm]
      generalize v * u.2 = w at *
      rw [w64 (n := (w : Int)) (by omega) (by omega), w64 (n := (sum : Int) + (w : Int)) (by omega) (by omega), show (sum : Int) + (w : Int) = ((sum + w : Nat) : Int) by omega]
      exact hdone (sum + w) false h
  ·
   rw [List.dropWhile_cons_of_pos (by simp [c])] at h
   have ih := ih (j + 1) hd2 (by omega) h
   rw [show ((j + 1 : Nat) : Int) = (j : Int) + 1 by omega] at ih
   exact Runs.no (fun g => c g.symm) ih
theorem rd_letters (s : List UInt8) (sum nx p v : Nat) (large : Bool) (R : Int × Int) (m : Nat) (hm : m = ((s.drop p).takeWhile isAz).length) (hp : p ≤ s.length) (hsl : s.length ≤ 140737488351232)
  (h : Runs (fun k => r_Duration.l3 k (mk s) (sum : Int) (nx : Int) large (p : Int) (v : Int) ((p + m : Nat) : Int) false (nx : Int)) R) :
  ∀ (d i : Nat), i + d = m → Runs (fun k => r_Duration.l2 k (mk s) (sum : Int) (nx : Int) large (p : Int) (v : Int) ((p + i : Nat) : Int)) R := by
 have hle := tw_le (p := isAz) (s.drop p)
 rw [List.length_drop] at hle
 have j6 : Runs (fun k => r_Duration.j6 k (mk s) (sum : Int) (nx : Int) large (p : Int) (v : Int) ((p + m : Nat) : Int)) R := by
  refine Runs.suc ?_
  simp only [r_Duration.j6]
  exact h
 have at_ : ∀ i, p + i < s.length → ∃ c, bt (mk s) ((p + i : Nat) : Int) = (c.toNat : Int) ∧ (i < m → isAz c = true) ∧ (i = m → isAz c = false) := by
  intro i hi
  refine ⟨s[p + i], mk_bt s (p + i) hi, ?_, ?_⟩
  ·
   intro g
   have := (tw_at (p := isAz) (s.drop p) i (by rw [List.length_drop]; omega)).1 (by omega)
   rwa [List.getElem_drop] at this
  ·
   intro g
   have := (tw_at (p := isAz) (s.drop p) i (by rw [List.length_drop]; omega)).2 (by omega)
   rwa [List.getElem_drop] at this
 intro d
 induction d with
 | zero =>
  intro i hi
  obtain rfl : i = m := by omega
  refine Runs.suc ?_
  simp only [r_Duration.l2]
  rw [mk_size]
  by_cases c : p + i < s.length
  ·
   obtain ⟨c0, hb, _, hno⟩ := at_ i c
   rw [hb]
   have hno := hno rfl
   simp only [isAz, Bool.and_eq_false_iff, decide_eq_false_iff_not] at hno
   refine Runs.yes (by omega) (Runs.yes (by omega) ?_)
   by_cases c1 : 97 ≤ c0.toNat
   ·
    exact Runs.yes (by omega) (Runs.no (by omega) j6)
   ·
    exact Runs.no (by omega) j6
  ·
   exact Runs.no (by omega) j6
 | succ d ih =>
  intro i hi
  have ih := ih (i + 1) (by omega)
  obtain ⟨c0, hb, hyes, _⟩ := at_ i (by omega)
  have hyes := hyes (by omega)
  simp only [isAz, Bool.and_eq_true, decide_eq_true_eq] at hyes
  refine Runs.suc ?_
  simp only [r_Duration.l2]
  rw [mk_size, hb, w64 (n := ((p + i : Nat) : Int) + 1) (by omega) (by omega)]
  rw [show ((p + (i + 1) : Nat) : Int) = ((p + i : Nat) : Int) + 1 by omega] at ih
  exact Runs.yes (by omega) (Runs.yes (by omega) (Runs.yes (by omega) (Runs.yes (by omega) ih)))
theorem rd_digits (s : List UInt8) (sum nx p : Nat) (large : Bool) (R : Int × Int) (n : Nat) (hn : n = min ((s.drop p).takeWhile isDig).length 16) (hp : p ≤ s.length) (hsl : s.length ≤ 140737488351232)
  (h : Runs (fun k => r_Duration.j3 k (mk s) (sum : Int) (nx : Int) large ((p + n : Nat) : Int) (p : Int) ((val ((s.drop p).take n) : Nat) : Int)) R) :
  ∀ (d i : Nat), i + d = n → Runs (fun k => r_Duration.l1 k (mk s) (sum : Int) (nx : Int) large ((p + i : Nat) : Int) (p : Int) ((val ((s.drop p).take i) : Nat) : Int)) R := by
 have hle := tw_le (p := isDig) (s.drop p)
 rw [List.length_drop] at hle
 have at_ : ∀ i (hi : p + i < s.length), bt (mk s) ((p + i : Nat) : Int) = ((s[p + i]'hi).toNat : Int) ∧ (i < ((s.drop p).takeWhile isDig).length → isDig (s[p + i]'hi) = true) ∧ (i = ((s.drop p).takeWhile isDig).length → isDig (s[p + i]'hi) = false) := by
  intro i hi
  have := tw_at (p := isDig) (s.drop p) i (by rw [List.length_drop]; omega)
  rw [List.getElem_drop] at this
  exact ⟨mk_bt s (p + i) hi, this.1, this.2⟩
 intro d
 induction d with
 | zero =>
  intro i hi
  obtain rfl : i = n := by omega
  refine Runs.suc ?_
  simp only [r_Duration.l1]
  rw [mk_size]
  by_cases c : p + i < s.length
  ·
   obtain ⟨hb, hy, hno⟩ := at_ i c
   rw [hb, refdig_any]
   refine Runs.yes (by omega) (Runs.yes (by omega) (Runs.bind (Runs.pure _) ?_))
   by_cases c1 : i < ((s.drop p).takeWhile isDig).length
   ·
    rw [hy c1, w64 (n := ((p + i : Nat) : Int) - (p : Int)) (by omega) (by omega)]
    exact Runs.yes rfl (Runs.no (by omega) h)
   ·
    rw [hno (by omega)]
    exact Runs.no Bool.false_ne_true h
  ·
   exact Runs.no (by omega) h
 | succ d ih =>
  intro i hi
  have ih := ih (i + 1) (by omega)
  have hpi : p + i < s.length := by omega
  obtain ⟨hb, hy, _⟩ := at_ i hpi
  have hdg := hy (by omega)
  obtain ⟨s1, s2⟩ := sub48 (s[p + i]'hpi) hdg
  have hil : i < (s.drop p).length := by rw [List.length_drop]; omega
  have htk : (s.drop p).take (i + 1) = (s.drop p).take i ++ [s[p + i]'hpi] := by rw [List.take_succ_eq_append_getElem hil, List.getElem_drop]
  have hall : ∀ c ∈ (s.drop p).take i, isDig c = true := by
   intro c hc
   obtain ⟨j, hj, rfl⟩ := List.getElem_of_mem hc
   rw [List.length_take] at hj
   rw [List.getElem_take]
   exact (tw_at (p := isDig) (s.drop p) j (by omega)).1 (by omega)
  have hvl := val_lt ((s.drop p).take i) hall
  have hpw : 10 ^ ((s.drop p).take i).length ≤ 10 ^ 16 := Nat.pow_le_pow_right (by decide) (by rw [List.length_take]; omega)
  have e16 : (10 : Nat) ^ 16 = 10000000000000000 := by decide
  rw [htk, val_snoc] at ih
  generalize val ((s.drop p).take i) = v at *
  refine Runs.suc ?_
  simp only [r_Duration.l1]
  rw [mk_size, hb, refdig_any, hdg, s1, w64 (n := ((p + i : Nat) : Int) - (p : Int)) (by omega) (by omega), w64 (n := 10 * (v : Int)) (by omega) (by omega), w64 (n := 10 * (v : Int) + _) (by omega) (by omega), w64 (n := ((p + i : Nat) : Int) + 1) (by omega) (by omega)]
  rw [show ((p + (i + 1) : Nat) : Int) = ((p + i : Nat) : Int) + 1 by omega, show ((10 * v + ((s[p + i]'hpi).toNat - 48) : Nat) : Int) = 10 * (v : Int) + (((s[p + i]'hpi).toNat - 48 : Nat) : Int) by omega] at ih
  exact Runs.yes (by omega) (Runs.yes (by omega) (Runs.bind (Runs.pure _) (Runs.yes rfl (Runs.yes (by omega) ih))))
theorem rd_all (s : List UInt8) (hsl : s.length ≤ 140737488351232) : ∀ (f p sum nx : Nat) (large : Bool), (us.drop nx).length < f → nx ≤ 7 → p ≤ s.length → sum ≤ 9007199254740992 → (p = 0 ∨ p < s.length) →
  Runs (fun k => r_Duration.l0 k (mk s) (sum : Int) (nx : Int) large (p : Int)) (durS f (s.drop p) (us.drop nx) sum large) := by
 intro f
 induction f with
 | zero => intro p sum nx large h; omega
 | succ f ih =>
  intro p sum nx large hf hnx hp hs hfirst
  have hdl : (s.drop p).length = s.length - p := List.length_drop
  have hle := tw_le (p := isDig) (s.drop p)
  have j1 : ∀ R, Runs (fun k => r_Duration.l1 k (mk s) (sum : Int) (nx : Int) large (p : Int) (p : Int) 0) R → Runs (fun k => r_Duration.l0 k (mk s) (sum : Int) (nx : Int) large (p : Int)) R := by
   intro R h
   have j : Runs (fun k => r_Duration.j1 k (mk s) (sum : Int) (nx : Int) large (p : Int) true) R := by
    refine Runs.suc ?_
    simp only [r_Duration.j1]
    exact Runs.yes trivial h
   refine Runs.suc ?_
   simp only [r_Duration.l0]
   rw [mk_size]
   by_cases c : p < s.length
   ·
    exact Runs.yes (by omega) j
   ·
    have : ((p : Int) == 0) = true := by rw [beq_iff_eq]; omega
    rw [this]
    exact Runs.no (by omega) j
  refine j1 _ ?_
  obtain ⟨n, hn⟩ : ∃ n, n = ((s.drop p).takeWhile isDig).length := ⟨_, rfl⟩
  obtain ⟨c16, hc16⟩ : ∃ c, c = min n 16 := ⟨_, rfl⟩
  have main : Runs (fun k => r_Duration.j3 k (mk s) (sum : Int) (nx : Int) large ((p + c16 : Nat) : Int) (p : Int) ((val ((s.drop p).take c16) : Nat) : Int)) (durS (f + 1) (s.drop p) (us.drop nx) sum large) := by
   refine Runs.suc ?_
   simp only [r_Duration.j3]
   rw [w64 (n := ((p + c16 : Nat) : Int) - (p : Int)) (by omega) (by omega)]
   by_cases c0 : n < 1 ∨ 15 < n
   ·
    have hb : durS (f + 1) (s.drop p) (us.drop nx) sum large = (0, 8) := by unfold durS; rw [if_pos (by rw [← hn]; exact c0)]
    rw [hb]
    have j4 : Runs (fun k => r_Duration.j4 k (mk s) (sum : Int) (nx : Int) large ((p + c16 : Nat) : Int) ((val ((s.drop p).take c16) : Nat) : Int) true) (0, 8) := by
     refine Runs.suc ?_
     simp only [r_Duration.j4]
     exact Runs.yes trivial (Runs.pure _)
    by_cases c1 : n < 1
    ·
     exact Runs.yes (by omega) j4
    ·
     rw [decide_eq_true (show ((p + c16 : Nat) : Int) - (p : Int) > 15 by omega)]
     exact Runs.no (by omega) j4
   ·
    have hcn : c16 = n := by omega
    subst hcn
    rw [decide_eq_false (show ¬ ((p + c16 : Nat) : Int) - (p : Int) > 15 by omega)]
    refine Runs.no (by omega) (Runs.suc ?_)
    simp only [r_Duration.j4]
    refine Runs.no Bool.false_ne_true ?_
    have htk : (s.drop p).take c16 = (s.drop p).takeWhile isDig := by rw [hn]; exact tw_take _
    have hv : val ((s.drop p).take c16) < 1000000000000000 := by
     have := val_lt ((s.drop p).take c16) (by
      intro c hc
      obtain ⟨j, hj, rfl⟩ := List.getElem_of_mem hc
      rw [List.length_take] at hj
      rw [List.getElem_take]
      exact (tw_at (p := isDig) (s.drop p) j (by omega)).1 (by omega))
     have hpw : 10 ^ ((s.drop p).take c16).length ≤ 10 ^ 15 := Nat.pow_le_pow_right (by decide) (by rw [List.length_take]; omega)
     have e15 : (10 : Nat) ^ 15 = 1000000000000000 := by decide
     omega
    have hdd : (s.drop p).drop c16 = s.drop (p + c16) := List.drop_drop ..
    obtain ⟨nm, hnm⟩ : ∃ nm, nm = (s.drop (p + c16)).takeWhile isAz := ⟨_, rfl⟩
    have hnml := tw_le (p := isAz) (s.drop (p + c16))
    rw [← hnm, List.length_drop] at hnml
    have hdur : durS (f + 1) (s.drop p) (us.drop nx) sum large = (match (us.drop nx).dropWhile (fun u => u.1 != nm) with
      | [] => (0, 8)
      | u :: left' =>
       if s.drop (p + c16 + nm.length) = [] then (if (large || decide (9007199254740992 < sum + val ((s.drop p).take c16) * u.2)) = true then (0, 9) else (((sum + val ((s.drop p).take c16) * u.2 : Nat) : Int), 0))
       else durS f (s.drop (p + c16 + nm.length)) left' (if (large || decide (9007199254740992 < sum + val ((s.drop p).take c16) * u.2)) = true then sum else sum + val ((s.drop p).take c16) * u.2) (large || decide (9007199254740992 < sum + val ((s.drop p).take c16) * u.2))) := by
     rw [durS, if_neg (by rw [← hn]; exact c0), ← hn, ← htk, hdd, ← hnm, List.drop_drop]
     try rfl
    rw [hdur]
    generalize val ((s.drop p).take c16) = v at *
    have hpn : p + c16 ≤ s.length := by omega
    refine rd_letters s sum nx (p + c16) v large _ nm.length (by rw [hnm]) hpn hsl ?_ nm.length 0 (by omega)
    have hcut : (s.drop (p + c16)).take (p + c16 + nm.length - (p + c16)) = nm := by
     rw [show p + c16 + nm.length - (p + c16) = nm.length by omega, hnm]; exact tw_take _
    refine rd_find s nm sum nx (p + c16) v (p + c16 + nm.length) large _ (by omega) (by omega) hsl hcut hv hs (us.drop nx) nx rfl hnx ?_
    cases hdw : (us.drop nx).dropWhile (fun u => u.1 != nm) with
    | nil => rfl
    | cons u l' =>
     obtain ⟨g1, g2, g3⟩ := dropWhile_suffix (us.drop nx) l' u hdw
     intro nx' hnx' hd'
     simp only
     generalize hlg : (large || decide (9007199254740992 < sum + v * u.2)) = lg at *
     have hsm : (if lg = true then sum else sum + v * u.2) ≤ 9007199254740992 := by
      split
      ·
       exact hs
      ·
       rename_i g
       rw [← hlg, Bool.or_eq_true, decide_eq_true_eq] at g
       omega
     by_cases hend : s.drop (p + c16 + nm.length) = []
     ·
      rw [if_pos hend]
      have hpe : s.length ≤ p + c16 + nm.length := by
       have := congrArg List.length hend
       rw [List.length_drop, List.length_nil] at this; omega
      refine Runs.suc ?_
      simp only [r_Duration.l0]
      rw [mk_size]
      have hz : (((p + c16 + nm.length : Nat) : Int) == 0) = false := by rw [beq_eq_false_iff_ne]; omega
      rw [hz]
      refine Runs.no (by omega) (Runs.suc ?_)
      simp only [r_Duration.j1]
      refine Runs.no Bool.false_ne_true ?_
      cases lg with
      | true => exact Runs.yes rfl (Runs.pure _)
      | false => exact Runs.no Bool.false_ne_true (Runs.pure _)
     ·
      rw [if_neg hend]
      have hlt : p + c16 + nm.length < s.length := by
       rcases Nat.lt_or_ge (p + c16 + nm.length) s.length with g | g
       ·
        exact g
       ·
        exact absurd (List.drop_eq_nil_of_le g) hend
      have := ih (p + c16 + nm.length) (if lg = true then sum else sum + v * u.2) nx' lg (by rw [hd']; omega) hnx' (by omega) hsm (.inr hlt)
      rw [hd'] at this
      exact this
  have hdig := rd_digits s sum nx p large _ c16 (by rw [hc16, hn]) hp hsl main c16 0 (by omega)
  exact hdig
theorem dur_ref (t : List UInt8) (ht : t.length ≤ 140737488351232) : Runs (fun k => r_Duration.f k (mk t)) (if t = [48] then (0, 0) else durS 8 t us 0 false) := by
 simp only [r_Duration.f]
 rw [mk_list]
 by_cases c : t = [48]
 ·
  rw [if_pos c]; exact Runs.yes c (Runs.pure _)
 ·
  rw [if_neg c]
  refine Runs.no c ?_
  exact rd_all t ht 8 0 0 0 false (by decide) (by decide) (by omega) (by decide) (.inl rfl)
end Go.Proofs.YtjlnfnfdibfniaaDoor.Pl
namespace Go.Proofs.YtjlnfnfdibfniaaDoor.Pl
open F Hd Go.RowKit Go.Proofs.YW.PWords Go.Proofs.YW.PMore
def pad3 (r : Nat) : List UInt8 := [UInt8.ofNat (48 + r / 100), UInt8.ofNat (48 + r / 10 % 10), UInt8.ofNat (48 + r % 10)]
def cutz (l : List UInt8) : List UInt8 := (l.reverse.dropWhile (fun c => c == 48)).reverse
def secTail (r : Nat) : List UInt8 := if r = 0 then [] else 46 :: cutz (pad3 r)
theorem secs_fin : ∀ r : Fin 1000, (dec (1000 + r.val)).drop 1 = pad3 r.val ∧ (dec (1000 + r.val)).length = 4 ∧ List.replicate (3 - (dec r.val).length) 48 ++ dec r.val = pad3 r.val ∧ (dec r.val).length ≤ 3 ∧ (r.val = 0 → cutz (pad3 r.val) = []) ∧ (r.val ≠ 0 → (cutz (pad3 r.val) ≠ [] ∧ (cutz (pad3 r.val)).getLast? ≠ some 48)) ∧ cutz (pad3 r.val) ++ List.replicate (3 - (cutz (pad3 r.val)).length) 48 = pad3 r.val ∧ (cutz (pad3 r.val)).length ≤ 3 := by decide +kernel
theorem snoc_of {l : List UInt8} (h : l ≠ []) : ∃ m c, l = m ++ [c] ∧ l.getLast? = some c := by
 rcases snoc_cases l with g | ⟨m, c, g⟩
 ·
  exact absurd g h
 ·
  exact ⟨m, c, g, by rw [g]; simp⟩
theorem last_bt (l : List UInt8) (c : UInt8) : bt (mk (l ++ [c])) (l.length : Int) = (c.toNat : Int) := by
 rw [mk_bt _ _ (by rw [List.length_append, List.length_singleton]; omega), List.getElem_append_right (Nat.le_refl _)]
 simp only [Nat.sub_self, List.getElem_cons_zero]
theorem ne48 {c : UInt8} (h : c ≠ 48) : ¬ (c.toNat : Int) = 48 := by
 intro e
 exact h (UInt8.toNat_inj.1 (by have : (48 : UInt8).toNat = 48 := (rfl); omega))
theorem trimr_stop (l : List UInt8) (hl : l.length ≤ 1000) (h : l = [] ∨ l.getLast? ≠ some 48) : Runs (fun k => strings_trimRightByte.l0 k (mk l) 48) (mk l) := by
 refine Runs.suc ?_
 simp only [strings_trimRightByte.l0]
 rw [mk_size]
 by_cases c : l = []
 ·
  subst c
  exact Runs.no (by decide) (Runs.pure _)
 ·
  obtain ⟨m, x, hm, hx⟩ := snoc_of c
  have hne : x ≠ 48 := fun e => by
   rcases h with h | h
   ·
    exact c h
   ·
    rw [hx, e] at h; exact h rfl
  subst hm
  have hs : (m ++ [x]).length = m.length + 1 := by rw [List.length_append]; rfl
  rw [hs] at hl ⊢
  rw [w64 (by omega) (by omega), show ((m.length + 1 : Nat) : Int) - 1 = (m.length : Int) by omega, last_bt]
  exact Runs.yes (by omega) (Runs.yes (by omega) (Runs.yes (by omega) (Runs.no (ne48 hne) (Runs.pure _))))
theorem trimr_go (l : List UInt8) (R : ByteArray) (h : Runs (fun k => strings_trimRightByte.l0 k (mk l) 48) R) : ∀ z, l.length + z ≤ 1000 → Runs (fun k => strings_trimRightByte.l0 k (mk (l ++ List.replicate z 48)) 48) R := by
 intro z
 induction z with
 | zero => intro _; rw [List.replicate_zero, List.append_nil]; exact h
 | succ z ih =>
  intro hl
  have ih := ih (by omega)
  rw [List.replicate_succ', ← List.append_assoc]
  have hs : (l ++ List.replicate z 48 ++ [48]).length = l.length + z + 1 := by rw [List.length_append, List.length_append, List.length_replicate]; rfl
  have hs2 : (l ++ List.replicate z (48 : UInt8)).length = l.length + z := by rw [List.length_append, List.length_replicate]
  refine Runs.suc ?_
  simp only [strings_trimRightByte.l0]
  have hb := last_bt (l ++ List.replicate z 48) 48
  rw [hs2] at hb
  have ht : (l ++ List.replicate z (48 : UInt8) ++ [48]).take (l.length + z) = l ++ List.replicate z 48 := by rw [← hs2, List.take_left]
  rw [mk_size, hs, w64 (by omega) (by omega), show ((l.length + z + 1 : Nat) : Int) - 1 = ((l.length + z : Nat) : Int) by omega, hb, Int.toNat_natCast, mk_upto, ht]
  exact Runs.yes (by omega) (Runs.yes (by omega) (Runs.yes (by omega) (Runs.yes rfl (Runs.yes (by omega) ih))))
theorem trimz_f (r : Nat) (hr : r < 1000) : Runs (fun k => strings_TrimRight.f k (mk (pad3 r)) (⟨#[48]⟩ : ByteArray)) (mk (cutz (pad3 r))) := by
 obtain ⟨-, -, -, -, h0, h1, h2, h3⟩ := secs_fin ⟨r, hr⟩
 simp only at h0 h1 h2 h3
 have hstop := trimr_stop (cutz (pad3 r)) (by omega) (by
  by_cases c : r = 0
  ·
   exact .inl (h0 c)
  ·
   exact .inr (h1 c).2)
 have hgo := trimr_go _ _ hstop (3 - (cutz (pad3 r)).length) (by omega)
 rw [h2] at hgo
 have j1 : Runs (fun k => strings_TrimRight.j1 k (mk (pad3 r)) (⟨#[48]⟩ : ByteArray) true) (mk (cutz (pad3 r))) := by
  refine Runs.suc ?_
  simp only [strings_TrimRight.j1]
  refine Runs.yes trivial (Runs.yes (by decide) (Runs.bind (a := mk (cutz (pad3 r))) ?_ (Runs.pure _)))
  exact hgo
 have j0 : Runs (fun k => strings_TrimRight.j0 k (mk (pad3 r)) (⟨#[48]⟩ : ByteArray) false) (mk (cutz (pad3 r))) := by
  refine Runs.suc ?_
  simp only [strings_TrimRight.j0]
  have hb : decide (bt (⟨#[48]⟩ : ByteArray) 0 < 128) = true := by
   have h0 : bt (mk [48]) 0 = ((48 : UInt8).toNat : Int) := mk_bt0 48 []
   have h1 : bt (mk [48]) 0 = 48 := h0.trans (by decide)
   have h2 : (⟨#[48]⟩ : ByteArray) = mk [48] := rfl
   rw [h2, h1]; decide
  have hs : ((⟨#[48]⟩ : ByteArray).size : Int) = 1 := rfl
  rw [hb, hs]
  exact Runs.no Bool.false_ne_true (Runs.yes rfl (Runs.yes (by decide) j1))
 have he : ((⟨#[48]⟩ : ByteArray).toList == ([] : List UInt8)) = false := by
  rw [show (⟨#[48]⟩ : ByteArray).toList = [48] from mk_list [48]]; rfl
 simp only [strings_TrimRight.f]
 rw [he]
 refine Runs.no ?_ j0
 rw [mk_list]
 unfold pad3
 exact fun h => by cases h
def secOf (n : Int) : List UInt8 := sgnText (decide (n < 0)) ++ dec (n.natAbs / 1000) ++ secTail (n.natAbs % 1000)
theorem secs_num (n : Int) (h0 : -9223372036854775808 ≤ n) (h1 : n ≤ 9223372036854775807) : Runs (fun k => num_Seconds.f k n) (mk (secOf n)) := by
 have g1 : ∀ a b : List UInt8, mk a ++ mk b = mk (a ++ b) := mk_append
 have j0 : ∀ (m : Nat) (acc : List UInt8), m ≤ 9223372036854775808 → acc.length ≤ 10 → Runs (fun k => num_Seconds.j0 k (m : Int) (mk acc)) (mk (acc ++ dec (m / 1000) ++ secTail (m % 1000))) := by
  intro m acc hm ha
  have hd := dec_length (m / 1000)
  have hr : m % 1000 < 1000 := Nat.mod_lt _ (by decide)
  obtain ⟨f1, f2, -, -, h0, h1, -, h3⟩ := secs_fin ⟨m % 1000, hr⟩
  simp only at f1 f2 h0 h1 h3
  have htr := trimz_f (m % 1000) hr
  refine Runs.suc ?_
  simp only [num_Seconds.j0]
  have e1 : (1000 : Int) = ((1000 : Nat) : Int) := rfl
  rw [e1, tdiv_nat, tmod_nat, wr64 ((m / 1000 : Nat) : Int) (by omega) (by omega), w64 (n := ((m / 1000 : Nat) : Int)) (by omega) (by omega), int_dec _ (by omega)]
  rw [wr64 (((1000 : Nat) : Int) + ((m % 1000 : Nat) : Int)) (by omega) (by omega), w64 (by omega) (by omega), show ((1000 : Nat) : Int) + ((m % 1000 : Nat) : Int) = ((1000 + m % 1000 : Nat) : Int) by omega, int_dec _ (by omega)]
  refine Runs.bind (Runs.pure _) ?_
  rw [mk_size, mk_size, g1]
  refine Runs.yes (by omega) (Runs.bind (Runs.pure _) (Runs.bind (Runs.pure _) ?_))
  rw [mk_size, mk_from, f1, f2]
  refine Runs.yes (by decide) (Runs.bind htr ?_)
  rw [mk_list]
  unfold secTail
  generalize m % 1000 = r at *
  by_cases c : r = 0
  ·
   rw [if_pos c, List.append_nil]
   exact Runs.yes (h0 c) (Runs.pure _)
  ·
   rw [if_neg c]
   refine Runs.no (h1 c).1 (Runs.yes (by rw [mk_size]; omega) (Runs.bind (Runs.pure _) ?_))
   have q : (⟨#[46]⟩ : ByteArray) ++ mk (cutz (pad3 r)) = mk (46 :: cutz (pad3 r)) := g1 [46] _
   rw [q, mk_size, mk_size]
   refine Runs.yes (by simp; omega) ((Runs.pure _).of (g1 _ _))
 unfold secOf
 simp only [num_Seconds.f]
 by_cases c2 : n < 0
 ·
  rw [abs_u n h0 c2, decide_eq_true c2]
  exact Runs.yes c2 (j0 n.natAbs [45] (by omega) (by decide))
 ·
  rw [wr64 n (by omega) (by omega), decide_eq_false c2, show n = (n.natAbs : Int) by omega, Int.natAbs_natCast]
  exact Runs.no (by omega) (j0 n.natAbs [] (by omega) (by decide))
theorem rsecs_l1 (acc l : List UInt8) (ha : acc.length ≤ 100) (hl : l.length ≤ 100) (hne : l ≠ []) (h : l.getLast? ≠ some 48) : Runs (fun k => r_Seconds.l1 k (mk acc) (mk l)) (mk (acc ++ 46 :: l)) := by
 have g1 : ∀ a b : List UInt8, mk a ++ mk b = mk (a ++ b) := mk_append
 obtain ⟨m, x, hm, hx⟩ := snoc_of hne
 have hn : x ≠ 48 := fun e => by rw [hx, e] at h; exact h rfl
 refine Runs.suc ?_
 simp only [r_Seconds.l1]
 subst hm
 have hs : (m ++ [x]).length = m.length + 1 := by rw [List.length_append]; rfl
 have q : mk acc ++ (⟨#[46]⟩ : ByteArray) = mk (acc ++ [46]) := g1 acc [46]
 rw [mk_size, hs, w64 (by omega) (by omega), show ((m.length + 1 : Nat) : Int) - 1 = (m.length : Int) by omega, last_bt, mk_size, q]
 refine Runs.yes (by omega) (Runs.yes (by omega) (Runs.no (ne48 hn) (Runs.yes (by omega) (Runs.bind (Runs.pure _) ?_))))
 rw [mk_size, g1]
 refine Runs.yes ?_ ((Runs.pure _).of (congrArg mk ?_))
 ·
  rw [List.length_append, List.length_singleton]; omega
 ·
  simp
theorem rsecs_go (acc l : List UInt8) (R : ByteArray) (h : Runs (fun k => r_Seconds.l1 k (mk acc) (mk l)) R) : ∀ z, l.length + z ≤ 1000 → Runs (fun k => r_Seconds.l1 k (mk acc) (mk (l ++ List.replicate z 48))) R := by
 intro z
 induction z with
 | zero => intro _; rw [List.replicate_zero, List.append_nil]; exact h
 | succ z ih =>
  intro hl
  have ih := ih (by omega)
  rw [List.replicate_succ', ← List.append_assoc]
  have hs : (l ++ List.replicate z 48 ++ [48]).length = l.length + z + 1 := by rw [List.length_append, List.length_append, List.length_replicate]; rfl
  have hs2 : (l ++ List.replicate z (48 : UInt8)).length = l.length + z := by rw [List.length_append, List.length_replicate]
  refine Runs.suc ?_
  simp only [r_Seconds.l1]
  have hb := last_bt (l ++ List.replicate z 48) 48
  rw [hs2] at hb
  have ht : (l ++ List.replicate z (48 : UInt8) ++ [48]).take (l.length + z) = l ++ List.replicate z 48 := by rw [← hs2, List.take_left]
  rw [mk_size, hs, w64 (by omega) (by omega), show ((l.length + z + 1 : Nat) : Int) - 1 = ((l.length + z : Nat) : Int) by omega, hb, Int.toNat_natCast, mk_upto, ht]
  exact Runs.yes (by omega) (Runs.yes (by omega) (Runs.yes rfl (Runs.yes (by omega) ih)))
theorem rsecs_l0 (acc : List UInt8) (R : ByteArray) : ∀ (g : Nat) (t : List UInt8), t.length + g = 3 → Runs (fun k => r_Seconds.l1 k (mk acc) (mk (List.replicate g 48 ++ t))) R → Runs (fun k => r_Seconds.l0 k (mk acc) (mk t)) R := by
 intro g
 induction g with
 | zero =>
  intro t ht h
  refine Runs.suc ?_
  simp only [r_Seconds.l0]
  rw [mk_size]
  exact Runs.no (by omega) h
 | succ g ih =>
  intro t ht h
  refine Runs.suc ?_
  simp only [r_Seconds.l0]
  have q : (⟨#[48]⟩ : ByteArray) ++ mk t = mk (48 :: t) := mk_append [48] t
  rw [mk_size, q]
  refine Runs.yes (by omega) (Runs.yes (by omega) (ih (48 :: t) (by rw [List.length_cons]; omega) ?_))
  have e : List.replicate g 48 ++ 48 :: t = List.replicate (g + 1) (48 : UInt8) ++ t := by rw [List.replicate_succ', List.append_assoc]; rfl
  rw [e]; exact h
theorem secs_ref (n : Int) (h0 : -9223372036854775808 ≤ n) (h1 : n ≤ 9223372036854775807) : Runs (fun k => r_Seconds.f k n) (mk (secOf n)) := by
 have g1 : ∀ a b : List UInt8, mk a ++ mk b = mk (a ++ b) := mk_append
 have hdv : (Int.tdiv n 1000).natAbs = n.natAbs / 1000 := by rw [Int.natAbs_tdiv]; rfl
 have hmv : (Int.tmod n 1000).natAbs = n.natAbs % 1000 := by rw [Int.natAbs_tmod]; rfl
 have hd := dec_length (n.natAbs / 1000)
 have hp1 := plain_int (Int.tdiv n 1000) (by omega) (by omega)
 have hp2 := plain_int (Int.tmod n 1000) (by omega) (by omega)
 rw [hdv] at hp1
 rw [hmv] at hp2
 have hr : n.natAbs % 1000 < 1000 := Nat.mod_lt _ (by decide)
 obtain ⟨-, -, f3, f4, -, k1, k2, k3⟩ := secs_fin ⟨n.natAbs % 1000, hr⟩
 simp only at f3 f4 k1 k2 k3
 have j0 : ∀ acc : List UInt8, acc.length ≤ 50 → Runs (fun k => r_Seconds.j0 k n (mk acc)) (mk (acc ++ secTail (n.natAbs % 1000))) := by
  intro acc ha
  refine Runs.suc ?_
  simp only [r_Seconds.j0]
  unfold secTail
  by_cases c : n.natAbs % 1000 = 0
  ·
   rw [if_pos c, List.append_nil]
   exact Runs.yes (by omega) (Runs.pure _)
  ·
   rw [if_neg c]
   refine Runs.no (by omega) (Runs.bind hp2 (rsecs_l0 acc _ (3 - (dec (n.natAbs % 1000)).length) _ (by omega) ?_))
   rw [f3]
   have hg := rsecs_go acc _ _ (rsecs_l1 acc _ (by omega) (by omega) (k1 c).1 (k1 c).2) (3 - (cutz (pad3 (n.natAbs % 1000))).length) (by omega)
   rw [k2] at hg
   exact hg
 unfold secOf
 simp only [r_Seconds.f]
 rw [w64 (by omega) (by omega)]
 refine Runs.bind hp1 ?_
 by_cases c2 : n < 0
 ·
  have q : (⟨#[45]⟩ : ByteArray) ++ mk (dec (n.natAbs / 1000)) = mk (45 :: dec (n.natAbs / 1000)) := g1 [45] _
  rw [decide_eq_true c2, q, mk_size]
  exact Runs.yes c2 (Runs.yes (by omega) (j0 (45 :: dec (n.natAbs / 1000)) (by rw [List.length_cons]; omega)))
 ·
  rw [decide_eq_false c2]
  exact Runs.no c2 (j0 (dec (n.natAbs / 1000)) (by omega))
end Go.Proofs.YtjlnfnfdibfniaaDoor.Pl

