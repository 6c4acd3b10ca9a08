/- Words and walked functions of the proof (part 5). -/
import Derived.Test.YtjlnfnfdibfniaaDoorCText4
namespace Go.Proofs.YtjlnfnfdibfniaaDoor.F
open Go.RowKit Go.Proofs.YW.PWords Go.Proofs.YW.PLast Go.Proofs.YW.PMore
attribute [local go_sem] max2_int min2_int max_two min_two max_three min_three max_four min_four
set_option linter.unusedVariables false
set_option linter.unusedSimpArgs false
set_option maxRecDepth 100000
mutual
def num_Digits.j0 : Nat → Nat → Bool → Bool → Option (ByteArray × Int × Bool)
 | 0, _, _, _ => none
 | k + 1, x0, x4, x25 => if x25 = true then (some ((⟨#[]⟩ : ByteArray), 0, x4)) else ((num_parts.f x0).bind fun bt227 => ((num_of.f k (IntKind.u64.wrap (2 * bt227.1))).bind fun t229 => ((num_of.f k 2).bind fun t232 => ((num_of.f k 1).bind fun t235 => ((num_of.f k 1).bind fun t238 => (if bt227.1 = 4503599627370496 then (num_Digits.j1 k x4 bt227.1 bt227.2 t235 (decide (bt227.2 > (-1074))) t229 t232 t238) else (num_Digits.j1 k x4 bt227.1 bt227.2 t235 false t229 t232 t238)))))))
def num_Digits.j1 : Nat → Bool → Int → Int → List Int → Bool → List Int → List Int → List Int → Option (ByteArray × Int × Bool)
 | 0, _, _, _, _, _, _, _, _ => none
 | k + 1, x4, x5, x6, x9, x43, x242q0, x243q0, x244q0 => if x43 = true then ((num_of.f k (IntKind.u64.wrap (4 * x5))).bind fun t244 => ((num_of.f k 4).bind fun t247 => ((num_of.f k 2).bind fun t250 => (num_Digits.j2 k x4 x5 x6 x9 t244 t247 t250)))) else (num_Digits.j2 k x4 x5 x6 x9 x242q0 x243q0 x244q0)
def num_Digits.j2 : Nat → Bool → Int → Int → List Int → List Int → List Int → List Int → Option (ByteArray × Int × Bool)
 | 0, _, _, _, _, _, _, _ => none
 | k + 1, x4, x5, x6, x9, x242q0, x243q0, x244q0 => if x6 ≥ 0 then ((num_nat_up.f k x242q0 x6).bind fun t253 => ((num_nat_up.f k x9 x6).bind fun t256 => ((num_nat_up.f k x244q0 x6).bind fun t259 => (num_Digits.j3 k x4 x5 t256 t253 x243q0 t259)))) else ((num_nat_up.f k x243q0 (wrap64 (-x6))).bind fun t262 => (num_Digits.j3 k x4 x5 x9 x242q0 t262 x244q0))
def num_Digits.j3 : Nat → Bool → Int → List Int → List Int → List Int → List Int → Option (ByteArray × Int × Bool)
 | 0, _, _, _, _, _, _ => none
 | k + 1, x4, x5, x9, x242q0, x243q0, x244q0 => (num_nat_size.f x242q0).bind fun t266 => ((num_nat_size.f x243q0).bind fun t267 => ((FloatKind.f64.format.mul (floatOfInt .f64 (wrap64 ((wrap64 (t266 - t267)) - 1))) 4599094314157230187).bind fun t268 => ((Hd.math_Ceil.f t268).bind fun t269 => ((floatToIntVal .f64 t269 .i64).bind fun t270 => (if t270 ≥ 0 then ((num_nat_tens.f k x243q0 t270).bind fun t271 => (num_Digits.j4 k x4 x9 t270 x242q0 t271 x244q0 ((Int.tmod x5 2) == 0))) else ((num_nat_tens.f k x242q0 (wrap64 (-t270))).bind fun t274 => ((num_nat_tens.f k x9 (wrap64 (-t270))).bind fun t277 => ((num_nat_tens.f k x244q0 (wrap64 (-t270))).bind fun t280 => (num_Digits.j4 k x4 t277 t270 t274 x243q0 t280 ((Int.tmod x5 2) == 0))))))))))
def num_Digits.j4 : Nat → Bool → List Int → Int → List Int → List Int → List Int → Bool → Option (ByteArray × Int × Bool)
 | 0, _, _, _, _, _, _, _ => none
 | k + 1, x4, x9, x224q0, x242q0, x243q0, x244q0, x266q0 => num_Digits.l0 k x4 x9 x224q0 x242q0 x243q0 x244q0 x266q0
def num_Digits.l0 : Nat → Bool → List Int → Int → List Int → List Int → List Int → Bool → Option (ByteArray × Int × Bool)
 | 0, _, _, _, _, _, _, _ => none
 | k + 1, x4, x9, x224q0, x242q0, x243q0, x244q0, x266q0 => (Hd.num_Digits_1.f k x242q0 x244q0 x243q0 x266q0).bind fun t283 => (if t283 = true then ((num_nat_tens.f k x243q0 1).bind fun t284 => (num_Digits.l0 k x4 x9 (wrap64 (x224q0 + 1)) x242q0 t284 x244q0 x266q0)) else ((num_shortest.f k x242q0 x243q0 x9 x244q0 x266q0 x224q0).bind fun bt287 => (some (strOfNums bt287.1, bt287.2, x4))))
end
def num_Digits.f (k : Nat) (a0 : Nat) : Option (ByteArray × Int × Bool) := (math_Signbit.f a0).bind fun t224 => (if (FloatKind.f64.format.order a0 0 == some Ordering.eq) = true then (num_Digits.j0 k a0 t224 true) else ((math_IsNaN.f a0).bind fun t225 => (if t225 = true then (num_Digits.j0 k a0 t224 true) else ((math_IsInf.f a0 0).bind fun t226 => (num_Digits.j0 k a0 t224 t226)))))
theorem num_Digits.mono_l : ∀ k, (∀ y0 y1 y2, LeO (num_Digits.j0 k y0 y1 y2) (num_Digits.j0 (k + 1) y0 y1 y2)) ∧ (∀ y0 y1 y2 y3 y4 y5 y6 y7, LeO (num_Digits.j1 k y0 y1 y2 y3 y4 y5 y6 y7) (num_Digits.j1 (k + 1) y0 y1 y2 y3 y4 y5 y6 y7)) ∧ (∀ y0 y1 y2 y3 y4 y5 y6, LeO (num_Digits.j2 k y0 y1 y2 y3 y4 y5 y6) (num_Digits.j2 (k + 1) y0 y1 y2 y3 y4 y5 y6)) ∧ (∀ y0 y1 y2 y3 y4 y5, LeO (num_Digits.j3 k y0 y1 y2 y3 y4 y5) (num_Digits.j3 (k + 1) y0 y1 y2 y3 y4 y5)) ∧ (∀ y0 y1 y2 y3 y4 y5 y6, LeO (num_Digits.j4 k y0 y1 y2 y3 y4 y5 y6) (num_Digits.j4 (k + 1) y0 y1 y2 y3 y4 y5 y6)) ∧ (∀ y0 y1 y2 y3 y4 y5 y6, LeO (num_Digits.l0 k y0 y1 y2 y3 y4 y5 y6) (num_Digits.l0 (k + 1) y0 y1 y2 y3 y4 y5 y6))
 | 0 => ⟨fun _ _ _ r h => by simp [num_Digits.j0] at h, fun _ _ _ _ _ _ _ _ r h => by simp [num_Digits.j1] at h, fun _ _ _ _ _ _ _ r h => by simp [num_Digits.j2] at h, fun _ _ _ _ _ _ r h => by simp [num_Digits.j3] at h, fun _ _ _ _ _ _ _ r h => by simp [num_Digits.j4] at h, fun _ _ _ _ _ _ _ r h => by simp [num_Digits.l0] at h⟩
 | k + 1 => by
  obtain ⟨ih0, ih1, ih2, ih3, ih4, ih5⟩ := num_Digits.mono_l k
  refine ⟨?_, ?_, ?_, ?_, ?_, ?_⟩ <;> intros <;> (first | unfold num_Digits.j0 | unfold num_Digits.j1 | unfold num_Digits.j2 | unfold num_Digits.j3 | unfold num_Digits.j4 | unfold num_Digits.l0) <;> repeat' (with_reducible first | apply ih0 | apply ih1 | apply ih2 | apply ih3 | apply ih4 | apply ih5 | apply Hd.num_Digits_1.mono | apply num_nat_tens.mono | apply num_nat_up.mono | apply num_of.mono | apply num_shortest.mono | apply LeO.refl | apply LeO.none | apply LeO.ite | refine LeO.bind ?_ (fun _ => ?_))
theorem num_Digits.mono : ∀ a0 k, LeO (num_Digits.f k a0) (num_Digits.f (k + 1) a0) := by
 intro a0 k
 obtain ⟨ih0, ih1, ih2, ih3, ih4, ih5⟩ := num_Digits.mono_l k
 unfold num_Digits.f
 repeat' (with_reducible first | apply ih0 | apply ih1 | apply ih2 | apply ih3 | apply ih4 | apply ih5 | apply Hd.num_Digits_1.mono | apply num_nat_tens.mono | apply num_nat_up.mono | apply num_of.mono | apply num_shortest.mono | apply LeO.refl | apply LeO.none | apply LeO.ite | refine LeO.bind ?_ (fun _ => ?_))
def num_Digits.T9 : Bool × List (List Nat × List Nat) := (true, [([], []), ([], []), ([0, 1], [0, 1]), ([], []), ([], []), ([3, 4, 2], [3, 4]), ([], []), ([], []), ([6, 7, 5], [6, 7]), ([2, 8, 0, 1, 2], [2]), ([5, 9, 0, 1, 2, 3, 4, 5, 9], [3, 5]), ([8, 10, 0, 1, 2, 3, 4, 5, 6, 7, 8, 9, 10], [8])])
def num_Digits.B9 : List Nat := [0, 0, 3, 0, 0, 31, 0, 0, 255, 511, 1023, 2047]
theorem num_Digits.tab9 : rtab .any (opsOf Tryd.f13 9) = num_Digits.T9 := by kernel_rfl
theorem num_Digits.bits9 : waitsOk num_Digits.T9.2 num_Digits.B9 = true := by kernel_rfl
def num_Digits.T13 : Bool × List (List Nat × List Nat) := (true, [([], []), ([0], [0]), ([], []), ([2, 1], [2]), ([1, 3], [1, 3]), ([4], [4]), ([5], [5]), ([6], [6]), ([7, 3], [7]), ([8], [8]), ([9, 8, 0, 1, 2, 3, 4, 5, 6, 7, 8, 9], [9])])
def num_Digits.B13 : List Nat := [0, 1, 0, 7, 15, 31, 63, 127, 255, 511, 1023]
theorem num_Digits.tab13 : rtab .any (opsOf Tryd.f13 13) = num_Digits.T13 := by kernel_rfl
theorem num_Digits.bits13 : waitsOk num_Digits.T13.2 num_Digits.B13 = true := by kernel_rfl
def num_Digits.T16 : Bool × List (List Nat × List Nat) := (true, [([], []), ([], []), ([1], [1]), ([0, 2], [0, 2]), ([], []), ([], []), ([5], [5]), ([4, 6, 3], [4, 6]), ([], []), ([], []), ([9], [9]), ([8, 10, 7], [8, 10]), ([3, 11, 0, 1, 2, 3], [3]), ([7, 12, 0, 1, 2, 3, 4, 5, 6, 7, 12], [4, 7]), ([11, 13, 0, 1, 2, 3, 4, 5, 6, 7, 8, 9, 10, 11, 12, 13], [11])])
def num_Digits.B16 : List Nat := [0, 0, 2, 7, 0, 0, 32, 127, 0, 0, 512, 2047, 4095, 8191, 16383]
theorem num_Digits.tab16 : rtab .any (opsOf Tryd.f13 16) = num_Digits.T16 := by kernel_rfl
theorem num_Digits.bits16 : waitsOk num_Digits.T16.2 num_Digits.B16 = true := by kernel_rfl
set_option maxHeartbeats 8000000 in
theorem num_Digits.calls (k : Nat) (a0 : Nat) (r1 : ByteArray) (r2 : Int) (r3 : Bool) (w : World) (h : num_Digits.f k a0 = some (r1, r2, r3)) :
  Calls Tryd.prog 13 #[.float .f64 a0] w fun e w' => e = .returned (.tuple #[.string r1, .int .i64 r2, .bool r3]) ∧ Below w.heap.size w w' := by
 have HB := am (Below.refl w.heap.size w)
 have H : ((math_Signbit.f a0).bind fun t224 => (if (FloatKind.f64.format.order a0 0 == some Ordering.eq) = true then (num_Digits.j0 k a0 t224 true) else ((math_IsNaN.f a0).bind fun t225 => (if t225 = true then (num_Digits.j0 k a0 t224 true) else ((math_IsInf.f a0 0).bind fun t226 => (num_Digits.j0 k a0 t224 t226)))))) = some (r1, r2, r3) := h
 clear h
 replace H := bm H
 obtain ⟨t224, A20, H⟩ := H
 replace H : (if (FloatKind.f64.format.order a0 0 == some Ordering.eq) = true then (num_Digits.j0 k a0 t224 true) else ((math_IsNaN.f a0).bind fun t225 => (if t225 = true then (num_Digits.j0 k a0 t224 true) else ((math_IsInf.f a0 0).bind fun t226 => (num_Digits.j0 k a0 t224 t226))))) = some (r1, r2, r3) := H
 have A2 := am A20
 clear A20
 have HC3 := am H
 clear H
 go_enter Tryd.func13, Tryd.ntmps13
 go_upto_region 2 with (first | ((with_reducible refine gate_dst (N := 3) rfl ?_); refine box_event ?hg (N := 3) ?hd (cs := #[.int .i64 0]) (t := 3) ?hr ?_; (case hd => rfl); (case hg => rfl); (case hr => first | (go_simp; done) | (go_simp; rfl)); intro gb223 hg w4 hbox hb; have BK223 := am (hbox); have GW223 := am ((by rw [hg]; exact (below_size (lk HB)) : w.heap.size ≤ gb223)); have GE223 := GW223; replace HB := lb HB hb; clear hb hbox hg) | ((with_reducible refine gate_callee (f := 42) rfl ?_); refine gL (some 15) Tryd.func42 #[.float .f64 a0] ?_; (with_reducible refine (math_Signbit.calls a0 t224 _ A2.out).mono ?_); rintro e w' ⟨rfl, ⟨nd, rfl⟩⟩; refine ⟨_, rfl, ?_⟩))
 (try simp only [Act.put, List.setIfInBounds_toArray, List.set_cons_zero, List.set_cons_succ])
 go_cut [25] (fun v25 wc => ∃ (kq : Nat) (x25_2 : Bool), v25 = .bool x25_2 ∧ Aside0 (num_Digits.j0 kq a0 t224 x25_2 = some (r1, r2, r3)) ∧ Aside0 (kq ≤ k) ∧ Aside0 (wc.heap[gb223]? = some (.cells #[.int .i64 0] 3 (0, 0))) ∧ Aside0 (Below w.heap.size w wc))
 case first =>
  have H := HC3.out
  clear HC3
  by_cases c5 : (FloatKind.f64.format.order a0 0 == some Ordering.eq) = true
  ·
   rw [if_pos c5] at H
   have c5b0 : (FloatKind.f64.format.order a0 0 == some Ordering.eq) = true := c5
   (try (have c5b1 : decide (FloatKind.f64.format.order a0 0 = some Ordering.eq) = true := by simpa using c5))
   (try (have c5b2 : (FloatKind.f64.format.order a0 0 == some Ordering.eq) = true := by simpa using c5))
   clear c5
   (first | rw [c5b0] | (simp only [i64_w, i32_w]; rw [c5b0]) | skip)
   have H' := am H
   clear H
   go_wp2
   go_meet
   case rel => exact ⟨_, (true), eqd, H', ol, ⟨bk BK223⟩, ⟨lk HB⟩⟩
  rw [if_neg c5] at H
  have c5b0 : (FloatKind.f64.format.order a0 0 == some Ordering.eq) = false := by simpa using c5
  (try (have c5b1 : decide (FloatKind.f64.format.order a0 0 = some Ordering.eq) = false := by simpa using c5))
  (try (have c5b2 : (FloatKind.f64.format.order a0 0 == some Ordering.eq) = false := by simpa using c5))
  (try (have c5b3 : ¬ (FloatKind.f64.format.order a0 0 = some Ordering.eq) := by simpa using c5))
  clear c5
  (first | rw [c5b0] | (simp only [i64_w, i32_w]; rw [c5b0]) | skip)
  replace H := bm H
  obtain ⟨t225, A60, H⟩ := H
  replace H : (if t225 = true then (num_Digits.j0 k a0 t224 true) else ((math_IsInf.f a0 0).bind fun t226 => (num_Digits.j0 k a0 t224 t226))) = some (r1, r2, r3) := H
  have A6 := am A60
  clear A60
  by_cases c7 : t225 = true
  ·
   subst c7
   have H1 : (num_Digits.j0 k a0 t224 true) = some (r1, r2, r3) := by rw [if_pos rfl] at H; exact H
   clear H
   have H := H1
   clear H1
   have H' := am H
   clear H
   go_wp2_with (first | (go_at_call 43; (with_reducible refine (math_IsNaN.calls a0 true _ A6.out).mono ?_); rintro e w' ⟨rfl, ⟨nd, rfl⟩⟩))
   go_meet
   case rel => exact ⟨_, (true), eqd, H', ol, ⟨bk BK223⟩, ⟨lk HB⟩⟩
  replace c7 := Bool.eq_false_iff.mpr c7
  subst c7
  have H1 : ((math_IsInf.f a0 0).bind fun t226 => (num_Digits.j0 k a0 t224 t226)) = some (r1, r2, r3) := by rw [if_neg (show ¬ (false = true) by decide)] at H; exact H
  clear H
  have H := H1
  clear H1
  replace H := bm H
  obtain ⟨t226, A80, H⟩ := H
  replace H : (num_Digits.j0 k a0 t224 t226) = some (r1, r2, r3) := H
  have A8 := am A80
  clear A80
  have H' := am H
  clear H
  go_wp2_with (first | (go_at_call 43; (with_reducible refine (math_IsNaN.calls a0 false _ A6.out).mono ?_); rintro e w' ⟨rfl, ⟨nd, rfl⟩⟩) | (go_at_call 32; (with_reducible refine (math_IsInf.calls a0 0 t226 _ A8.out).mono ?_); rintro e w' ⟨rfl, ⟨nd, rfl⟩⟩))
  go_meet
  case rel => exact ⟨_, (t226), eqd, H', ol, ⟨bk BK223⟩, ⟨lk HB⟩⟩
 case rest =>
  clear HC3
  obtain ⟨kq, x25_2, rfl, HA, HJ2, BK223, HB⟩ := hcut
  cases kq with
  | zero => exact absurd HA.out (by simp [num_Digits.j0])
  | succ kj2 =>
   have H := HA.out
   clear HA
   simp only [num_Digits.j0] at H
   by_cases c9 : x25_2 = true
   ·
    subst c9
    have H1 : (some ((⟨#[]⟩ : ByteArray), 0, t224)) = some (r1, r2, r3) := by rw [if_pos rfl] at H; exact H
    clear H
    have H := H1
    clear H1
    simp only [Option.some.injEq, Prod.mk.injEq] at H
    obtain ⟨rfl, rfl, rfl⟩ := H
    have hcz10_0 : wc.cell? ⟨gb223, 0, none⟩ = some (.int .i64 0) := (blk_cell BK223.out 0).trans rfl
    have hfz10_0 := blk_frozen BK223.out 0
    go_wp2
    refine bodyPost_ret (Hd.results_tct rfl _ _ gb223 3 (.int .i64 0) (0, 0) _ rfl (by (with_reducible repeat (first | refine blk_drewN ?_ _ | refine blk_drew ?_ | refine blk_alloc ?_ _)); refine blk_put (cs := #[.int .i64 0]) ?_ 0 _ rfl; exact bk BK223) Tryd.underlying3 rfl) rfl ?_
    exact ex (lk HB)
   replace c9 := Bool.eq_false_iff.mpr c9
   subst c9
   have H1 : ((num_parts.f a0).bind fun bt227 => ((num_of.f kj2 (IntKind.u64.wrap (2 * bt227.1))).bind fun t229 => ((num_of.f kj2 2).bind fun t232 => ((num_of.f kj2 1).bind fun t235 => ((num_of.f kj2 1).bind fun t238 => (if bt227.1 = 4503599627370496 then (num_Digits.j1 kj2 t224 bt227.1 bt227.2 t235 (decide (bt227.2 > (-1074))) t229 t232 t238) else (num_Digits.j1 kj2 t224 bt227.1 bt227.2 t235 false t229 t232 t238))))))) = some (r1, r2, r3) := by rw [if_neg (show ¬ (false = true) by decide)] at H; exact H
   clear H
   have H := H1
   clear H1
   replace H := bm H
   obtain ⟨⟨t227, t228⟩, A110, H⟩ := H
   replace H : ((num_of.f kj2 (IntKind.u64.wrap (2 * t227))).bind fun t229 => ((num_of.f kj2 2).bind fun t232 => ((num_of.f kj2 1).bind fun t235 => ((num_of.f kj2 1).bind fun t238 => (if t227 = 4503599627370496 then (num_Digits.j1 kj2 t224 t227 t228 t235 (decide (t228 > (-1074))) t229 t232 t238) else (num_Digits.j1 kj2 t224 t227 t228 t235 false t229 t232 t238)))))) = some (r1, r2, r3) := H
   have A11 := am A110
   clear A110
   replace H := bm H
   obtain ⟨t229, A120, H⟩ := H
   replace H : ((num_of.f kj2 2).bind fun t232 => ((num_of.f kj2 1).bind fun t235 => ((num_of.f kj2 1).bind fun t238 => (if t227 = 4503599627370496 then (num_Digits.j1 kj2 t224 t227 t228 t235 (decide (t228 > (-1074))) t229 t232 t238) else (num_Digits.j1 kj2 t224 t227 t228 t235 false t229 t232 t238))))) = some (r1, r2, r3) := H
   have A12 := am A120
   clear A120
   replace H := bm H
   obtain ⟨t232, A130, H⟩ := H
   replace H : ((num_of.f kj2 1).bind fun t235 => ((num_of.f kj2 1).bind fun t238 => (if t227 = 4503599627370496 then (num_Digits.j1 kj2 t224 t227 t228 t235 (decide (t228 > (-1074))) t229 t232 t238) else (num_Digits.j1 kj2 t224 t227 t228 t235 false t229 t232 t238)))) = some (r1, r2, r3) := H
   have A13 := am A130
   clear A130
   replace H := bm H
   obtain ⟨t235, A140, H⟩ := H
   replace H : ((num_of.f kj2 1).bind fun t238 => (if t227 = 4503599627370496 then (num_Digits.j1 kj2 t224 t227 t228 t235 (decide (t228 > (-1074))) t229 t232 t238) else (num_Digits.j1 kj2 t224 t227 t228 t235 false t229 t232 t238))) = some (r1, r2, r3) := H
   have A14 := am A140
   clear A140
   replace H := bm H
   obtain ⟨t238, A150, H⟩ := H
   replace H : (if t227 = 4503599627370496 then (num_Digits.j1 kj2 t224 t227 t228 t235 (decide (t228 > (-1074))) t229 t232 t238) else (num_Digits.j1 kj2 t224 t227 t228 t235 false t229 t232 t238)) = some (r1, r2, r3) := H
   have A15 := am A150
   clear A150
   have HC16 := am H
   clear H
   go_upto_region 6 with (first | ((with_reducible refine gate_callee (f := 44) rfl ?_); refine gL (some 29) Tryd.func44 #[.float .f64 a0] ?_; (with_reducible refine (num_parts.calls a0 t227 t228 _ A11.out).mono ?_); rintro e w' ⟨rfl, ⟨nd, rfl⟩⟩; refine ⟨_, rfl, ?_⟩; (try (rw [drewN_self wc]; generalize hq_ : World.drewN wc _ = wc; have n0_ : Aside0 (wc.heap[gb223]? = some (.cells #[.int .i64 0] 3 (0, 0))) := ⟨by rw [← hq_]; exact (bk BK223)⟩; have n1_ : Aside0 (Below w.heap.size w wc) := ⟨by rw [← hq_]; exact (lk HB)⟩; clear BK223 HB hq_; have BK223 := n0_; have HB := n1_; clear n0_ n1_))) | ((with_reducible refine gate_callee (f := 45) rfl ?_); refine gL (some 34) Tryd.func45 #[.int .u64 (IntKind.u64.wrap (2 * t227))] ?_; (with_reducible refine (num_of.calls kj2 (IntKind.u64.wrap (2 * t227)) t229 _ A12.out).mono ?_); rintro e w17 ⟨v230, rfl, ho0, hb⟩; refine ⟨_, rfl, ?_⟩; have HO231 := am (Kd.V_lower (Kd.V_mono (ok' := fun k_ => k_ ≠ gb223) ho0 (fun k_ hk_ => (Kd.freshB (bk BK223) k_ hk_))) (below_size (lk HB))); replace BK223 := bb BK223 hb; replace HB := lb HB hb) | ((with_reducible refine gate_callee (f := 45) rfl ?_); refine gL (some 35) Tryd.func45 #[.int .u64 2] ?_; (with_reducible refine (num_of.calls kj2 2 t232 _ A13.out).mono ?_); rintro e w18 ⟨v233, rfl, ho0, hb⟩; refine ⟨_, rfl, ?_⟩; replace HO231 := vb HO231 hb; have HO234 := am (Kd.V_lower (Kd.V_mono (ok' := fun k_ => k_ ≠ gb223) ho0 (fun k_ hk_ => (Kd.freshB (bk BK223) k_ hk_))) (below_size (lk HB))); replace BK223 := bb BK223 hb; replace HB := lb HB hb) | ((with_reducible refine gate_callee (f := 45) rfl ?_); refine gL (some 36) Tryd.func45 #[.int .u64 1] ?_; (with_reducible refine (num_of.calls kj2 1 t235 _ A14.out).mono ?_); rintro e w19 ⟨v236, rfl, ho0, hb⟩; refine ⟨_, rfl, ?_⟩; replace HO231 := vb HO231 hb; replace HO234 := vb HO234 hb; have HO237 := am (Kd.V_lower (Kd.V_mono (ok' := fun k_ => k_ ≠ gb223) ho0 (fun k_ hk_ => (Kd.freshB (bk BK223) k_ hk_))) (below_size (lk HB))); replace BK223 := bb BK223 hb; replace HB := lb HB hb) | ((with_reducible refine gate_callee (f := 45) rfl ?_); refine gL (some 37) Tryd.func45 #[.int .u64 1] ?_; (with_reducible refine (num_of.calls kj2 1 t238 _ A15.out).mono ?_); rintro e w20 ⟨v239, rfl, ho0, hb⟩; refine ⟨_, rfl, ?_⟩; replace HO231 := vb HO231 hb; replace HO234 := vb HO234 hb; replace HO237 := vb HO237 hb; have HO240 := am (Kd.V_lower (Kd.V_mono (ok' := fun k_ => k_ ≠ gb223) ho0 (fun k_ hk_ => (Kd.freshB (bk BK223) k_ hk_))) (below_size (lk HB))); replace BK223 := bb BK223 hb; replace HB := lb HB hb) | ((with_reducible refine gate_dst (N := 7) rfl ?_); refine box_event ?hg (N := 7) ?hd (cs := #[.slice none 0 0]) (t := 56) ?hr ?_; (case hd => rfl); (case hg => rfl); (case hr => first | (go_simp; done) | (go_simp; rfl)); intro gb241 hg w21 hbox hb; replace HO231 := am (Kd.V_below (Kd.V_elderB (vk HO231) gb241 (Nat.le_of_eq hg.symm)) hb); replace HO234 := am (Kd.V_below (Kd.V_elderB (vk HO234) gb241 (Nat.le_of_eq hg.symm)) hb); replace HO237 := am (Kd.V_below (Kd.V_elderB (vk HO237) gb241 (Nat.le_of_eq hg.symm)) hb); replace HO240 := am (Kd.V_below (Kd.V_elderB (vk HO240) gb241 (Nat.le_of_eq hg.symm)) hb); have BK241 := am (hbox); have GW241 := am ((by rw [hg]; exact (below_size (lk HB)) : w.heap.size ≤ gb241)); have GE241 := GW241; replace HB := lb HB hb; have NB223_241 := am ((by rw [hg]; exact Nat.ne_of_lt (blk_lt (bk BK223)) : gb223 ≠ gb241)); have NB241_223 := am ((by rw [hg]; exact Nat.ne_of_gt (blk_lt (bk BK223)) : gb241 ≠ gb223)); replace BK223 := bb BK223 hb; clear hb hbox hg) | ((with_reducible refine gate_dst (N := 8) rfl ?_); refine box_event ?hg (N := 8) ?hd (cs := #[.slice none 0 0]) (t := 56) ?hr ?_; (case hd => rfl); (case hg => rfl); (case hr => first | (go_simp; done) | (go_simp; rfl)); intro gb242 hg w22 hbox hb; replace HO231 := am (Kd.V_below (Kd.V_elderB (vk HO231) gb242 (Nat.le_of_eq hg.symm)) hb); replace HO234 := am (Kd.V_below (Kd.V_elderB (vk HO234) gb242 (Nat.le_of_eq hg.symm)) hb); replace HO237 := am (Kd.V_below (Kd.V_elderB (vk HO237) gb242 (Nat.le_of_eq hg.symm)) hb); replace HO240 := am (Kd.V_below (Kd.V_elderB (vk HO240) gb242 (Nat.le_of_eq hg.symm)) hb); have BK242 := am (hbox); have GW242 := am ((by rw [hg]; exact (below_size (lk HB)) : w.heap.size ≤ gb242)); have GE242 := GW242; replace HB := lb HB hb; have NB223_242 := am ((by rw [hg]; exact Nat.ne_of_lt (blk_lt (bk BK223)) : gb223 ≠ gb242)); have NB242_223 := am ((by rw [hg]; exact Nat.ne_of_gt (blk_lt (bk BK223)) : gb242 ≠ gb223)); replace BK223 := bb BK223 hb; have NB241_242 := am ((by rw [hg]; exact Nat.ne_of_lt (blk_lt (bk BK241)) : gb241 ≠ gb242)); have NB242_241 := am ((by rw [hg]; exact Nat.ne_of_gt (blk_lt (bk BK241)) : gb242 ≠ gb241)); replace BK241 := bb BK241 hb; clear hb hbox hg) | ((with_reducible refine gate_dst (N := 10) rfl ?_); refine box_event ?hg (N := 10) ?hd (cs := #[.slice none 0 0]) (t := 56) ?hr ?_; (case hd => rfl); (case hg => rfl); (case hr => first | (go_simp; done) | (go_simp; rfl)); intro gb243 hg w23 hbox hb; replace HO231 := am (Kd.V_below (Kd.V_elderB (vk HO231) gb243 (Nat.le_of_eq hg.symm)) hb); replace HO234 := am (Kd.V_below (Kd.V_elderB (vk HO234) gb243 (Nat.le_of_eq hg.symm)) hb); replace HO237 := am (Kd.V_below (Kd.V_elderB (vk HO237) gb243 (Nat.le_of_eq hg.symm)) hb); replace HO240 := am (Kd.V_below (Kd.V_elderB (vk HO240) gb243 (Nat.le_of_eq hg.symm)) hb); have BK243 := am (hbox); have GW243 := am ((by rw [hg]; exact (below_size (lk HB)) : w.heap.size ≤ gb243)); have GE243 := GW243; replace HB := lb HB hb; have NB223_243 := am ((by rw [hg]; exact Nat.ne_of_lt (blk_lt (bk BK223)) : gb223 ≠ gb243)); have NB243_223 := am ((by rw [hg]; exact Nat.ne_of_gt (blk_lt (bk BK223)) : gb243 ≠ gb223)); replace BK223 := bb BK223 hb; have NB241_243 := am ((by rw [hg]; exact Nat.ne_of_lt (blk_lt (bk BK241)) : gb241 ≠ gb243)); have NB243_241 := am ((by rw [hg]; exact Nat.ne_of_gt (blk_lt (bk BK241)) : gb243 ≠ gb241)); replace BK241 := bb BK241 hb; have NB242_243 := am ((by rw [hg]; exact Nat.ne_of_lt (blk_lt (bk BK242)) : gb242 ≠ gb243)); have NB243_242 := am ((by rw [hg]; exact Nat.ne_of_gt (blk_lt (bk BK242)) : gb243 ≠ gb242)); replace BK242 := bb BK242 hb; clear hb hbox hg; obtain ⟨Ao24, co24, eo24⟩ := Kd.V_slice HO231.out; subst eo24; have hnb25 := NB241_223.out; have hnc25 := NB223_241.out; have hnb26 := NB241_242.out; have hnc26 := NB242_241.out; have hnb27 := NB241_243.out; have hnc27 := NB243_241.out; have hcz28_0 : w23.cell? ⟨gb241, 0, none⟩ = some (.slice none 0 0) := (blk_cell BK241.out 0).trans rfl; have hfz28_0 := blk_frozen BK241.out 0; obtain ⟨Ao29, co29, eo29⟩ := Kd.V_slice HO234.out; subst eo29; have hnb30 := NB242_223.out; have hnc30 := NB223_242.out; have hnb31 := NB242_243.out; have hnc31 := NB243_242.out; have hcz32_0 : w23.cell? ⟨gb242, 0, none⟩ = some (.slice none 0 0) := (blk_cell BK242.out 0).trans rfl; have hfz32_0 := blk_frozen BK242.out 0; obtain ⟨Ao33, co33, eo33⟩ := Kd.V_slice HO240.out; subst eo33; have hnb34 := NB243_223.out; have hnc34 := NB223_243.out; have hcz35_0 : w23.cell? ⟨gb243, 0, none⟩ = some (.slice none 0 0) := (blk_cell BK243.out 0).trans rfl; have hfz35_0 := blk_frozen BK243.out 0))
   (try simp only [Act.put, List.setIfInBounds_toArray, List.set_cons_zero, List.set_cons_succ])
   go_cut [43] (fun v43 wc => ∃ (kq : Nat) (x43_15 : Bool), v43 = .bool x43_15 ∧ Aside0 (num_Digits.j1 kq t224 t227 t228 t235 x43_15 t229 t232 t238 = some (r1, r2, r3)) ∧ Aside0 (kq ≤ kj2) ∧ Aside0 (Kd.V (Kd.int .u32) 102 wc w.heap.size (fun k_ => k_ ≠ gb223 ∧ k_ ≠ gb241 ∧ k_ ≠ gb242 ∧ k_ ≠ gb243) v236 t235) ∧ Aside0 (Kd.V (Kd.int .u32) 102 wc w.heap.size (fun k_ => k_ ≠ gb223 ∧ k_ ≠ gb241 ∧ k_ ≠ gb242 ∧ k_ ≠ gb243) (.slice Ao24 t229.length co24) t229) ∧ Aside0 (Kd.V (Kd.int .u32) 102 wc w.heap.size (fun k_ => k_ ≠ gb223 ∧ k_ ≠ gb241 ∧ k_ ≠ gb242 ∧ k_ ≠ gb243) (.slice Ao29 t232.length co29) t232) ∧ Aside0 (Kd.V (Kd.int .u32) 102 wc w.heap.size (fun k_ => k_ ≠ gb223 ∧ k_ ≠ gb241 ∧ k_ ≠ gb242 ∧ k_ ≠ gb243) (.slice Ao33 t238.length co33) t238) ∧ Aside0 (wc.heap[gb223]? = some (.cells #[.int .i64 0] 3 (0, 0))) ∧ Aside0 (wc.heap[gb241]? = some (.cells #[(.slice Ao24 t229.length co24)] 56 (0, 0))) ∧ Aside0 (wc.heap[gb242]? = some (.cells #[(.slice Ao29 t232.length co29)] 56 (0, 0))) ∧ Aside0 (wc.heap[gb243]? = some (.cells #[(.slice Ao33 t238.length co33)] 56 (0, 0))) ∧ Aside0 (Below w.heap.size w wc))
   case first =>
    have H := HC16.out
    clear HC16
    by_cases c36 : t227 = 4503599627370496
    ·
     rw [if_pos c36] at H
     have c36b0 : (t227 == 4503599627370496) = true := beq_iff_eq.mpr c36
     have c36b1 : (t227 != 4503599627370496) = false := bne_eq_false_iff_eq.mpr c36
     clear c36
     (first | rw [c36b0] | (simp only [i64_w, i32_w]; rw [c36b0]) | skip)
     have H' := am H
     clear H
     go_wp2
     go_meet
     case rel => exact ⟨_, (decide (t228 > (-1074))), eqd, H', ⟨by have := HJ2.out; first | omega | exact Nat.le_refl _⟩, ⟨by exact vy <| Kd.V_mono (Kd.V_far (p := ⟨gb243, 0, none⟩) (Kd.V_far (p := ⟨gb242, 0, none⟩) (Kd.V_far (p := ⟨gb241, 0, none⟩) (Kd.V_mono (Kd.V_mono (Kd.V_mono HO237.out (fun k_ hk => (⟨hk, hk.1.1.2⟩ : _ ∧ k_ ≠ gb241))) (fun k_ hk => (⟨hk, hk.1.1.2⟩ : _ ∧ k_ ≠ gb242))) (fun k_ hk => (⟨hk, hk.1.1.2⟩ : _ ∧ k_ ≠ gb243))) (fun _ hk => hk.1.1.2) (.slice Ao24 t229.length co24)) (fun _ hk => hk.1.2) (.slice Ao29 t232.length co29)) (fun _ hk => hk.2) (.slice Ao33 t238.length co33)) (fun _ hk => ⟨hk.1.1.1.1.1.1, ⟨hk.1.1.1.1.1.2, ⟨hk.1.1.1.1.2, hk.1.1.1.2⟩⟩⟩)⟩, ⟨by exact vy <| Kd.V_mono (Kd.V_far (p := ⟨gb243, 0, none⟩) (Kd.V_far (p := ⟨gb242, 0, none⟩) (Kd.V_far (p := ⟨gb241, 0, none⟩) (Kd.V_mono (Kd.V_mono (Kd.V_mono HO231.out (fun k_ hk => (⟨hk, hk.1.1.2⟩ : _ ∧ k_ ≠ gb241))) (fun k_ hk => (⟨hk, hk.1.1.2⟩ : _ ∧ k_ ≠ gb242))) (fun k_ hk => (⟨hk, hk.1.1.2⟩ : _ ∧ k_ ≠ gb243))) (fun _ hk => hk.1.1.2) (.slice Ao24 t229.length co24)) (fun _ hk => hk.1.2) (.slice Ao29 t232.length co29)) (fun _ hk => hk.2) (.slice Ao33 t238.length co33)) (fun _ hk => ⟨hk.1.1.1.1.1.1, ⟨hk.1.1.1.1.1.2, ⟨hk.1.1.1.1.2, hk.1.1.1.2⟩⟩⟩)⟩, ⟨by exact vy <| Kd.V_mono (Kd.V_far (p := ⟨gb243, 0, none⟩) (Kd.V_far (p := ⟨gb242, 0, none⟩) (Kd.V_far (p := ⟨gb241, 0, none⟩) (Kd.V_mono (Kd.V_mono (Kd.V_mono HO234.out (fun k_ hk => (⟨hk, hk.1.1.2⟩ : _ ∧ k_ ≠ gb241))) (fun k_ hk => (⟨hk, hk.1.1.2⟩ : _ ∧ k_ ≠ gb242))) (fun k_ hk => (⟨hk, hk.1.1.2⟩ : _ ∧ k_ ≠ gb243))) (fun _ hk => hk.1.1.2) (.slice Ao24 t229.length co24)) (fun _ hk => hk.1.2) (.slice Ao29 t232.length co29)) (fun _ hk => hk.2) (.slice Ao33 t238.length co33)) (fun _ hk => ⟨hk.1.1.1.1.1.1, ⟨hk.1.1.1.1.1.2, ⟨hk.1.1.1.1.2, hk.1.1.1.2⟩⟩⟩)⟩, ⟨by exact vy <| Kd.V_mono (Kd.V_far (p := ⟨gb243, 0, none⟩) (Kd.V_far (p := ⟨gb242, 0, none⟩) (Kd.V_far (p := ⟨gb241, 0, none⟩) (Kd.V_mono (Kd.V_mono (Kd.V_mono HO240.out (fun k_ hk => (⟨hk, hk.1.1.2⟩ : _ ∧ k_ ≠ gb241))) (fun k_ hk => (⟨hk, hk.1.1.2⟩ : _ ∧ k_ ≠ gb242))) (fun k_ hk => (⟨hk, hk.1.1.2⟩ : _ ∧ k_ ≠ gb243))) (fun _ hk => hk.1.1.2) (.slice Ao24 t229.length co24)) (fun _ hk => hk.1.2) (.slice Ao29 t232.length co29)) (fun _ hk => hk.2) (.slice Ao33 t238.length co33)) (fun _ hk => ⟨hk.1.1.1.1.1.1, ⟨hk.1.1.1.1.1.2, ⟨hk.1.1.1.1.2, hk.1.1.1.2⟩⟩⟩)⟩, ⟨by refine bf NB223_243 ?_; refine bf NB223_242 ?_; refine bf NB223_241 ?_; exact bk BK223⟩, ⟨by refine bf NB241_243 ?_; refine bf NB241_242 ?_; (with_reducible repeat (first | refine blk_drewN ?_ _ | refine blk_drew ?_ | refine blk_alloc ?_ _)); refine blk_put (cs := #[.slice none 0 0]) ?_ 0 _ rfl; exact bk BK241⟩, ⟨by refine bf NB242_243 ?_; (with_reducible repeat (first | refine blk_drewN ?_ _ | refine blk_drew ?_ | refine blk_alloc ?_ _)); refine blk_put (cs := #[.slice none 0 0]) ?_ 0 _ rfl; refine bf NB242_241 ?_; exact bk BK242⟩, ⟨by (with_reducible repeat (first | refine blk_drewN ?_ _ | refine blk_drew ?_ | refine blk_alloc ?_ _)); refine blk_put (cs := #[.slice none 0 0]) ?_ 0 _ rfl; refine bf NB243_242 ?_; refine bf NB243_241 ?_; exact bk BK243⟩, ⟨lk HB⟩⟩
    rw [if_neg c36] at H
    have c36b0 : (t227 == 4503599627370496) = false := beq_eq_false_iff_ne.mpr c36
    have c36b1 : (t227 != 4503599627370496) = true := bne_iff_ne.mpr c36
    (first | rw [c36b0] | (simp only [i64_w, i32_w]; rw [c36b0]) | skip)
    have H' := am H
    clear H
    go_wp2
    go_meet
    case rel => exact ⟨_, (false), eqd, H', ⟨by have := HJ2.out; first | omega | exact Nat.le_refl _⟩, ⟨by exact vy <| Kd.V_mono (Kd.V_far (p := ⟨gb243, 0, none⟩) (Kd.V_far (p := ⟨gb242, 0, none⟩) (Kd.V_far (p := ⟨gb241, 0, none⟩) (Kd.V_mono (Kd.V_mono (Kd.V_mono HO237.out (fun k_ hk => (⟨hk, hk.1.1.2⟩ : _ ∧ k_ ≠ gb241))) (fun k_ hk => (⟨hk, hk.1.1.2⟩ : _ ∧ k_ ≠ gb242))) (fun k_ hk => (⟨hk, hk.1.1.2⟩ : _ ∧ k_ ≠ gb243))) (fun _ hk => hk.1.1.2) (.slice Ao24 t229.length co24)) (fun _ hk => hk.1.2) (.slice Ao29 t232.length co29)) (fun _ hk => hk.2) (.slice Ao33 t238.length co33)) (fun _ hk => ⟨hk.1.1.1.1.1.1, ⟨hk.1.1.1.1.1.2, ⟨hk.1.1.1.1.2, hk.1.1.1.2⟩⟩⟩)⟩, ⟨by exact vy <| Kd.V_mono (Kd.V_far (p := ⟨gb243, 0, none⟩) (Kd.V_far (p := ⟨gb242, 0, none⟩) (Kd.V_far (p := ⟨gb241, 0, none⟩) (Kd.V_mono (Kd.V_mono (Kd.V_mono HO231.out (fun k_ hk => (⟨hk, hk.1.1.2⟩ : _ ∧ k_ ≠ gb241))) (fun k_ hk => (⟨hk, hk.1.1.2⟩ : _ ∧ k_ ≠ gb242))) (fun k_ hk => (⟨hk, hk.1.1.2⟩ : _ ∧ k_ ≠ gb243))) (fun _ hk => hk.1.1.2) (.slice Ao24 t229.length co24)) (fun _ hk => hk.1.2) (.slice Ao29 t232.length co29)) (fun _ hk => hk.2) (.slice Ao33 t238.length co33)) (fun _ hk => ⟨hk.1.1.1.1.1.1, ⟨hk.1.1.1.1.1.2, ⟨hk.1.1.1.1.2, hk.1.1.1.2⟩⟩⟩)⟩, ⟨by exact vy <| Kd.V_mono (Kd.V_far (p := ⟨gb243, 0, none⟩) (Kd.V_far (p := ⟨gb242, 0, none⟩) (Kd.V_far (p := ⟨gb241, 0, none⟩) (Kd.V_mono (Kd.V_mono (Kd.V_mono HO234.out (fun k_ hk => (⟨hk, hk.1.1.2⟩ : _ ∧ k_ ≠ gb241))) (fun k_ hk => (⟨hk, hk.1.1.2⟩ : _ ∧ k_ ≠ gb242))) (fun k_ hk => (⟨hk, hk.1.1.2⟩ : _ ∧ k_ ≠ gb243))) (fun _ hk => hk.1.1.2) (.slice Ao24 t229.length co24)) (fun _ hk => hk.1.2) (.slice Ao29 t232.length co29)) (fun _ hk => hk.2) (.slice Ao33 t238.length co33)) (fun _ hk => ⟨hk.1.1.1.1.1.1, ⟨hk.1.1.1.1.1.2, ⟨hk.1.1.1.1.2, hk.1.1.1.2⟩⟩⟩)⟩, ⟨by exact vy <| Kd.V_mono (Kd.V_far (p := ⟨gb243, 0, none⟩) (Kd.V_far (p := ⟨gb242, 0, none⟩) (Kd.V_far (p := ⟨gb241, 0, none⟩) (Kd.V_mono (Kd.V_mono (Kd.V_mono HO240.out (fun k_ hk => (⟨hk, hk.1.1.2⟩ : _ ∧ k_ ≠ gb241))) (fun k_ hk => (⟨hk, hk.1.1.2⟩ : _ ∧ k_ ≠ gb242))) (fun k_ hk => (⟨hk, hk.1.1.2⟩ : _ ∧ k_ ≠ gb243))) (fun _ hk => hk.1.1.2) (.slice Ao24 t229.length co24)) (fun _ hk => hk.1.2) (.slice Ao29 t232.length co29)) (fun _ hk => hk.2) (.slice Ao33 t238.length co33)) (fun _ hk => ⟨hk.1.1.1.1.1.1, ⟨hk.1.1.1.1.1.2, ⟨hk.1.1.1.1.2, hk.1.1.1.2⟩⟩⟩)⟩, ⟨by refine bf NB223_243 ?_; refine bf NB223_242 ?_; refine bf NB223_241 ?_; exact bk BK223⟩, ⟨by refine bf NB241_243 ?_; refine bf NB241_242 ?_; (with_reducible repeat (first | refine blk_drewN ?_ _ | refine blk_drew ?_ | refine blk_alloc ?_ _)); refine blk_put (cs := #[.slice none 0 0]) ?_ 0 _ rfl; exact bk BK241⟩, ⟨by refine bf NB242_243 ?_; (with_reducible repeat (first | refine blk_drewN ?_ _ | refine blk_drew ?_ | refine blk_alloc ?_ _)); refine blk_put (cs := #[.slice none 0 0]) ?_ 0 _ rfl; refine bf NB242_241 ?_; exact bk BK242⟩, ⟨by (with_reducible repeat (first | refine blk_drewN ?_ _ | refine blk_drew ?_ | refine blk_alloc ?_ _)); refine blk_put (cs := #[.slice none 0 0]) ?_ 0 _ rfl; refine bf NB243_242 ?_; refine bf NB243_241 ?_; exact bk BK243⟩, ⟨lk HB⟩⟩
   case rest =>
    clear HC16
    obtain ⟨kq, x43_15, rfl, HA, HJ15, HO_9, HO_242q0, HO_243q0, HO_244q0, BK223, BK241, BK242, BK243, HB⟩ := hcut
    cases kq with
    | zero => exact absurd HA.out (by simp [num_Digits.j1])
    | succ kj15 =>
     have H := HA.out
     clear HA
     simp only [num_Digits.j1] at H
     have HC37 := am H
     clear H
     go_upto_if 43 with (fail)
     go_cut [] (fun wc => ∃ (kq : Nat) (x242q0_36 : List Int) (x243q0_36 : List Int) (x244q0_36 : List Int) (u242000 : Value) (u243000 : Value) (u244000 : Value), Aside0 (num_Digits.j2 kq t224 t227 t228 t235 x242q0_36 x243q0_36 x244q0_36 = some (r1, r2, r3)) ∧ Aside0 (kq ≤ kj15) ∧ Aside0 (Kd.V (Kd.int .u32) 102 wc w.heap.size (fun k_ => k_ ≠ gb223 ∧ k_ ≠ gb241 ∧ k_ ≠ gb242 ∧ k_ ≠ gb243) v236 t235) ∧ Aside0 (Kd.V (Kd.int .u32) 102 wc w.heap.size (fun k_ => k_ ≠ gb223 ∧ k_ ≠ gb241 ∧ k_ ≠ gb242 ∧ k_ ≠ gb243) u242000 x242q0_36) ∧ Aside0 (Kd.V (Kd.int .u32) 102 wc w.heap.size (fun k_ => k_ ≠ gb223 ∧ k_ ≠ gb241 ∧ k_ ≠ gb242 ∧ k_ ≠ gb243) u243000 x243q0_36) ∧ Aside0 (Kd.V (Kd.int .u32) 102 wc w.heap.size (fun k_ => k_ ≠ gb223 ∧ k_ ≠ gb241 ∧ k_ ≠ gb242 ∧ k_ ≠ gb243) u244000 x244q0_36) ∧ Aside0 (wc.heap[gb223]? = some (.cells #[.int .i64 0] 3 (0, 0))) ∧ Aside0 (wc.heap[gb241]? = some (.cells #[u242000] 56 (0, 0))) ∧ Aside0 (wc.heap[gb242]? = some (.cells #[u243000] 56 (0, 0))) ∧ Aside0 (wc.heap[gb243]? = some (.cells #[u244000] 56 (0, 0))) ∧ Aside0 (Below w.heap.size w wc))
     case first =>
      have H := HC37.out
      clear HC37
      by_cases c38 : x43_15 = true
      ·
       subst c38
       have H1 : ((num_of.f kj15 (IntKind.u64.wrap (4 * t227))).bind fun t244 => ((num_of.f kj15 4).bind fun t247 => ((num_of.f kj15 2).bind fun t250 => (num_Digits.j2 kj15 t224 t227 t228 t235 t244 t247 t250)))) = some (r1, r2, r3) := by rw [if_pos rfl] at H; exact H
       clear H
       have H := H1
       clear H1
       replace H := bm H
       obtain ⟨t244, A390, H⟩ := H
       replace H : ((num_of.f kj15 4).bind fun t247 => ((num_of.f kj15 2).bind fun t250 => (num_Digits.j2 kj15 t224 t227 t228 t235 t244 t247 t250))) = some (r1, r2, r3) := H
       have A39 := am A390
       clear A390
       replace H := bm H
       obtain ⟨t247, A400, H⟩ := H
       replace H : ((num_of.f kj15 2).bind fun t250 => (num_Digits.j2 kj15 t224 t227 t228 t235 t244 t247 t250)) = some (r1, r2, r3) := H
       have A40 := am A400
       clear A400
       replace H := bm H
       obtain ⟨t250, A410, H⟩ := H
       replace H : (num_Digits.j2 kj15 t224 t227 t228 t235 t244 t247 t250) = some (r1, r2, r3) := H
       have A41 := am A410
       clear A410
       have H' := am H
       clear H
       go_wp2_with (first | ((with_reducible refine gate_callee (f := 45) rfl ?_); refine gL (some 46) Tryd.func45 #[.int .u64 (IntKind.u64.wrap (4 * t227))] ?_; (with_reducible refine (num_of.calls kj15 (IntKind.u64.wrap (4 * t227)) t244 _ A39.out).mono ?_); rintro e w42 ⟨v245, rfl, ho0, hb⟩; refine ⟨_, rfl, ?_⟩; replace HO_9 := vb HO_9 hb; replace HO_242q0 := vb HO_242q0 hb; replace HO_243q0 := vb HO_243q0 hb; replace HO_244q0 := vb HO_244q0 hb; have HO246 := am (Kd.V_lower (Kd.V_mono (ok' := fun k_ => k_ ≠ gb223 ∧ k_ ≠ gb241 ∧ k_ ≠ gb242 ∧ k_ ≠ gb243) ho0 (fun k_ hk_ => ⟨(Kd.freshB (bk BK223) k_ hk_), (Kd.freshB (bk BK241) k_ hk_), (Kd.freshB (bk BK242) k_ hk_), (Kd.freshB (bk BK243) k_ hk_)⟩)) (below_size (lk HB))); replace BK223 := bb BK223 hb; replace BK241 := bb BK241 hb; replace BK242 := bb BK242 hb; replace BK243 := bb BK243 hb; replace HB := lb HB hb) | ((with_reducible refine gate_callee (f := 45) rfl ?_); refine gL (some 47) Tryd.func45 #[.int .u64 4] ?_; (with_reducible refine (num_of.calls kj15 4 t247 _ A40.out).mono ?_); rintro e w43 ⟨v248, rfl, ho0, hb⟩; refine ⟨_, rfl, ?_⟩; replace HO_9 := vb HO_9 hb; replace HO_242q0 := vb HO_242q0 hb; replace HO_243q0 := vb HO_243q0 hb; replace HO_244q0 := vb HO_244q0 hb; replace HO246 := vb HO246 hb; have HO249 := am (Kd.V_lower (Kd.V_mono (ok' := fun k_ => k_ ≠ gb223 ∧ k_ ≠ gb241 ∧ k_ ≠ gb242 ∧ k_ ≠ gb243) ho0 (fun k_ hk_ => ⟨(Kd.freshB (bk BK223) k_ hk_), (Kd.freshB (bk BK241) k_ hk_), (Kd.freshB (bk BK242) k_ hk_), (Kd.freshB (bk BK243) k_ hk_)⟩)) (below_size (lk HB))); replace BK223 := bb BK223 hb; replace BK241 := bb BK241 hb; replace BK242 := bb BK242 hb; replace BK243 := bb BK243 hb; replace HB := lb HB hb) | ((with_reducible refine gate_callee (f := 45) rfl ?_); refine gL (some 48) Tryd.func45 #[.int .u64 2] ?_; (with_reducible refine (num_of.calls kj15 2 t250 _ A41.out).mono ?_); rintro e w44 ⟨v251, rfl, ho0, hb⟩; refine ⟨_, rfl, ?_⟩; replace HO_9 := vb HO_9 hb; replace HO_242q0 := vb HO_242q0 hb; replace HO_243q0 := vb HO_243q0 hb; replace HO_244q0 := vb HO_244q0 hb; replace HO246 := vb HO246 hb; replace HO249 := vb HO249 hb; have HO252 := am (Kd.V_lower (Kd.V_mono (ok' := fun k_ => k_ ≠ gb223 ∧ k_ ≠ gb241 ∧ k_ ≠ gb242 ∧ k_ ≠ gb243) ho0 (fun k_ hk_ => ⟨(Kd.freshB (bk BK223) k_ hk_), (Kd.freshB (bk BK241) k_ hk_), (Kd.freshB (bk BK242) k_ hk_), (Kd.freshB (bk BK243) k_ hk_)⟩)) (below_size (lk HB))); replace BK223 := bb BK223 hb; replace BK241 := bb BK241 hb; replace BK242 := bb BK242 hb; replace BK243 := bb BK243 hb; replace HB := lb HB hb; obtain ⟨Ao45, co45, eo45⟩ := Kd.V_slice HO246.out; subst eo45; have hnb46 := NB241_223.out; have hnc46 := NB223_241.out; have hnb47 := NB241_242.out; have hnc47 := NB242_241.out; have hnb48 := NB241_243.out; have hnc48 := NB243_241.out; have hcz49_0 : w44.cell? ⟨gb241, 0, none⟩ = some (.slice Ao24 t229.length co24) := (blk_cell BK241.out 0).trans rfl; have hfz49_0 := blk_frozen BK241.out 0; obtain ⟨Ao50, co50, eo50⟩ := Kd.V_slice HO249.out; subst eo50; have hnb51 := NB242_223.out; have hnc51 := NB223_242.out; have hnb52 := NB242_243.out; have hnc52 := NB243_242.out; have hcz53_0 : w44.cell? ⟨gb242, 0, none⟩ = some (.slice Ao29 t232.length co29) := (blk_cell BK242.out 0).trans rfl; have hfz53_0 := blk_frozen BK242.out 0; obtain ⟨Ao54, co54, eo54⟩ := Kd.V_slice HO252.out; subst eo54; have hnb55 := NB243_223.out; have hnc55 := NB223_243.out; have hcz56_0 : w44.cell? ⟨gb243, 0, none⟩ = some (.slice Ao33 t238.length co33) := (blk_cell BK243.out 0).trans rfl; have hfz56_0 := blk_frozen BK243.out 0))
       go_meet
       case rel => exact ⟨_, (t244), (t247), (t250), (.slice Ao45 t244.length co45), (.slice Ao50 t247.length co50), (.slice Ao54 t250.length co54), H', ⟨by have := HJ2.out; have := HJ15.out; first | omega | exact Nat.le_refl _⟩, ⟨by exact vy <| Kd.V_mono (Kd.V_far (p := ⟨gb243, 0, none⟩) (Kd.V_far (p := ⟨gb242, 0, none⟩) (Kd.V_far (p := ⟨gb241, 0, none⟩) (Kd.V_mono (Kd.V_mono (Kd.V_mono HO_9.out (fun k_ hk => (⟨hk, hk.2.1⟩ : _ ∧ k_ ≠ gb241))) (fun k_ hk => (⟨hk, hk.1.2.2.1⟩ : _ ∧ k_ ≠ gb242))) (fun k_ hk => (⟨hk, hk.1.1.2.2.2⟩ : _ ∧ k_ ≠ gb243))) (fun _ hk => hk.1.1.2) (.slice Ao45 t244.length co45)) (fun _ hk => hk.1.2) (.slice Ao50 t247.length co50)) (fun _ hk => hk.2) (.slice Ao54 t250.length co54)) (fun _ hk => ⟨hk.1.1.1.1, ⟨hk.1.1.1.2.1, ⟨hk.1.1.1.2.2.1, hk.1.1.1.2.2.2⟩⟩⟩)⟩, ⟨by exact vy <| Kd.V_mono (Kd.V_far (p := ⟨gb243, 0, none⟩) (Kd.V_far (p := ⟨gb242, 0, none⟩) (Kd.V_far (p := ⟨gb241, 0, none⟩) (Kd.V_mono (Kd.V_mono (Kd.V_mono HO246.out (fun k_ hk => (⟨hk, hk.2.1⟩ : _ ∧ k_ ≠ gb241))) (fun k_ hk => (⟨hk, hk.1.2.2.1⟩ : _ ∧ k_ ≠ gb242))) (fun k_ hk => (⟨hk, hk.1.1.2.2.2⟩ : _ ∧ k_ ≠ gb243))) (fun _ hk => hk.1.1.2) (.slice Ao45 t244.length co45)) (fun _ hk => hk.1.2) (.slice Ao50 t247.length co50)) (fun _ hk => hk.2) (.slice Ao54 t250.length co54)) (fun _ hk => ⟨hk.1.1.1.1, ⟨hk.1.1.1.2.1, ⟨hk.1.1.1.2.2.1, hk.1.1.1.2.2.2⟩⟩⟩)⟩, ⟨by exact vy <| Kd.V_mono (Kd.V_far (p := ⟨gb243, 0, none⟩) (Kd.V_far (p := ⟨gb242, 0, none⟩) (Kd.V_far (p := ⟨gb241, 0, none⟩) (Kd.V_mono (Kd.V_mono (Kd.V_mono HO249.out (fun k_ hk => (⟨hk, hk.2.1⟩ : _ ∧ k_ ≠ gb241))) (fun k_ hk => (⟨hk, hk.1.2.2.1⟩ : _ ∧ k_ ≠ gb242))) (fun k_ hk => (⟨hk, hk.1.1.2.2.2⟩ : _ ∧ k_ ≠ gb243))) (fun _ hk => hk.1.1.2) (.slice Ao45 t244.length co45)) (fun _ hk => hk.1.2) (.slice Ao50 t247.length co50)) (fun _ hk => hk.2) (.slice Ao54 t250.length co54)) (fun _ hk => ⟨hk.1.1.1.1, ⟨hk.1.1.1.2.1, ⟨hk.1.1.1.2.2.1, hk.1.1.1.2.2.2⟩⟩⟩)⟩, ⟨by exact vy <| Kd.V_mono (Kd.V_far (p := ⟨gb243, 0, none⟩) (Kd.V_far (p := ⟨gb242, 0, none⟩) (Kd.V_far (p := ⟨gb241, 0, none⟩) (Kd.V_mono (Kd.V_mono (Kd.V_mono HO252.out (fun k_ hk => (⟨hk, hk.2.1⟩ : _ ∧ k_ ≠ gb241))) (fun k_ hk => (⟨hk, hk.1.2.2.1⟩ : _ ∧ k_ ≠ gb242))) (fun k_ hk => (⟨hk, hk.1.1.2.2.2⟩ : _ ∧ k_ ≠ gb243))) (fun _ hk => hk.1.1.2) (.slice Ao45 t244.length co45)) (fun _ hk => hk.1.2) (.slice Ao50 t247.length co50)) (fun _ hk => hk.2) (.slice Ao54 t250.length co54)) (fun _ hk => ⟨hk.1.1.1.1, ⟨hk.1.1.1.2.1, ⟨hk.1.1.1.2.2.1, hk.1.1.1.2.2.2⟩⟩⟩)⟩, ⟨by refine bf NB223_243 ?_; refine bf NB223_242 ?_; refine bf NB223_241 ?_; exact bk BK223⟩, ⟨by refine bf NB241_243 ?_; refine bf NB241_242 ?_; (with_reducible repeat (first | refine blk_drewN ?_ _ | refine blk_drew ?_ | refine blk_alloc ?_ _)); refine blk_put (cs := #[.slice Ao24 t229.length co24]) ?_ 0 _ rfl; exact bk BK241⟩, ⟨by refine bf NB242_243 ?_; (with_reducible repeat (first | refine blk_drewN ?_ _ | refine blk_drew ?_ | refine blk_alloc ?_ _)); refine blk_put (cs := #[.slice Ao29 t232.length co29]) ?_ 0 _ rfl; refine bf NB242_241 ?_; exact bk BK242⟩, ⟨by (with_reducible repeat (first | refine blk_drewN ?_ _ | refine blk_drew ?_ | refine blk_alloc ?_ _)); refine blk_put (cs := #[.slice Ao33 t238.length co33]) ?_ 0 _ rfl; refine bf NB243_242 ?_; refine bf NB243_241 ?_; exact bk BK243⟩, ⟨lk HB⟩⟩
      replace c38 := Bool.eq_false_iff.mpr c38
      subst c38
      have H1 : (num_Digits.j2 kj15 t224 t227 t228 t235 t229 t232 t238) = some (r1, r2, r3) := by rw [if_neg (show ¬ (false = true) by decide)] at H; exact H
      clear H
      have H := H1
      clear H1
      have H' := am H
      clear H
      go_wp2
      go_meet
      case rel => exact ⟨_, (t229), (t232), (t238), (.slice Ao24 t229.length co24), (.slice Ao29 t232.length co29), (.slice Ao33 t238.length co33), H', ⟨by have := HJ2.out; have := HJ15.out; first | omega | exact Nat.le_refl _⟩, ⟨vk HO_9⟩, ⟨vk HO_242q0⟩, ⟨vk HO_243q0⟩, ⟨vk HO_244q0⟩, ⟨bk BK223⟩, ⟨bk BK241⟩, ⟨bk BK242⟩, ⟨bk BK243⟩, ⟨lk HB⟩⟩
     case rest =>
      clear HC37
      obtain ⟨kq, x242q0_36, x243q0_36, x244q0_36, u242000, u243000, u244000, HA, HJ36, HO_9, HO_242q0, HO_243q0, HO_244q0, BK223, BK241, BK242, BK243, HB⟩ := hcut
      cases kq with
      | zero => exact absurd HA.out (by simp [num_Digits.j2])
      | succ kj36 =>
       have H := HA.out
       clear HA
       simp only [num_Digits.j2] at H
       have HC57 := am H
       clear H
       go_upto_if 50 with (fail)
       go_cut [9] (fun v9 wc => ∃ (kq : Nat) (x9_56 : List Int) (x242q0_56 : List Int) (x243q0_56 : List Int) (x244q0_56 : List Int) (u242000 : Value) (u243000 : Value) (u244000 : Value), Aside0 (num_Digits.j3 kq t224 t227 x9_56 x242q0_56 x243q0_56 x244q0_56 = some (r1, r2, r3)) ∧ Aside0 (kq ≤ kj36) ∧ Aside0 (Kd.V (Kd.int .u32) 102 wc w.heap.size (fun k_ => k_ ≠ gb223 ∧ k_ ≠ gb241 ∧ k_ ≠ gb242 ∧ k_ ≠ gb243) v9 x9_56) ∧ Aside0 (Kd.V (Kd.int .u32) 102 wc w.heap.size (fun k_ => k_ ≠ gb223 ∧ k_ ≠ gb241 ∧ k_ ≠ gb242 ∧ k_ ≠ gb243) u242000 x242q0_56) ∧ Aside0 (Kd.V (Kd.int .u32) 102 wc w.heap.size (fun k_ => k_ ≠ gb223 ∧ k_ ≠ gb241 ∧ k_ ≠ gb242 ∧ k_ ≠ gb243) u243000 x243q0_56) ∧ Aside0 (Kd.V (Kd.int .u32) 102 wc w.heap.size (fun k_ => k_ ≠ gb223 ∧ k_ ≠ gb241 ∧ k_ ≠ gb242 ∧ k_ ≠ gb243) u244000 x244q0_56) ∧ Aside0 (wc.heap[gb223]? = some (.cells #[.int .i64 0] 3 (0, 0))) ∧ Aside0 (wc.heap[gb241]? = some (.cells #[u242000] 56 (0, 0))) ∧ Aside0 (wc.heap[gb242]? = some (.cells #[u243000] 56 (0, 0))) ∧ Aside0 (wc.heap[gb243]? = some (.cells #[u244000] 56 (0, 0))) ∧ Aside0 (Below w.heap.size w wc))
       case first =>
        have H := HC57.out
        clear HC57
        by_cases c58 : t228 ≥ 0
        ·
         rw [if_pos c58] at H
         have c58b0 : decide (0 ≤ t228) = true := dt c58
         clear c58
         (first | rw [c58b0] | (simp only [i64_w, i32_w]; rw [c58b0]) | skip)
         replace H := bm H
         obtain ⟨t253, A590, H⟩ := H
         replace H : ((num_nat_up.f kj36 t235 t228).bind fun t256 => ((num_nat_up.f kj36 x244q0_36 t228).bind fun t259 => (num_Digits.j3 kj36 t224 t227 t256 t253 x243q0_36 t259))) = some (r1, r2, r3) := H
         have A59 := am A590
         clear A590
         replace H := bm H
         obtain ⟨t256, A600, H⟩ := H
         replace H : ((num_nat_up.f kj36 x244q0_36 t228).bind fun t259 => (num_Digits.j3 kj36 t224 t227 t256 t253 x243q0_36 t259)) = some (r1, r2, r3) := H
         have A60 := am A600
         clear A600
         replace H := bm H
         obtain ⟨t259, A610, H⟩ := H
         replace H : (num_Digits.j3 kj36 t224 t227 t256 t253 x243q0_36 t259) = some (r1, r2, r3) := H
         have A61 := am A610
         clear A610
         have H' := am H
         clear H
         try go_wp2
         have n0_ := am (Kd.V_drew HO_9.out)
         have n1_ := am (Kd.V_drew HO_242q0.out)
         have n2_ := am (Kd.V_drew HO_243q0.out)
         have n3_ := am (Kd.V_drew HO_244q0.out)
         have n4_ := am (blk_drew BK223.out)
         have n5_ := am (blk_drew BK241.out)
         have n6_ := am (blk_drew BK242.out)
         have n7_ := am (blk_drew BK243.out)
         have n8_ := am (below_drew1 HB.out)
         clear HO_9
         clear HO_242q0
         clear HO_243q0
         clear HO_244q0
         clear BK223
         clear BK241
         clear BK242
         clear BK243
         clear HB
         have HO_9 := n0_
         have HO_242q0 := n1_
         have HO_243q0 := n2_
         have HO_244q0 := n3_
         have BK223 := n4_
         have BK241 := n5_
         have BK242 := n6_
         have BK243 := n7_
         have HB := n8_
         clear n0_ n1_ n2_ n3_ n4_ n5_ n6_ n7_ n8_
         obtain ⟨Ao63, co63, eo63⟩ := Kd.V_slice HO_242q0.out
         (first | subst eo63 | (injection eo63 with f1_ f2_ f3_; have f4_ := f1_.symm; have f5_ := f3_.symm; clear f1_ f2_ f3_; subst f4_; subst f5_))
         refine start_ (n := 12) (S := fun w' => w'.cell? ⟨gb241, 0, none⟩ = some (.slice Ao63 x242q0_36.length co63) ∧ w'.cell? ⟨gb243, 0, none⟩ = some (u244000)) (ds := [9, 11]) #[false, false, false, false, false, false, false, false, false, false, false, false] (by kernel_rfl) rfl rfl ⟨(blk_cell BK241.out 0).trans rfl, (blk_cell BK243.out 0).trans rfl⟩ (fun hHeld => ?_); refine with_tabW num_Digits.tab9 num_Digits.bits9 (fun HT_ HW_ => ?_)
         generalize wc.drew = w62 at HO_9 HO_242q0 HO_243q0 HO_244q0 BK223 BK241 BK242 BK243 HB hHeld ⊢
         refine pure_ (i := 1) (N := some 52) (v := ?_) (a' := ?_) #[false, true, false, false, false, false, false, false, false, false, false, false] rfl rfl (any_of HT_.out (by kernel_rfl)) (fun _ _ _ h => h) (Or.inl ⟨by rfl, ?_⟩) ?_ ?_
         rotate_left
         ·
          intro w'
          go_simp
          with_reducible rfl
         rotate_left
         ·
          exact pz
         refine pure_ (i := 3) (N := some 54) (v := ?_) (a' := ?_) #[false, true, false, true, false, false, false, false, false, false, false, false] rfl rfl (any_of HT_.out (by kernel_rfl)) (fun _ _ _ h => h) (Or.inl ⟨by rfl, ?_⟩) ?_ ?_
         rotate_left
         ·
          intro w'
          go_simp
          with_reducible rfl
         rotate_left
         ·
          exact pz
         refine pure_ (i := 4) (N := some 55) (v := ?_) (a' := ?_) #[false, true, false, true, true, false, false, false, false, false, false, false] rfl rfl (any_of HT_.out (by kernel_rfl)) (fun _ _ _ h => h) (Or.inl ⟨by rfl, ?_⟩) ?_ ?_
         rotate_left
         ·
          intro w'
          go_simp
          with_reducible rfl
         rotate_left
         ·
          exact pz
         refine pure_ (i := 7) (N := some 58) (v := ?_) (a' := ?_) #[false, true, false, true, true, false, false, true, false, false, false, false] rfl rfl (any_of HT_.out (by kernel_rfl)) (fun _ _ _ h => h) (Or.inl ⟨by rfl, ?_⟩) ?_ ?_
         rotate_left
         ·
          intro w'
          go_simp
          with_reducible rfl
         rotate_left
         ·
          exact pz
         refine take_ (i := 0) (N := some 51) (v := ?_) (a' := ?_) #[true, true, false, true, true, false, false, true, false, false, false, false] rfl rfl (take_ofW HT_.out HW_.out (by kernel_rfl)) (fun _ _ _ h => h) (Or.inl ⟨by rfl, ?_⟩) hHeld ?_ ?_
         rotate_left
         ·
          rintro w' ⟨s0, s1⟩
          go_simp
          with_reducible rfl
         rotate_left
         ·
          exact pz
         refine take_ (i := 6) (N := some 57) (v := ?_) (a' := ?_) #[true, true, false, true, true, false, true, true, false, false, false, false] rfl rfl (take_ofW HT_.out HW_.out (by kernel_rfl)) (fun _ _ _ h => h) (Or.inl ⟨by rfl, ?_⟩) hHeld ?_ ?_
         rotate_left
         ·
          rintro w' ⟨s0, s1⟩
          go_simp
          with_reducible rfl
         rotate_left
         ·
          exact pz
         refine one_ (i := 2) (N := some 53) #[true, true, true, true, true, false, true, true, false, false, false, false] rfl rfl (one_of HT_.out (by kernel_rfl)) (by decide) (fun K hK => ?_)
         refine goes_ Tryd.func46 (by kernel_rfl) rfl #[.slice Ao63 x242q0_36.length co63, .int .i64 t228] (by rfl) rfl rfl (by (try simp only [List.map_toArray, List.map_cons, List.map_nil]); first | done | rfl | (simp only [List.length_drop, List.length_take]; rfl) | (simp [Act.eval, Hd.wrap_u8]; done)) ?_
         with_reducible refine (num_nat_up.calls kj36 _ _ x242q0_36 t228 t253 _ ?side1 ?side2 A59.out).mono ?_
         (case side1 => exact ck (Kd.V_reads' HO_242q0.out).2.2)
         (case side2 => exact (Kd.V_reads' HO_242q0.out).2.1)
         rintro e w64 ⟨v254, rfl, ho0, hb⟩
         refine ⟨_, rfl, ?_⟩
         have n0_ := vb HO_9 hb
         have n1_ := vb HO_242q0 hb
         have n2_ := vb HO_243q0 hb
         have n3_ := vb HO_244q0 hb
         have n4_ := am (Kd.V_lower (Kd.V_mono (ok' := fun k_ => k_ ≠ gb223 ∧ k_ ≠ gb241 ∧ k_ ≠ gb242 ∧ k_ ≠ gb243) ho0 (fun k_ hk_ => ⟨(Kd.freshB (bk BK223) k_ hk_), (Kd.freshB (bk BK241) k_ hk_), (Kd.freshB (bk BK242) k_ hk_), (Kd.freshB (bk BK243) k_ hk_)⟩)) (below_size (lk HB)))
         have n5_ := bb BK223 hb
         have n6_ := bb BK241 hb
         have n7_ := bb BK242 hb
         have n8_ := bb BK243 hb
         have n9_ := lb HB hb
         clear HO_9
         clear HO_242q0
         clear HO_243q0
         clear HO_244q0
         clear BK223
         clear BK241
         clear BK242
         clear BK243
         clear HB
         have HO_9 := n0_
         have HO_242q0 := n1_
         have HO_243q0 := n2_
         have HO_244q0 := n3_
         have HO255 := n4_
         have BK223 := n5_
         have BK241 := n6_
         have BK242 := n7_
         have BK243 := n8_
         have HB := n9_
         clear n0_ n1_ n2_ n3_ n4_ n5_ n6_ n7_ n8_ n9_
         (try clear hb)
         (try clear hb2)
         (try clear hk)
         (try clear hi)
         (try clear ho0)
         obtain ⟨Ao65, co65, eo65⟩ := Kd.V_slice HO_9.out
         (first | subst eo65 | (injection eo65 with f1_ f2_ f3_; have f4_ := f1_.symm; have f5_ := f3_.symm; clear f1_ f2_ f3_; subst f4_; subst f5_))
         refine hK.out _ _ ⟨(blk_cell BK241.out 0).trans rfl, (blk_cell BK243.out 0).trans rfl⟩ (fun hHeld => ?_)
         clear hK K
         refine norm_ (a' := ?_) ?_ ?_
         rotate_left
         ·
          show Act.put _ (some 53) _ = _
          exact pz
         refine one_ (i := 5) (N := some 56) #[true, true, true, true, true, true, true, true, false, false, false, false] rfl rfl (one_of HT_.out (by kernel_rfl)) (by decide) (fun K hK => ?_)
         refine goes_ Tryd.func46 (by kernel_rfl) rfl #[.slice Ao65 t235.length co65, .int .i64 t228] (by rfl) rfl rfl (by (try simp only [List.map_toArray, List.map_cons, List.map_nil]); first | done | rfl | (simp only [List.length_drop, List.length_take]; rfl) | (simp [Act.eval, Hd.wrap_u8]; done)) ?_
         with_reducible refine (num_nat_up.calls kj36 _ _ t235 t228 t256 _ ?side1 ?side2 A60.out).mono ?_
         (case side1 => exact ck (Kd.V_reads' HO_9.out).2.2)
         (case side2 => exact (Kd.V_reads' HO_9.out).2.1)
         rintro e w66 ⟨v257, rfl, ho0, hb⟩
         refine ⟨_, rfl, ?_⟩
         have n0_ := vb HO_9 hb
         have n1_ := vb HO_242q0 hb
         have n2_ := vb HO_243q0 hb
         have n3_ := vb HO_244q0 hb
         have n4_ := vb HO255 hb
         have n5_ := am (Kd.V_lower (Kd.V_mono (ok' := fun k_ => k_ ≠ gb223 ∧ k_ ≠ gb241 ∧ k_ ≠ gb242 ∧ k_ ≠ gb243) ho0 (fun k_ hk_ => ⟨(Kd.freshB (bk BK223) k_ hk_), (Kd.freshB (bk BK241) k_ hk_), (Kd.freshB (bk BK242) k_ hk_), (Kd.freshB (bk BK243) k_ hk_)⟩)) (below_size (lk HB)))
         have n6_ := bb BK223 hb
         have n7_ := bb BK241 hb
         have n8_ := bb BK242 hb
         have n9_ := bb BK243 hb
         have n10_ := lb HB hb
         clear HO_9
         clear HO_242q0
         clear HO_243q0
         clear HO_244q0
         clear HO255
         clear BK223
         clear BK241
         clear BK242
         clear BK243
         clear HB
         have HO_9 := n0_
         have HO_242q0 := n1_
         have HO_243q0 := n2_
         have HO_244q0 := n3_
         have HO255 := n4_
         have HO258 := n5_
         have BK223 := n6_
         have BK241 := n7_
         have BK242 := n8_
         have BK243 := n9_
         have HB := n10_
         clear n0_ n1_ n2_ n3_ n4_ n5_ n6_ n7_ n8_ n9_ n10_
         (try clear hb)
         (try clear hb2)
         (try clear hk)
         (try clear hi)
         (try clear ho0)
         obtain ⟨Ao67, co67, eo67⟩ := Kd.V_slice HO_244q0.out
         (first | subst eo67 | (injection eo67 with f1_ f2_ f3_; have f4_ := f1_.symm; have f5_ := f3_.symm; clear f1_ f2_ f3_; subst f4_; subst f5_))
         refine hK.out _ _ ⟨(blk_cell BK241.out 0).trans rfl, (blk_cell BK243.out 0).trans rfl⟩ (fun hHeld => ?_)
         clear hK K
         refine norm_ (a' := ?_) ?_ ?_
         rotate_left
         ·
          show Act.put _ (some 56) _ = _
          exact pz
         refine one_ (i := 8) (N := some 59) #[true, true, true, true, true, true, true, true, true, false, false, false] rfl rfl (one_of HT_.out (by kernel_rfl)) (by decide) (fun K hK => ?_)
         refine goes_ Tryd.func46 (by kernel_rfl) rfl #[.slice Ao67 x244q0_36.length co67, .int .i64 t228] (by rfl) rfl rfl (by (try simp only [List.map_toArray, List.map_cons, List.map_nil]); first | done | rfl | (simp only [List.length_drop, List.length_take]; rfl) | (simp [Act.eval, Hd.wrap_u8]; done)) ?_
         with_reducible refine (num_nat_up.calls kj36 _ _ x244q0_36 t228 t259 _ ?side1 ?side2 A61.out).mono ?_
         (case side1 => exact ck (Kd.V_reads' HO_244q0.out).2.2)
         (case side2 => exact (Kd.V_reads' HO_244q0.out).2.1)
         rintro e w68 ⟨v260, rfl, ho0, hb⟩
         refine ⟨_, rfl, ?_⟩
         have n0_ := vb HO_9 hb
         have n1_ := vb HO_242q0 hb
         have n2_ := vb HO_243q0 hb
         have n3_ := vb HO_244q0 hb
         have n4_ := vb HO255 hb
         have n5_ := vb HO258 hb
         have n6_ := am (Kd.V_lower (Kd.V_mono (ok' := fun k_ => k_ ≠ gb223 ∧ k_ ≠ gb241 ∧ k_ ≠ gb242 ∧ k_ ≠ gb243) ho0 (fun k_ hk_ => ⟨(Kd.freshB (bk BK223) k_ hk_), (Kd.freshB (bk BK241) k_ hk_), (Kd.freshB (bk BK242) k_ hk_), (Kd.freshB (bk BK243) k_ hk_)⟩)) (below_size (lk HB)))
         have n7_ := bb BK223 hb
         have n8_ := bb BK241 hb
         have n9_ := bb BK242 hb
         have n10_ := bb BK243 hb
         have n11_ := lb HB hb
         clear HO_9
         clear HO_242q0
         clear HO_243q0
         clear HO_244q0
         clear HO255
         clear HO258
         clear BK223
         clear BK241
         clear BK242
         clear BK243
         clear HB
         have HO_9 := n0_
         have HO_242q0 := n1_
         have HO_243q0 := n2_
         have HO_244q0 := n3_
         have HO255 := n4_
         have HO258 := n5_
         have HO261 := n6_
         have BK223 := n7_
         have BK241 := n8_
         have BK242 := n9_
         have BK243 := n10_
         have HB := n11_
         clear n0_ n1_ n2_ n3_ n4_ n5_ n6_ n7_ n8_ n9_ n10_ n11_
         (try clear hb)
         (try clear hb2)
         (try clear hk)
         (try clear hi)
         (try clear ho0)
         obtain ⟨Ao69, co69, eo69⟩ := Kd.V_slice HO255.out
         (first | subst eo69 | (injection eo69 with f1_ f2_ f3_; have f4_ := f1_.symm; have f5_ := f3_.symm; clear f1_ f2_ f3_; subst f4_; subst f5_))
         obtain ⟨Ao71, co71, eo71⟩ := Kd.V_slice HO261.out
         (first | subst eo71 | (injection eo71 with f1_ f2_ f3_; have f4_ := f1_.symm; have f5_ := f3_.symm; clear f1_ f2_ f3_; subst f4_; subst f5_))
         refine hK.out _ _ ⟨(blk_cell BK241.out 0).trans rfl, (blk_cell BK243.out 0).trans rfl⟩ (fun hHeld => ?_)
         clear hK K
         refine norm_ (a' := ?_) ?_ ?_
         rotate_left
         ·
          show Act.put _ (some 59) _ = _
          exact pz
         refine last_ (i := 9) (N := none) #[true, true, true, true, true, true, true, true, true, true, false, false] rfl rfl (one_of HT_.out (by kernel_rfl)) (by decide) (fun K hK => ?_)
         have hs70 : w68.cell? ⟨gb241, 0, none⟩ = some (.slice Ao63 x242q0_36.length co63) := (blk_cell BK241.out 0).trans rfl
         have hfs70 := blk_frozen BK241.out 0
         have hns70_0 := NB223_241.out
         have hns70_2 := NB242_241.out
         have hns70_3 := NB243_241.out
         have hms70_0 := NB241_223.out
         have hms70_2 := NB241_242.out
         have hms70_3 := NB241_243.out
         refine skip_ (w1 := ?_) (by rfl) rfl ?_ ?_
         rotate_left
         ·
          go_simp
          rfl
         refine hK.out _ _ ?_
         clear hK K
         refine pure_ (i := 10) (N := some 9) (v := ?_) (a' := ?_) #[true, true, true, true, true, true, true, true, true, true, true, false] rfl rfl (any_of HT_.out (by kernel_rfl)) (fun _ _ _ h => h) (Or.inl ⟨by rfl, ?_⟩) ?_ ?_
         rotate_left
         ·
          intro w'
          go_simp
          with_reducible rfl
         rotate_left
         ·
          exact pz
         refine last_ (i := 11) (N := none) #[true, true, true, true, true, true, true, true, true, true, true, true] rfl rfl (one_of HT_.out (by kernel_rfl)) (by decide) (fun K hK => ?_)
         have hs72 : w68.cell? ⟨gb243, 0, none⟩ = some (.slice Ao67 x244q0_36.length co67) := (blk_cell BK243.out 0).trans rfl
         have hfs72 := blk_frozen BK243.out 0
         have hns72_0 := NB223_243.out
         have hns72_1 := NB241_243.out
         have hns72_2 := NB242_243.out
         have hms72_0 := NB243_223.out
         have hms72_1 := NB243_241.out
         have hms72_2 := NB243_242.out
         refine skip_ (w1 := ?_) (by rfl) rfl ?_ ?_
         rotate_left
         ·
          go_simp
          rfl
         refine hK.out _ _ ?_
         clear hK K
         refine done_ (done_of HT_.out (by kernel_rfl)) ?_
         (first | refine Hd.letter_ (fun w73 hw => ?_) | refine Hd.letterL_ (fun w73 hw => ?_) | refine Hd.letterE_ (fun w73 hw => ?_))
         have n0_ : Aside0 (Kd.V (Kd.int .u32) 102 w73 w.heap.size (fun k_ => k_ ≠ gb223 ∧ k_ ≠ gb241 ∧ k_ ≠ gb242 ∧ k_ ≠ gb243) (.slice Ao65 t235.length co65) t235) := ⟨by rw [hw]; exact (by exact vy <| Kd.V_mono (Kd.V_far (p := ⟨gb243, 0, none⟩) (Kd.V_far (p := ⟨gb241, 0, none⟩) (Kd.V_mono (Kd.V_mono HO_9.out (fun k_ hk => (⟨hk, hk.2.1⟩ : _ ∧ k_ ≠ gb241))) (fun k_ hk => (⟨hk, hk.1.2.2.2⟩ : _ ∧ k_ ≠ gb243))) (fun _ hk => hk.1.2) (.slice Ao69 t253.length co69)) (fun _ hk => hk.2) (.slice Ao71 t259.length co71)) (fun _ hk => ⟨hk.1.1.1, ⟨hk.1.1.2.1, ⟨hk.1.1.2.2.1, hk.1.1.2.2.2⟩⟩⟩))⟩
         have n1_ : Aside0 (Kd.V (Kd.int .u32) 102 w73 w.heap.size (fun k_ => k_ ≠ gb223 ∧ k_ ≠ gb241 ∧ k_ ≠ gb242 ∧ k_ ≠ gb243) (.slice Ao63 x242q0_36.length co63) x242q0_36) := ⟨by rw [hw]; exact (by exact vy <| Kd.V_mono (Kd.V_far (p := ⟨gb243, 0, none⟩) (Kd.V_far (p := ⟨gb241, 0, none⟩) (Kd.V_mono (Kd.V_mono HO_242q0.out (fun k_ hk => (⟨hk, hk.2.1⟩ : _ ∧ k_ ≠ gb241))) (fun k_ hk => (⟨hk, hk.1.2.2.2⟩ : _ ∧ k_ ≠ gb243))) (fun _ hk => hk.1.2) (.slice Ao69 t253.length co69)) (fun _ hk => hk.2) (.slice Ao71 t259.length co71)) (fun _ hk => ⟨hk.1.1.1, ⟨hk.1.1.2.1, ⟨hk.1.1.2.2.1, hk.1.1.2.2.2⟩⟩⟩))⟩
         have n2_ : Aside0 (Kd.V (Kd.int .u32) 102 w73 w.heap.size (fun k_ => k_ ≠ gb223 ∧ k_ ≠ gb241 ∧ k_ ≠ gb242 ∧ k_ ≠ gb243) u243000 x243q0_36) := ⟨by rw [hw]; exact (by exact vy <| Kd.V_mono (Kd.V_far (p := ⟨gb243, 0, none⟩) (Kd.V_far (p := ⟨gb241, 0, none⟩) (Kd.V_mono (Kd.V_mono HO_243q0.out (fun k_ hk => (⟨hk, hk.2.1⟩ : _ ∧ k_ ≠ gb241))) (fun k_ hk => (⟨hk, hk.1.2.2.2⟩ : _ ∧ k_ ≠ gb243))) (fun _ hk => hk.1.2) (.slice Ao69 t253.length co69)) (fun _ hk => hk.2) (.slice Ao71 t259.length co71)) (fun _ hk => ⟨hk.1.1.1, ⟨hk.1.1.2.1, ⟨hk.1.1.2.2.1, hk.1.1.2.2.2⟩⟩⟩))⟩
         have n3_ : Aside0 (Kd.V (Kd.int .u32) 102 w73 w.heap.size (fun k_ => k_ ≠ gb223 ∧ k_ ≠ gb241 ∧ k_ ≠ gb242 ∧ k_ ≠ gb243) (.slice Ao67 x244q0_36.length co67) x244q0_36) := ⟨by rw [hw]; exact (by exact vy <| Kd.V_mono (Kd.V_far (p := ⟨gb243, 0, none⟩) (Kd.V_far (p := ⟨gb241, 0, none⟩) (Kd.V_mono (Kd.V_mono HO_244q0.out (fun k_ hk => (⟨hk, hk.2.1⟩ : _ ∧ k_ ≠ gb241))) (fun k_ hk => (⟨hk, hk.1.2.2.2⟩ : _ ∧ k_ ≠ gb243))) (fun _ hk => hk.1.2) (.slice Ao69 t253.length co69)) (fun _ hk => hk.2) (.slice Ao71 t259.length co71)) (fun _ hk => ⟨hk.1.1.1, ⟨hk.1.1.2.1, ⟨hk.1.1.2.2.1, hk.1.1.2.2.2⟩⟩⟩))⟩
         have n4_ : Aside0 (Kd.V (Kd.int .u32) 102 w73 w.heap.size (fun k_ => k_ ≠ gb223 ∧ k_ ≠ gb241 ∧ k_ ≠ gb242 ∧ k_ ≠ gb243) (.slice Ao69 t253.length co69) t253) := ⟨by rw [hw]; exact (by exact vy <| Kd.V_mono (Kd.V_far (p := ⟨gb243, 0, none⟩) (Kd.V_far (p := ⟨gb241, 0, none⟩) (Kd.V_mono (Kd.V_mono HO255.out (fun k_ hk => (⟨hk, hk.2.1⟩ : _ ∧ k_ ≠ gb241))) (fun k_ hk => (⟨hk, hk.1.2.2.2⟩ : _ ∧ k_ ≠ gb243))) (fun _ hk => hk.1.2) (.slice Ao69 t253.length co69)) (fun _ hk => hk.2) (.slice Ao71 t259.length co71)) (fun _ hk => ⟨hk.1.1.1, ⟨hk.1.1.2.1, ⟨hk.1.1.2.2.1, hk.1.1.2.2.2⟩⟩⟩))⟩
         have n5_ : Aside0 (Kd.V (Kd.int .u32) 102 w73 w.heap.size (fun k_ => k_ ≠ gb223 ∧ k_ ≠ gb241 ∧ k_ ≠ gb242 ∧ k_ ≠ gb243) v257 t256) := ⟨by rw [hw]; exact (by exact vy <| Kd.V_mono (Kd.V_far (p := ⟨gb243, 0, none⟩) (Kd.V_far (p := ⟨gb241, 0, none⟩) (Kd.V_mono (Kd.V_mono HO258.out (fun k_ hk => (⟨hk, hk.2.1⟩ : _ ∧ k_ ≠ gb241))) (fun k_ hk => (⟨hk, hk.1.2.2.2⟩ : _ ∧ k_ ≠ gb243))) (fun _ hk => hk.1.2) (.slice Ao69 t253.length co69)) (fun _ hk => hk.2) (.slice Ao71 t259.length co71)) (fun _ hk => ⟨hk.1.1.1, ⟨hk.1.1.2.1, ⟨hk.1.1.2.2.1, hk.1.1.2.2.2⟩⟩⟩))⟩
         have n6_ : Aside0 (Kd.V (Kd.int .u32) 102 w73 w.heap.size (fun k_ => k_ ≠ gb223 ∧ k_ ≠ gb241 ∧ k_ ≠ gb242 ∧ k_ ≠ gb243) (.slice Ao71 t259.length co71) t259) := ⟨by rw [hw]; exact (by exact vy <| Kd.V_mono (Kd.V_far (p := ⟨gb243, 0, none⟩) (Kd.V_far (p := ⟨gb241, 0, none⟩) (Kd.V_mono (Kd.V_mono HO261.out (fun k_ hk => (⟨hk, hk.2.1⟩ : _ ∧ k_ ≠ gb241))) (fun k_ hk => (⟨hk, hk.1.2.2.2⟩ : _ ∧ k_ ≠ gb243))) (fun _ hk => hk.1.2) (.slice Ao69 t253.length co69)) (fun _ hk => hk.2) (.slice Ao71 t259.length co71)) (fun _ hk => ⟨hk.1.1.1, ⟨hk.1.1.2.1, ⟨hk.1.1.2.2.1, hk.1.1.2.2.2⟩⟩⟩))⟩
         have n7_ : Aside0 (w73.heap[gb223]? = some (.cells #[.int .i64 0] 3 (0, 0))) := ⟨by rw [hw]; exact (by refine bf NB223_243 ?_; refine bf NB223_241 ?_; exact bk BK223)⟩
         have n8_ : Aside0 (w73.heap[gb241]? = some (.cells #[.slice Ao69 t253.length co69] 56 (0, 0))) := ⟨by rw [hw]; exact (by refine bf NB241_243 ?_; (with_reducible repeat (first | refine blk_drewN ?_ _ | refine blk_drew ?_ | refine blk_alloc ?_ _)); refine blk_put (cs := #[.slice Ao63 x242q0_36.length co63]) ?_ 0 _ rfl; exact bk BK241)⟩
         have n9_ : Aside0 (w73.heap[gb242]? = some (.cells #[u243000] 56 (0, 0))) := ⟨by rw [hw]; exact (by refine bf NB242_243 ?_; refine bf NB242_241 ?_; exact bk BK242)⟩
         have n10_ : Aside0 (w73.heap[gb243]? = some (.cells #[.slice Ao71 t259.length co71] 56 (0, 0))) := ⟨by rw [hw]; exact (by (with_reducible repeat (first | refine blk_drewN ?_ _ | refine blk_drew ?_ | refine blk_alloc ?_ _)); refine blk_put (cs := #[.slice Ao67 x244q0_36.length co67]) ?_ 0 _ rfl; refine bf NB243_241 ?_; exact bk BK243)⟩
         have n11_ : Aside0 (Below w.heap.size w w73) := ⟨by rw [hw]; exact (lk HB)⟩
         clear hw
         (try clear HO_9)
         (try clear HO_242q0)
         (try clear HO_243q0)
         (try clear HO_244q0)
         (try clear HO255)
         (try clear HO258)
         (try clear HO261)
         (try clear BK223)
         (try clear BK241)
         (try clear BK242)
         (try clear BK243)
         (try clear HB)
         have HO_9 := n0_
         have HO_242q0 := n1_
         have HO_243q0 := n2_
         have HO_244q0 := n3_
         have HO255 := n4_
         have HO258 := n5_
         have HO261 := n6_
         have BK223 := n7_
         have BK241 := n8_
         have BK242 := n9_
         have BK243 := n10_
         have HB := n11_
         clear n0_ n1_ n2_ n3_ n4_ n5_ n6_ n7_ n8_ n9_ n10_ n11_
         try go_wp2
         go_meet
         case rel => exact ⟨_, (t256), (t253), (x243q0_36), (t259), (.slice Ao69 t253.length co69), (u243000), (.slice Ao71 t259.length co71), H', ⟨by have := HJ2.out; have := HJ15.out; have := HJ36.out; first | omega | exact Nat.le_refl _⟩, ⟨vk HO258⟩, ⟨vk HO255⟩, ⟨vk HO_243q0⟩, ⟨vk HO261⟩, ⟨bk BK223⟩, ⟨bk BK241⟩, ⟨bk BK242⟩, ⟨bk BK243⟩, ⟨lk HB⟩⟩
        rw [if_neg c58] at H
        have c58b0 : decide (0 ≤ t228) = false := decide_eq_false c58
        clear c58
        (first | rw [c58b0] | (simp only [i64_w, i32_w]; rw [c58b0]) | skip)
        replace H := bm H
        obtain ⟨t262, A740, H⟩ := H
        replace H : (num_Digits.j3 kj36 t224 t227 t235 x242q0_36 t262 x244q0_36) = some (r1, r2, r3) := H
        have A74 := am A740
        clear A740
        have H' := am H
        clear H
        have hnb75 := NB242_223.out
        have hnc75 := NB223_242.out
        have hnb76 := NB242_241.out
        have hnc76 := NB241_242.out
        have hnb77 := NB242_243.out
        have hnc77 := NB243_242.out
        have hcz78_0 : wc.cell? ⟨gb242, 0, none⟩ = some (u243000) := (blk_cell BK242.out 0).trans rfl
        have hfz78_0 := blk_frozen BK242.out 0
        obtain ⟨Ao79, co79, eo79⟩ := Kd.V_slice HO_243q0.out
        subst eo79
        go_wp2_with (first | ((with_reducible refine gate_callee (f := 46) rfl ?_); refine gL (some 63) Tryd.func46 #[.slice Ao79 x243q0_36.length co79, .int .i64 (wrap64 (-t228))] ?_; (with_reducible refine (num_nat_up.calls kj36 _ _ x243q0_36 (wrap64 (-t228)) t262 _ ?side1 ?side2 A74.out).mono ?_); (case side1 => exact ck (Kd.V_reads' HO_243q0.out).2.2); (case side2 => exact (Kd.V_reads' HO_243q0.out).2.1); rintro e w80 ⟨v263, rfl, ho0, hb⟩; refine ⟨_, rfl, ?_⟩; replace HO_9 := vb HO_9 hb; replace HO_242q0 := vb HO_242q0 hb; replace HO_243q0 := vb HO_243q0 hb; replace HO_244q0 := vb HO_244q0 hb; have HO264 := am (Kd.V_lower (Kd.V_mono (ok' := fun k_ => k_ ≠ gb223 ∧ k_ ≠ gb241 ∧ k_ ≠ gb242 ∧ k_ ≠ gb243) ho0 (fun k_ hk_ => ⟨(Kd.freshB (bk BK223) k_ hk_), (Kd.freshB (bk BK241) k_ hk_), (Kd.freshB (bk BK242) k_ hk_), (Kd.freshB (bk BK243) k_ hk_)⟩)) (below_size (lk HB))); replace BK223 := bb BK223 hb; replace BK241 := bb BK241 hb; replace BK242 := bb BK242 hb; replace BK243 := bb BK243 hb; replace HB := lb HB hb; obtain ⟨Ao81, co81, eo81⟩ := Kd.V_slice HO264.out; subst eo81; have hcz82_0 : w80.cell? ⟨gb242, 0, none⟩ = some (.slice Ao79 x243q0_36.length co79) := (blk_cell BK242.out 0).trans rfl; have hfz82_0 := blk_frozen BK242.out 0))
        go_meet
        case rel => exact ⟨_, (t235), (x242q0_36), (t262), (x244q0_36), (u242000), (.slice Ao81 t262.length co81), (u244000), H', ⟨by have := HJ2.out; have := HJ15.out; have := HJ36.out; first | omega | exact Nat.le_refl _⟩, ⟨by exact vy <| Kd.V_mono (Kd.V_far (p := ⟨gb242, 0, none⟩) (Kd.V_mono HO_9.out (fun k_ hk => (⟨hk, hk.2.2.1⟩ : _ ∧ k_ ≠ gb242))) (fun _ hk => hk.2) (.slice Ao81 t262.length co81)) (fun _ hk => ⟨hk.1.1, ⟨hk.1.2.1, ⟨hk.1.2.2.1, hk.1.2.2.2⟩⟩⟩)⟩, ⟨by exact vy <| Kd.V_mono (Kd.V_far (p := ⟨gb242, 0, none⟩) (Kd.V_mono HO_242q0.out (fun k_ hk => (⟨hk, hk.2.2.1⟩ : _ ∧ k_ ≠ gb242))) (fun _ hk => hk.2) (.slice Ao81 t262.length co81)) (fun _ hk => ⟨hk.1.1, ⟨hk.1.2.1, ⟨hk.1.2.2.1, hk.1.2.2.2⟩⟩⟩)⟩, ⟨by exact vy <| Kd.V_mono (Kd.V_far (p := ⟨gb242, 0, none⟩) (Kd.V_mono HO264.out (fun k_ hk => (⟨hk, hk.2.2.1⟩ : _ ∧ k_ ≠ gb242))) (fun _ hk => hk.2) (.slice Ao81 t262.length co81)) (fun _ hk => ⟨hk.1.1, ⟨hk.1.2.1, ⟨hk.1.2.2.1, hk.1.2.2.2⟩⟩⟩)⟩, ⟨by exact vy <| Kd.V_mono (Kd.V_far (p := ⟨gb242, 0, none⟩) (Kd.V_mono HO_244q0.out (fun k_ hk => (⟨hk, hk.2.2.1⟩ : _ ∧ k_ ≠ gb242))) (fun _ hk => hk.2) (.slice Ao81 t262.length co81)) (fun _ hk => ⟨hk.1.1, ⟨hk.1.2.1, ⟨hk.1.2.2.1, hk.1.2.2.2⟩⟩⟩)⟩, ⟨by refine bf NB223_242 ?_; exact bk BK223⟩, ⟨by refine bf NB241_242 ?_; exact bk BK241⟩, ⟨by (with_reducible repeat (first | refine blk_drewN ?_ _ | refine blk_drew ?_ | refine blk_alloc ?_ _)); refine blk_put (cs := #[.slice Ao79 x243q0_36.length co79]) ?_ 0 _ rfl; exact bk BK242⟩, ⟨by refine bf NB243_242 ?_; exact bk BK243⟩, ⟨lk HB⟩⟩
       case rest =>
        clear HC57
        obtain ⟨kq, x9_56, x242q0_56, x243q0_56, x244q0_56, u242000, u243000, u244000, HA, HJ56, HO_9, HO_242q0, HO_243q0, HO_244q0, BK223, BK241, BK242, BK243, HB⟩ := hcut
        cases kq with
        | zero => exact absurd HA.out (by simp [num_Digits.j3])
        | succ kj56 =>
         have H := HA.out
         clear HA
         simp only [num_Digits.j3] at H
         replace H := bm H
         obtain ⟨t266, A830, H⟩ := H
         replace H : ((num_nat_size.f x243q0_56).bind fun t267 => ((FloatKind.f64.format.mul (floatOfInt .f64 (wrap64 ((wrap64 (t266 - t267)) - 1))) 4599094314157230187).bind fun t268 => ((Hd.math_Ceil.f t268).bind fun t269 => ((floatToIntVal .f64 t269 .i64).bind fun t270 => (if t270 ≥ 0 then ((num_nat_tens.f kj56 x243q0_56 t270).bind fun t271 => (num_Digits.j4 kj56 t224 x9_56 t270 x242q0_56 t271 x244q0_56 ((Int.tmod t227 2) == 0))) else ((num_nat_tens.f kj56 x242q0_56 (wrap64 (-t270))).bind fun t274 => ((num_nat_tens.f kj56 x9_56 (wrap64 (-t270))).bind fun t277 => ((num_nat_tens.f kj56 x244q0_56 (wrap64 (-t270))).bind fun t280 => (num_Digits.j4 kj56 t224 t277 t270 t274 x243q0_56 t280 ((Int.tmod t227 2) == 0)))))))))) = some (r1, r2, r3) := H
         have A83 := am A830
         clear A830
         replace H := bm H
         obtain ⟨t267, A840, H⟩ := H
         replace H : ((FloatKind.f64.format.mul (floatOfInt .f64 (wrap64 ((wrap64 (t266 - t267)) - 1))) 4599094314157230187).bind fun t268 => ((Hd.math_Ceil.f t268).bind fun t269 => ((floatToIntVal .f64 t269 .i64).bind fun t270 => (if t270 ≥ 0 then ((num_nat_tens.f kj56 x243q0_56 t270).bind fun t271 => (num_Digits.j4 kj56 t224 x9_56 t270 x242q0_56 t271 x244q0_56 ((Int.tmod t227 2) == 0))) else ((num_nat_tens.f kj56 x242q0_56 (wrap64 (-t270))).bind fun t274 => ((num_nat_tens.f kj56 x9_56 (wrap64 (-t270))).bind fun t277 => ((num_nat_tens.f kj56 x244q0_56 (wrap64 (-t270))).bind fun t280 => (num_Digits.j4 kj56 t224 t277 t270 t274 x243q0_56 t280 ((Int.tmod t227 2) == 0))))))))) = some (r1, r2, r3) := H
         have A84 := am A840
         clear A840
         replace H := bm H
         obtain ⟨t268, A850, H⟩ := H
         replace H : ((Hd.math_Ceil.f t268).bind fun t269 => ((floatToIntVal .f64 t269 .i64).bind fun t270 => (if t270 ≥ 0 then ((num_nat_tens.f kj56 x243q0_56 t270).bind fun t271 => (num_Digits.j4 kj56 t224 x9_56 t270 x242q0_56 t271 x244q0_56 ((Int.tmod t227 2) == 0))) else ((num_nat_tens.f kj56 x242q0_56 (wrap64 (-t270))).bind fun t274 => ((num_nat_tens.f kj56 x9_56 (wrap64 (-t270))).bind fun t277 => ((num_nat_tens.f kj56 x244q0_56 (wrap64 (-t270))).bind fun t280 => (num_Digits.j4 kj56 t224 t277 t270 t274 x243q0_56 t280 ((Int.tmod t227 2) == 0)))))))) = some (r1, r2, r3) := H
         have hA85 := fun (w_ : World) => run_float_arith (P := Tryd.prog) w_ .mul 23 .f64 (floatOfInt .f64 (wrap64 ((wrap64 (t266 - t267)) - 1))) 4599094314157230187 t268 A850
         clear A850
         replace H := bm H
         obtain ⟨t269, A860, H⟩ := H
         replace H : ((floatToIntVal .f64 t269 .i64).bind fun t270 => (if t270 ≥ 0 then ((num_nat_tens.f kj56 x243q0_56 t270).bind fun t271 => (num_Digits.j4 kj56 t224 x9_56 t270 x242q0_56 t271 x244q0_56 ((Int.tmod t227 2) == 0))) else ((num_nat_tens.f kj56 x242q0_56 (wrap64 (-t270))).bind fun t274 => ((num_nat_tens.f kj56 x9_56 (wrap64 (-t270))).bind fun t277 => ((num_nat_tens.f kj56 x244q0_56 (wrap64 (-t270))).bind fun t280 => (num_Digits.j4 kj56 t224 t277 t270 t274 x243q0_56 t280 ((Int.tmod t227 2) == 0))))))) = some (r1, r2, r3) := H
         have A86 := am A860
         clear A860
         replace H := bm H
         obtain ⟨t270, A870, H⟩ := H
         replace H : (if t270 ≥ 0 then ((num_nat_tens.f kj56 x243q0_56 t270).bind fun t271 => (num_Digits.j4 kj56 t224 x9_56 t270 x242q0_56 t271 x244q0_56 ((Int.tmod t227 2) == 0))) else ((num_nat_tens.f kj56 x242q0_56 (wrap64 (-t270))).bind fun t274 => ((num_nat_tens.f kj56 x9_56 (wrap64 (-t270))).bind fun t277 => ((num_nat_tens.f kj56 x244q0_56 (wrap64 (-t270))).bind fun t280 => (num_Digits.j4 kj56 t224 t277 t270 t274 x243q0_56 t280 ((Int.tmod t227 2) == 0)))))) = some (r1, r2, r3) := H
         have hA87 := fun (w_ : World) => run_convert_float_int (P := Tryd.prog) w_ 23 3 .f64 .i64 t269 t270 (by rw [Tryd.underlying23]; rfl) Tryd.underlying3 A870
         clear A870
         have HC88 := am H
         clear H
         try go_wp2_with (first | ((with_reducible refine gate_dst (N := 11) rfl ?_); refine box_event ?hg (N := 11) ?hd (cs := #[.bool false]) (t := 4) ?hr ?_; (case hd => rfl); (case hg => rfl); (case hr => first | (go_simp; done) | (go_simp; rfl)); intro gb265 hg w89 hbox hb; replace HO_9 := am (Kd.V_below (Kd.V_elderB (vk HO_9) gb265 (Nat.le_of_eq hg.symm)) hb); replace HO_242q0 := am (Kd.V_below (Kd.V_elderB (vk HO_242q0) gb265 (Nat.le_of_eq hg.symm)) hb); replace HO_243q0 := am (Kd.V_below (Kd.V_elderB (vk HO_243q0) gb265 (Nat.le_of_eq hg.symm)) hb); replace HO_244q0 := am (Kd.V_below (Kd.V_elderB (vk HO_244q0) gb265 (Nat.le_of_eq hg.symm)) hb); have BK265 := am (hbox); have GW265 := am ((by rw [hg]; exact (below_size (lk HB)) : w.heap.size ≤ gb265)); have GE265 := GW265; replace HB := lb HB hb; have NB223_265 := am ((by rw [hg]; exact Nat.ne_of_lt (blk_lt (bk BK223)) : gb223 ≠ gb265)); have NB265_223 := am ((by rw [hg]; exact Nat.ne_of_gt (blk_lt (bk BK223)) : gb265 ≠ gb223)); replace BK223 := bb BK223 hb; have NB241_265 := am ((by rw [hg]; exact Nat.ne_of_lt (blk_lt (bk BK241)) : gb241 ≠ gb265)); have NB265_241 := am ((by rw [hg]; exact Nat.ne_of_gt (blk_lt (bk BK241)) : gb265 ≠ gb241)); replace BK241 := bb BK241 hb; have NB242_265 := am ((by rw [hg]; exact Nat.ne_of_lt (blk_lt (bk BK242)) : gb242 ≠ gb265)); have NB265_242 := am ((by rw [hg]; exact Nat.ne_of_gt (blk_lt (bk BK242)) : gb265 ≠ gb242)); replace BK242 := bb BK242 hb; have NB243_265 := am ((by rw [hg]; exact Nat.ne_of_lt (blk_lt (bk BK243)) : gb243 ≠ gb265)); have NB265_243 := am ((by rw [hg]; exact Nat.ne_of_gt (blk_lt (bk BK243)) : gb265 ≠ gb243)); replace BK243 := bb BK243 hb; clear hb hbox hg; have hnb90 := NB265_223.out; have hnc90 := NB223_265.out; have hnb91 := NB265_241.out; have hnc91 := NB241_265.out; have hnb92 := NB265_242.out; have hnc92 := NB242_265.out; have hnb93 := NB265_243.out; have hnc93 := NB243_265.out; have hcz94_0 : w89.cell? ⟨gb265, 0, none⟩ = some (.bool false) := (blk_cell BK265.out 0).trans rfl; have hfz94_0 := blk_frozen BK265.out 0))
         (first | refine Hd.letter_ (fun w95 hw => ?_) | refine Hd.letterL_ (fun w95 hw => ?_) | refine Hd.letterE_ (fun w95 hw => ?_))
         have n0_ : Aside0 (Kd.V (Kd.int .u32) 102 w95 w.heap.size (fun k_ => k_ ≠ gb223 ∧ k_ ≠ gb241 ∧ k_ ≠ gb242 ∧ k_ ≠ gb243 ∧ k_ ≠ gb265) u9 x9_56) := ⟨by rw [hw]; exact (by exact vy <| Kd.V_mono (Kd.V_far (p := ⟨gb265, 0, none⟩) (Kd.V_mono HO_9.out (fun k_ hk => (⟨hk, hk.2⟩ : _ ∧ k_ ≠ gb265))) (fun _ hk => hk.2) (.bool ((Int.tmod t227 2) == 0))) (fun _ hk => ⟨hk.1.1.1, ⟨hk.1.1.2.1, ⟨hk.1.1.2.2.1, ⟨hk.1.1.2.2.2, hk.1.2⟩⟩⟩⟩))⟩
         have n1_ : Aside0 (Kd.V (Kd.int .u32) 102 w95 w.heap.size (fun k_ => k_ ≠ gb223 ∧ k_ ≠ gb241 ∧ k_ ≠ gb242 ∧ k_ ≠ gb243 ∧ k_ ≠ gb265) u242000 x242q0_56) := ⟨by rw [hw]; exact (by exact vy <| Kd.V_mono (Kd.V_far (p := ⟨gb265, 0, none⟩) (Kd.V_mono HO_242q0.out (fun k_ hk => (⟨hk, hk.2⟩ : _ ∧ k_ ≠ gb265))) (fun _ hk => hk.2) (.bool ((Int.tmod t227 2) == 0))) (fun _ hk => ⟨hk.1.1.1, ⟨hk.1.1.2.1, ⟨hk.1.1.2.2.1, ⟨hk.1.1.2.2.2, hk.1.2⟩⟩⟩⟩))⟩
         have n2_ : Aside0 (Kd.V (Kd.int .u32) 102 w95 w.heap.size (fun k_ => k_ ≠ gb223 ∧ k_ ≠ gb241 ∧ k_ ≠ gb242 ∧ k_ ≠ gb243 ∧ k_ ≠ gb265) u243000 x243q0_56) := ⟨by rw [hw]; exact (by exact vy <| Kd.V_mono (Kd.V_far (p := ⟨gb265, 0, none⟩) (Kd.V_mono HO_243q0.out (fun k_ hk => (⟨hk, hk.2⟩ : _ ∧ k_ ≠ gb265))) (fun _ hk => hk.2) (.bool ((Int.tmod t227 2) == 0))) (fun _ hk => ⟨hk.1.1.1, ⟨hk.1.1.2.1, ⟨hk.1.1.2.2.1, ⟨hk.1.1.2.2.2, hk.1.2⟩⟩⟩⟩))⟩
         have n3_ : Aside0 (Kd.V (Kd.int .u32) 102 w95 w.heap.size (fun k_ => k_ ≠ gb223 ∧ k_ ≠ gb241 ∧ k_ ≠ gb242 ∧ k_ ≠ gb243 ∧ k_ ≠ gb265) u244000 x244q0_56) := ⟨by rw [hw]; exact (by exact vy <| Kd.V_mono (Kd.V_far (p := ⟨gb265, 0, none⟩) (Kd.V_mono HO_244q0.out (fun k_ hk => (⟨hk, hk.2⟩ : _ ∧ k_ ≠ gb265))) (fun _ hk => hk.2) (.bool ((Int.tmod t227 2) == 0))) (fun _ hk => ⟨hk.1.1.1, ⟨hk.1.1.2.1, ⟨hk.1.1.2.2.1, ⟨hk.1.1.2.2.2, hk.1.2⟩⟩⟩⟩))⟩
         have n4_ : Aside0 (w95.heap[gb223]? = some (.cells #[.int .i64 0] 3 (0, 0))) := ⟨by rw [hw]; exact (by refine bf NB223_265 ?_; exact bk BK223)⟩
         have n5_ : Aside0 (w95.heap[gb241]? = some (.cells #[u242000] 56 (0, 0))) := ⟨by rw [hw]; exact (by refine bf NB241_265 ?_; exact bk BK241)⟩
         have n6_ : Aside0 (w95.heap[gb242]? = some (.cells #[u243000] 56 (0, 0))) := ⟨by rw [hw]; exact (by refine bf NB242_265 ?_; exact bk BK242)⟩
         have n7_ : Aside0 (w95.heap[gb243]? = some (.cells #[u244000] 56 (0, 0))) := ⟨by rw [hw]; exact (by refine bf NB243_265 ?_; exact bk BK243)⟩
         have n8_ : Aside0 (w95.heap[gb265]? = some (.cells #[.bool ((Int.tmod t227 2) == 0)] 4 (0, 0))) := ⟨by rw [hw]; exact (by (with_reducible repeat (first | refine blk_drewN ?_ _ | refine blk_drew ?_ | refine blk_alloc ?_ _)); refine blk_put (cs := #[.bool false]) ?_ 0 _ rfl; exact bk BK265)⟩
         have n9_ : Aside0 (Below w.heap.size w w95) := ⟨by rw [hw]; exact (lk HB)⟩
         clear hw
         (try clear HO_9)
         (try clear HO_242q0)
         (try clear HO_243q0)
         (try clear HO_244q0)
         (try clear BK223)
         (try clear BK241)
         (try clear BK242)
         (try clear BK243)
         (try clear BK265)
         (try clear HB)
         have HO_9 := n0_
         have HO_242q0 := n1_
         have HO_243q0 := n2_
         have HO_244q0 := n3_
         have BK223 := n4_
         have BK241 := n5_
         have BK242 := n6_
         have BK243 := n7_
         have BK265 := n8_
         have HB := n9_
         clear n0_ n1_ n2_ n3_ n4_ n5_ n6_ n7_ n8_ n9_
         have n0_ := am (Kd.V_drew HO_9.out)
         have n1_ := am (Kd.V_drew HO_242q0.out)
         have n2_ := am (Kd.V_drew HO_243q0.out)
         have n3_ := am (Kd.V_drew HO_244q0.out)
         have n4_ := am (blk_drew BK223.out)
         have n5_ := am (blk_drew BK241.out)
         have n6_ := am (blk_drew BK242.out)
         have n7_ := am (blk_drew BK243.out)
         have n8_ := am (blk_drew BK265.out)
         have n9_ := am (below_drew1 HB.out)
         clear HO_9
         clear HO_242q0
         clear HO_243q0
         clear HO_244q0
         clear BK223
         clear BK241
         clear BK242
         clear BK243
         clear BK265
         clear HB
         have HO_9 := n0_
         have HO_242q0 := n1_
         have HO_243q0 := n2_
         have HO_244q0 := n3_
         have BK223 := n4_
         have BK241 := n5_
         have BK242 := n6_
         have BK243 := n7_
         have BK265 := n8_
         have HB := n9_
         clear n0_ n1_ n2_ n3_ n4_ n5_ n6_ n7_ n8_ n9_
         obtain ⟨Ao97, co97, eo97⟩ := Kd.V_slice HO_242q0.out
         (first | subst eo97 | (injection eo97 with f1_ f2_ f3_; have f4_ := f1_.symm; have f5_ := f3_.symm; clear f1_ f2_ f3_; subst f4_; subst f5_))
         refine start_ (n := 11) (S := fun w' => w'.cell? ⟨gb241, 0, none⟩ = some (.slice Ao97 x242q0_56.length co97) ∧ w'.cell? ⟨gb242, 0, none⟩ = some (u243000)) (ds := []) #[false, false, false, false, false, false, false, false, false, false, false] (by kernel_rfl) rfl rfl ⟨(blk_cell BK241.out 0).trans rfl, (blk_cell BK242.out 0).trans rfl⟩ (fun hHeld => ?_); refine with_tabW num_Digits.tab13 num_Digits.bits13 (fun HT_ HW_ => ?_)
         generalize w95.drew = w96 at HO_9 HO_242q0 HO_243q0 HO_244q0 BK223 BK241 BK242 BK243 BK265 HB hHeld ⊢
         refine take_ (i := 0) (N := some 68) (v := ?_) (a' := ?_) #[true, false, false, false, false, false, false, false, false, false, false] rfl rfl (take_ofW HT_.out HW_.out (by kernel_rfl)) (fun _ _ _ h => h) (Or.inl ⟨by rfl, ?_⟩) hHeld ?_ ?_
         rotate_left
         ·
          rintro w' ⟨s0, s1⟩
          go_simp
          with_reducible rfl
         rotate_left
         ·
          exact pz
         refine take_ (i := 2) (N := some 70) (v := ?_) (a' := ?_) #[true, false, true, false, false, false, false, false, false, false, false] rfl rfl (take_ofW HT_.out HW_.out (by kernel_rfl)) (fun _ _ _ h => h) (Or.inl ⟨by rfl, ?_⟩) hHeld ?_ ?_
         rotate_left
         ·
          rintro w' ⟨s0, s1⟩
          go_simp
          with_reducible rfl
         rotate_left
         ·
          exact pz
         refine one_ (i := 1) (N := some 69) #[true, true, true, false, false, false, false, false, false, false, false] rfl rfl (one_of HT_.out (by kernel_rfl)) (by decide) (fun K hK => ?_)
         refine goes_ Tryd.func51 (by kernel_rfl) rfl #[.slice Ao97 x242q0_56.length co97] (by rfl) rfl rfl (by (try simp only [List.map_toArray, List.map_cons, List.map_nil]); first | done | rfl | (simp only [List.length_drop, List.length_take]; rfl) | (simp [Act.eval, Hd.wrap_u8]; done)) ?_
         with_reducible refine (num_nat_size.calls _ _ x242q0_56 t266 _ ?side1 ?side2 A83.out).mono ?_
         (case side1 => exact ck (Kd.V_reads' HO_242q0.out).2.2)
         (case side2 => exact (Kd.V_reads' HO_242q0.out).2.1)
         rintro e w' ⟨rfl, ⟨nd, rfl⟩⟩
         refine ⟨_, rfl, ?_⟩
         obtain ⟨Ao98, co98, eo98⟩ := Kd.V_slice HO_243q0.out
         (first | subst eo98 | (injection eo98 with f1_ f2_ f3_; have f4_ := f1_.symm; have f5_ := f3_.symm; clear f1_ f2_ f3_; subst f4_; subst f5_))
         refine hK.out _ _ ⟨(blk_cell BK241.out 0).trans rfl, (blk_cell BK242.out 0).trans rfl⟩ (fun hHeld => ?_)
         clear hK K
         refine norm_ (a' := ?_) ?_ ?_
         rotate_left
         ·
          show Act.put _ (some 69) _ = _
          exact pz
         refine one_ (i := 3) (N := some 71) #[true, true, true, true, false, false, false, false, false, false, false] rfl rfl (one_of HT_.out (by kernel_rfl)) (by decide) (fun K hK => ?_)
         refine goes_ Tryd.func51 (by kernel_rfl) rfl #[.slice Ao98 x243q0_56.length co98] (by rfl) rfl rfl (by (try simp only [List.map_toArray, List.map_cons, List.map_nil]); first | done | rfl | (simp only [List.length_drop, List.length_take]; rfl) | (simp [Act.eval, Hd.wrap_u8]; done)) ?_
         with_reducible refine (num_nat_size.calls _ _ x243q0_56 t267 _ ?side1 ?side2 A84.out).mono ?_
         (case side1 => exact ck (Kd.V_reads' HO_243q0.out).2.2)
         (case side2 => exact (Kd.V_reads' HO_243q0.out).2.1)
         rintro e w' ⟨rfl, ⟨nd, rfl⟩⟩
         refine ⟨_, rfl, ?_⟩
         refine hK.out _ _ ⟨(blk_cell BK241.out 0).trans rfl, (blk_cell BK242.out 0).trans rfl⟩ (fun hHeld => ?_)
         clear hK K
         refine norm_ (a' := ?_) ?_ ?_
         rotate_left
         ·
          show Act.put _ (some 71) _ = _
          exact pz
         refine pure_ (i := 4) (N := some 72) (v := ?_) (a' := ?_) #[true, true, true, true, true, false, false, false, false, false, false] rfl rfl (any_of HT_.out (by kernel_rfl)) (fun _ _ _ h => h) (Or.inl ⟨by rfl, ?_⟩) ?_ ?_
         rotate_left
         ·
          intro w'
          go_simp
          with_reducible rfl
         rotate_left
         ·
          exact pz
         refine pure_ (i := 5) (N := some 73) (v := ?_) (a' := ?_) #[true, true, true, true, true, true, false, false, false, false, false] rfl rfl (any_of HT_.out (by kernel_rfl)) (fun _ _ _ h => h) (Or.inl ⟨by rfl, ?_⟩) ?_ ?_
         rotate_left
         ·
          intro w'
          go_simp
          with_reducible rfl
         rotate_left
         ·
          exact pz
         refine pure_ (i := 6) (N := some 74) (v := ?_) (a' := ?_) #[true, true, true, true, true, true, true, false, false, false, false] rfl rfl (any_of HT_.out (by kernel_rfl)) (fun _ _ _ h => h) (Or.inl ⟨by rfl, ?_⟩) ?_ ?_
         rotate_left
         ·
          intro w'
          go_simp
          with_reducible rfl
         rotate_left
         ·
          exact pz
         refine pure_ (i := 7) (N := some 75) (v := ?_) (a' := ?_) #[true, true, true, true, true, true, true, true, false, false, false] rfl rfl (any_of HT_.out (by kernel_rfl)) (fun _ _ _ h => h) (Or.inl ⟨by rfl, ?_⟩) ?_ ?_
         rotate_left
         ·
          intro w'
          go_simp
          with_reducible rfl
         rotate_left
         ·
          exact pz
         refine one_ (i := 8) (N := some 76) #[true, true, true, true, true, true, true, true, true, false, false] rfl rfl (one_of HT_.out (by kernel_rfl)) (by decide) (fun K hK => ?_)
         refine goes_ Tryd.func50 (by kernel_rfl) rfl #[.float .f64 t268] (by rfl) rfl rfl (by (try simp only [List.map_toArray, List.map_cons, List.map_nil]); first | done | rfl | (simp only [List.length_drop, List.length_take]; rfl) | (simp [Act.eval, Hd.wrap_u8]; done)) ?_
         with_reducible refine (Hd.math_Ceil.calls t268 t269 _ A86.out).mono ?_
         rintro e w' ⟨rfl, ⟨nd, rfl⟩⟩
         refine ⟨_, rfl, ?_⟩
         refine hK.out _ _ ⟨(blk_cell BK241.out 0).trans rfl, (blk_cell BK242.out 0).trans rfl⟩ (fun hHeld => ?_)
         clear hK K
         refine norm_ (a' := ?_) ?_ ?_
         rotate_left
         ·
          show Act.put _ (some 76) _ = _
          exact pz
         refine pure_ (i := 9) (N := some 77) (v := ?_) (a' := ?_) #[true, true, true, true, true, true, true, true, true, true, false] rfl rfl (any_of HT_.out (by kernel_rfl)) (fun _ _ _ h => h) (Or.inl ⟨by rfl, ?_⟩) ?_ ?_
         rotate_left
         ·
          intro w'
          go_simp
          with_reducible rfl
         rotate_left
         ·
          exact pz
         refine one_ (i := 10) (N := none) #[true, true, true, true, true, true, true, true, true, true, true] rfl rfl (one_of HT_.out (by kernel_rfl)) (by decide) (fun K hK => ?_)
         have hs99 : w96.cell? ⟨gb223, 0, none⟩ = some (.int .i64 0) := (blk_cell BK223.out 0).trans rfl
         have hfs99 := blk_frozen BK223.out 0
         have hns99_1 := NB241_223.out
         have hns99_2 := NB242_223.out
         have hns99_3 := NB243_223.out
         have hns99_4 := NB265_223.out
         have hms99_1 := NB223_241.out
         have hms99_2 := NB223_242.out
         have hms99_3 := NB223_243.out
         have hms99_4 := NB223_265.out
         refine skip_ (w1 := ?_) (by rfl) rfl ?_ ?_
         rotate_left
         ·
          go_simp
          rfl
         refine hK.out _ _ ⟨((cell_far (p := ⟨gb223, _, none⟩) NB241_223.out _).trans (hHeld.1)), ((cell_far (p := ⟨gb223, _, none⟩) NB242_223.out _).trans (hHeld.2))⟩ (fun hHeld => ?_)
         clear hK K
         refine done_ (done_of HT_.out (by kernel_rfl)) ?_
         (first | refine Hd.letter_ (fun w100 hw => ?_) | refine Hd.letterL_ (fun w100 hw => ?_) | refine Hd.letterE_ (fun w100 hw => ?_))
         have n0_ : Aside0 (Kd.V (Kd.int .u32) 102 w100 w.heap.size (fun k_ => k_ ≠ gb223 ∧ k_ ≠ gb241 ∧ k_ ≠ gb242 ∧ k_ ≠ gb243 ∧ k_ ≠ gb265) u9 x9_56) := ⟨by rw [hw]; exact (by exact vy <| Kd.V_mono (Kd.V_far (p := ⟨gb223, 0, none⟩) (Kd.V_mono HO_9.out (fun k_ hk => (⟨hk, hk.1⟩ : _ ∧ k_ ≠ gb223))) (fun _ hk => hk.2) (.int .i64 t270)) (fun _ hk => ⟨hk.1.1, ⟨hk.1.2.1, ⟨hk.1.2.2.1, ⟨hk.1.2.2.2.1, hk.1.2.2.2.2⟩⟩⟩⟩))⟩
         have n1_ : Aside0 (Kd.V (Kd.int .u32) 102 w100 w.heap.size (fun k_ => k_ ≠ gb223 ∧ k_ ≠ gb241 ∧ k_ ≠ gb242 ∧ k_ ≠ gb243 ∧ k_ ≠ gb265) (.slice Ao97 x242q0_56.length co97) x242q0_56) := ⟨by rw [hw]; exact (by exact vy <| Kd.V_mono (Kd.V_far (p := ⟨gb223, 0, none⟩) (Kd.V_mono HO_242q0.out (fun k_ hk => (⟨hk, hk.1⟩ : _ ∧ k_ ≠ gb223))) (fun _ hk => hk.2) (.int .i64 t270)) (fun _ hk => ⟨hk.1.1, ⟨hk.1.2.1, ⟨hk.1.2.2.1, ⟨hk.1.2.2.2.1, hk.1.2.2.2.2⟩⟩⟩⟩))⟩
         have n2_ : Aside0 (Kd.V (Kd.int .u32) 102 w100 w.heap.size (fun k_ => k_ ≠ gb223 ∧ k_ ≠ gb241 ∧ k_ ≠ gb242 ∧ k_ ≠ gb243 ∧ k_ ≠ gb265) (.slice Ao98 x243q0_56.length co98) x243q0_56) := ⟨by rw [hw]; exact (by exact vy <| Kd.V_mono (Kd.V_far (p := ⟨gb223, 0, none⟩) (Kd.V_mono HO_243q0.out (fun k_ hk => (⟨hk, hk.1⟩ : _ ∧ k_ ≠ gb223))) (fun _ hk => hk.2) (.int .i64 t270)) (fun _ hk => ⟨hk.1.1, ⟨hk.1.2.1, ⟨hk.1.2.2.1, ⟨hk.1.2.2.2.1, hk.1.2.2.2.2⟩⟩⟩⟩))⟩
         have n3_ : Aside0 (Kd.V (Kd.int .u32) 102 w100 w.heap.size (fun k_ => k_ ≠ gb223 ∧ k_ ≠ gb241 ∧ k_ ≠ gb242 ∧ k_ ≠ gb243 ∧ k_ ≠ gb265) u244000 x244q0_56) := ⟨by rw [hw]; exact (by exact vy <| Kd.V_mono (Kd.V_far (p := ⟨gb223, 0, none⟩) (Kd.V_mono HO_244q0.out (fun k_ hk => (⟨hk, hk.1⟩ : _ ∧ k_ ≠ gb223))) (fun _ hk => hk.2) (.int .i64 t270)) (fun _ hk => ⟨hk.1.1, ⟨hk.1.2.1, ⟨hk.1.2.2.1, ⟨hk.1.2.2.2.1, hk.1.2.2.2.2⟩⟩⟩⟩))⟩
         have n4_ : Aside0 (w100.heap[gb223]? = some (.cells #[.int .i64 t270] 3 (0, 0))) := ⟨by rw [hw]; exact (by (with_reducible repeat (first | refine blk_drewN ?_ _ | refine blk_drew ?_ | refine blk_alloc ?_ _)); refine blk_put (cs := #[.int .i64 0]) ?_ 0 _ rfl; exact bk BK223)⟩
         have n5_ : Aside0 (w100.heap[gb241]? = some (.cells #[.slice Ao97 x242q0_56.length co97] 56 (0, 0))) := ⟨by rw [hw]; exact (by refine bf NB241_223 ?_; exact bk BK241)⟩
         have n6_ : Aside0 (w100.heap[gb242]? = some (.cells #[.slice Ao98 x243q0_56.length co98] 56 (0, 0))) := ⟨by rw [hw]; exact (by refine bf NB242_223 ?_; exact bk BK242)⟩
         have n7_ : Aside0 (w100.heap[gb243]? = some (.cells #[u244000] 56 (0, 0))) := ⟨by rw [hw]; exact (by refine bf NB243_223 ?_; exact bk BK243)⟩
         have n8_ : Aside0 (w100.heap[gb265]? = some (.cells #[.bool ((Int.tmod t227 2) == 0)] 4 (0, 0))) := ⟨by rw [hw]; exact (by refine bf NB265_223 ?_; exact bk BK265)⟩
         have n9_ : Aside0 (Below w.heap.size w w100) := ⟨by rw [hw]; exact (lk HB)⟩
         clear hw
         (try clear HO_9)
         (try clear HO_242q0)
         (try clear HO_243q0)
         (try clear HO_244q0)
         (try clear BK223)
         (try clear BK241)
         (try clear BK242)
         (try clear BK243)
         (try clear BK265)
         (try clear HB)
         have HO_9 := n0_
         have HO_242q0 := n1_
         have HO_243q0 := n2_
         have HO_244q0 := n3_
         have BK223 := n4_
         have BK241 := n5_
         have BK242 := n6_
         have BK243 := n7_
         have BK265 := n8_
         have HB := n9_
         clear n0_ n1_ n2_ n3_ n4_ n5_ n6_ n7_ n8_ n9_
         have hnb101 := NB223_241.out
         have hnc101 := NB241_223.out
         have hnb102 := NB223_242.out
         have hnc102 := NB242_223.out
         have hnb103 := NB223_243.out
         have hnc103 := NB243_223.out
         have hcz104_0 : w100.cell? ⟨gb223, 0, none⟩ = some (.int .i64 t270) := (blk_cell BK223.out 0).trans rfl
         have hfz104_0 := blk_frozen BK223.out 0
         go_upto_if 79 with (fail)
         go_cut [9] (fun v9 wc => ∃ (kq : Nat) (x9_87 : List Int) (x242q0_87 : List Int) (x243q0_87 : List Int) (x244q0_87 : List Int) (u242000 : Value) (u243000 : Value) (u244000 : Value), Aside0 (num_Digits.j4 kq t224 x9_87 t270 x242q0_87 x243q0_87 x244q0_87 ((Int.tmod t227 2) == 0) = some (r1, r2, r3)) ∧ Aside0 (kq ≤ kj56) ∧ Aside0 (Kd.V (Kd.int .u32) 102 wc w.heap.size (fun k_ => k_ ≠ gb223 ∧ k_ ≠ gb241 ∧ k_ ≠ gb242 ∧ k_ ≠ gb243 ∧ k_ ≠ gb265) v9 x9_87) ∧ Aside0 (Kd.V (Kd.int .u32) 102 wc w.heap.size (fun k_ => k_ ≠ gb223 ∧ k_ ≠ gb241 ∧ k_ ≠ gb242 ∧ k_ ≠ gb243 ∧ k_ ≠ gb265) u242000 x242q0_87) ∧ Aside0 (Kd.V (Kd.int .u32) 102 wc w.heap.size (fun k_ => k_ ≠ gb223 ∧ k_ ≠ gb241 ∧ k_ ≠ gb242 ∧ k_ ≠ gb243 ∧ k_ ≠ gb265) u243000 x243q0_87) ∧ Aside0 (Kd.V (Kd.int .u32) 102 wc w.heap.size (fun k_ => k_ ≠ gb223 ∧ k_ ≠ gb241 ∧ k_ ≠ gb242 ∧ k_ ≠ gb243 ∧ k_ ≠ gb265) u244000 x244q0_87) ∧ Aside0 (wc.heap[gb223]? = some (.cells #[.int .i64 t270] 3 (0, 0))) ∧ Aside0 (wc.heap[gb241]? = some (.cells #[u242000] 56 (0, 0))) ∧ Aside0 (wc.heap[gb242]? = some (.cells #[u243000] 56 (0, 0))) ∧ Aside0 (wc.heap[gb243]? = some (.cells #[u244000] 56 (0, 0))) ∧ Aside0 (wc.heap[gb265]? = some (.cells #[.bool ((Int.tmod t227 2) == 0)] 4 (0, 0))) ∧ Aside0 (Below w.heap.size w wc))
         case first =>
          have H := HC88.out
          clear HC88
          by_cases c105 : t270 ≥ 0
          ·
           rw [if_pos c105] at H
           have c105b0 : decide (0 ≤ t270) = true := dt c105
           clear c105
           (first | rw [c105b0] | (simp only [i64_w, i32_w]; rw [c105b0]) | skip)
           replace H := bm H
           obtain ⟨t271, A1060, H⟩ := H
           replace H : (num_Digits.j4 kj56 t224 x9_56 t270 x242q0_56 t271 x244q0_56 ((Int.tmod t227 2) == 0)) = some (r1, r2, r3) := H
           have A106 := am A1060
           clear A1060
           have H' := am H
           clear H
           have hnb107 := NB242_223.out
           have hnc107 := NB223_242.out
           have hnb108 := NB242_241.out
           have hnc108 := NB241_242.out
           have hnb109 := NB242_243.out
           have hnc109 := NB243_242.out
           have hnb110 := NB242_265.out
           have hnc110 := NB265_242.out
           have hcz111_0 : w100.cell? ⟨gb242, 0, none⟩ = some (.slice Ao98 x243q0_56.length co98) := (blk_cell BK242.out 0).trans rfl
           have hfz111_0 := blk_frozen BK242.out 0
           have hnb112 := NB223_241.out
           have hnc112 := NB241_223.out
           have hnb113 := NB223_243.out
           have hnc113 := NB243_223.out
           have hnb114 := NB223_265.out
           have hnc114 := NB265_223.out
           have hcz115_0 : w100.cell? ⟨gb223, 0, none⟩ = some (.int .i64 t270) := (blk_cell BK223.out 0).trans rfl
           have hfz115_0 := blk_frozen BK223.out 0
           go_wp2_with (first | ((with_reducible refine gate_callee (f := 52) rfl ?_); refine gL (some 82) Tryd.func52 #[.slice Ao98 x243q0_56.length co98, .int .i64 t270] ?_; (with_reducible refine (num_nat_tens.calls kj56 (fun k_ => (k_ ≠ gb223 ∧ (k_ ≠ gb241 ∧ (k_ ≠ gb242 ∧ (k_ ≠ gb243 ∧ k_ ≠ gb265))))) _ _ x243q0_56 t270 t271 _ ?side1 A106.out).mono ?_); (case side1 => exact HO_243q0.out); rintro e w116 ⟨v272, rfl, ho0, hb⟩; refine ⟨_, rfl, ?_⟩; replace HO_9 := vb HO_9 hb; replace HO_242q0 := vb HO_242q0 hb; replace HO_243q0 := vb HO_243q0 hb; replace HO_244q0 := vb HO_244q0 hb; have HO273 := am (Kd.V_lower (Kd.V_mono (ok' := fun k_ => k_ ≠ gb223 ∧ k_ ≠ gb241 ∧ k_ ≠ gb242 ∧ k_ ≠ gb243 ∧ k_ ≠ gb265) ho0 (fun k_ hk_ => ⟨Or.elim hk_ (fun hs_ => hs_.1) (fun hn_ => (Kd.freshB (bk BK223) k_ hn_)), Or.elim hk_ (fun hs_ => hs_.2.1) (fun hn_ => (Kd.freshB (bk BK241) k_ hn_)), Or.elim hk_ (fun hs_ => hs_.2.2.1) (fun hn_ => (Kd.freshB (bk BK242) k_ hn_)), Or.elim hk_ (fun hs_ => hs_.2.2.2.1) (fun hn_ => (Kd.freshB (bk BK243) k_ hn_)), Or.elim hk_ (fun hs_ => hs_.2.2.2.2) (fun hn_ => (Kd.freshB (bk BK265) k_ hn_))⟩)) (below_size (lk HB))); replace BK223 := bb BK223 hb; replace BK241 := bb BK241 hb; replace BK242 := bb BK242 hb; replace BK243 := bb BK243 hb; replace BK265 := bb BK265 hb; replace HB := lb HB hb; obtain ⟨Ao117, co117, eo117⟩ := Kd.V_slice HO273.out; subst eo117; have hcz118_0 : w116.cell? ⟨gb242, 0, none⟩ = some (.slice Ao98 x243q0_56.length co98) := (blk_cell BK242.out 0).trans rfl; have hfz118_0 := blk_frozen BK242.out 0))
           go_meet
           case rel => exact ⟨_, (x9_56), (x242q0_56), (t271), (x244q0_56), (.slice Ao97 x242q0_56.length co97), (.slice Ao117 t271.length co117), (u244000), H', ⟨by have := HJ2.out; have := HJ15.out; have := HJ36.out; have := HJ56.out; first | omega | exact Nat.le_refl _⟩, ⟨by exact vy <| Kd.V_mono (Kd.V_far (p := ⟨gb242, 0, none⟩) (Kd.V_mono HO_9.out (fun k_ hk => (⟨hk, hk.2.2.1⟩ : _ ∧ k_ ≠ gb242))) (fun _ hk => hk.2) (.slice Ao117 t271.length co117)) (fun _ hk => ⟨hk.1.1, ⟨hk.1.2.1, ⟨hk.1.2.2.1, ⟨hk.1.2.2.2.1, hk.1.2.2.2.2⟩⟩⟩⟩)⟩, ⟨by exact vy <| Kd.V_mono (Kd.V_far (p := ⟨gb242, 0, none⟩) (Kd.V_mono HO_242q0.out (fun k_ hk => (⟨hk, hk.2.2.1⟩ : _ ∧ k_ ≠ gb242))) (fun _ hk => hk.2) (.slice Ao117 t271.length co117)) (fun _ hk => ⟨hk.1.1, ⟨hk.1.2.1, ⟨hk.1.2.2.1, ⟨hk.1.2.2.2.1, hk.1.2.2.2.2⟩⟩⟩⟩)⟩, ⟨by exact vy <| Kd.V_mono (Kd.V_far (p := ⟨gb242, 0, none⟩) (Kd.V_mono HO273.out (fun k_ hk => (⟨hk, hk.2.2.1⟩ : _ ∧ k_ ≠ gb242))) (fun _ hk => hk.2) (.slice Ao117 t271.length co117)) (fun _ hk => ⟨hk.1.1, ⟨hk.1.2.1, ⟨hk.1.2.2.1, ⟨hk.1.2.2.2.1, hk.1.2.2.2.2⟩⟩⟩⟩)⟩, ⟨by exact vy <| Kd.V_mono (Kd.V_far (p := ⟨gb242, 0, none⟩) (Kd.V_mono HO_244q0.out (fun k_ hk => (⟨hk, hk.2.2.1⟩ : _ ∧ k_ ≠ gb242))) (fun _ hk => hk.2) (.slice Ao117 t271.length co117)) (fun _ hk => ⟨hk.1.1, ⟨hk.1.2.1, ⟨hk.1.2.2.1, ⟨hk.1.2.2.2.1, hk.1.2.2.2.2⟩⟩⟩⟩)⟩, ⟨by refine bf NB223_242 ?_; exact bk BK223⟩, ⟨by refine bf NB241_242 ?_; exact bk BK241⟩, ⟨by (with_reducible repeat (first | refine blk_drewN ?_ _ | refine blk_drew ?_ | refine blk_alloc ?_ _)); refine blk_put (cs := #[.slice Ao98 x243q0_56.length co98]) ?_ 0 _ rfl; exact bk BK242⟩, ⟨by refine bf NB243_242 ?_; exact bk BK243⟩, ⟨by refine bf NB265_242 ?_; exact bk BK265⟩, ⟨lk HB⟩⟩
          rw [if_neg c105] at H
          have c105b0 : decide (0 ≤ t270) = false := decide_eq_false c105
          clear c105
          (first | rw [c105b0] | (simp only [i64_w, i32_w]; rw [c105b0]) | skip)
          replace H := bm H
          obtain ⟨t274, A1190, H⟩ := H
          replace H : ((num_nat_tens.f kj56 x9_56 (wrap64 (-t270))).bind fun t277 => ((num_nat_tens.f kj56 x244q0_56 (wrap64 (-t270))).bind fun t280 => (num_Digits.j4 kj56 t224 t277 t270 t274 x243q0_56 t280 ((Int.tmod t227 2) == 0)))) = some (r1, r2, r3) := H
          have A119 := am A1190
          clear A1190
          replace H := bm H
          obtain ⟨t277, A1200, H⟩ := H
          replace H : ((num_nat_tens.f kj56 x244q0_56 (wrap64 (-t270))).bind fun t280 => (num_Digits.j4 kj56 t224 t277 t270 t274 x243q0_56 t280 ((Int.tmod t227 2) == 0))) = some (r1, r2, r3) := H
          have A120 := am A1200
          clear A1200
          replace H := bm H
          obtain ⟨t280, A1210, H⟩ := H
          replace H : (num_Digits.j4 kj56 t224 t277 t270 t274 x243q0_56 t280 ((Int.tmod t227 2) == 0)) = some (r1, r2, r3) := H
          have A121 := am A1210
          clear A1210
          have H' := am H
          clear H
          try go_wp2
          have n0_ := am (Kd.V_drew HO_9.out)
          have n1_ := am (Kd.V_drew HO_242q0.out)
          have n2_ := am (Kd.V_drew HO_243q0.out)
          have n3_ := am (Kd.V_drew HO_244q0.out)
          have n4_ := am (blk_drew BK223.out)
          have n5_ := am (blk_drew BK241.out)
          have n6_ := am (blk_drew BK242.out)
          have n7_ := am (blk_drew BK243.out)
          have n8_ := am (blk_drew BK265.out)
          have n9_ := am (below_drew1 HB.out)
          clear HO_9
          clear HO_242q0
          clear HO_243q0
          clear HO_244q0
          clear BK223
          clear BK241
          clear BK242
          clear BK243
          clear BK265
          clear HB
          have HO_9 := n0_
          have HO_242q0 := n1_
          have HO_243q0 := n2_
          have HO_244q0 := n3_
          have BK223 := n4_
          have BK241 := n5_
          have BK242 := n6_
          have BK243 := n7_
          have BK265 := n8_
          have HB := n9_
          clear n0_ n1_ n2_ n3_ n4_ n5_ n6_ n7_ n8_ n9_
          refine start_ (n := 15) (S := fun w' => w'.cell? ⟨gb241, 0, none⟩ = some (.slice Ao97 x242q0_56.length co97) ∧ w'.cell? ⟨gb223, 0, none⟩ = some (.int .i64 t270) ∧ w'.cell? ⟨gb243, 0, none⟩ = some (u244000)) (ds := [12, 14]) #[false, false, false, false, false, false, false, false, false, false, false, false, false, false, false] (by kernel_rfl) rfl rfl ⟨(blk_cell BK241.out 0).trans rfl, (blk_cell BK223.out 0).trans rfl, (blk_cell BK243.out 0).trans rfl⟩ (fun hHeld => ?_); refine with_tabW num_Digits.tab16 num_Digits.bits16 (fun HT_ HW_ => ?_)
          generalize w100.drew = w122 at HO_9 HO_242q0 HO_243q0 HO_244q0 BK223 BK241 BK242 BK243 BK265 HB hHeld ⊢
          refine pure_ (i := 4) (N := some 87) (v := ?_) (a' := ?_) #[false, false, false, false, true, false, false, false, false, false, false, false, false, false, false] rfl rfl (any_of HT_.out (by kernel_rfl)) (fun _ _ _ h => h) (Or.inl ⟨by rfl, ?_⟩) ?_ ?_
          rotate_left
          ·
           intro w'
           go_simp
           with_reducible rfl
          rotate_left
          ·
           exact pz
          refine take_ (i := 0) (N := some 83) (v := ?_) (a' := ?_) #[true, false, false, false, true, false, false, false, false, false, false, false, false, false, false] rfl rfl (take_ofW HT_.out HW_.out (by kernel_rfl)) (fun _ _ _ h => h) (Or.inl ⟨by rfl, ?_⟩) hHeld ?_ ?_
          rotate_left
          ·
           rintro w' ⟨s0, s1, s2⟩
           go_simp
           with_reducible rfl
          rotate_left
          ·
           exact pz
          refine take_ (i := 1) (N := some 84) (v := ?_) (a' := ?_) #[true, true, false, false, true, false, false, false, false, false, false, false, false, false, false] rfl rfl (take_ofW HT_.out HW_.out (by kernel_rfl)) (fun _ _ _ h => h) (Or.inl ⟨by rfl, ?_⟩) hHeld ?_ ?_
          rotate_left
          ·
           rintro w' ⟨s0, s1, s2⟩
           go_simp
           with_reducible rfl
          rotate_left
          ·
           exact pz
          refine pure_ (i := 2) (N := some 85) (v := ?_) (a' := ?_) #[true, true, true, false, true, false, false, false, false, false, false, false, false, false, false] rfl rfl (any_of HT_.out (by kernel_rfl)) (fun _ _ _ h => h) (Or.inl ⟨by rfl, ?_⟩) ?_ ?_
          rotate_left
          ·
           intro w'
           go_simp
           with_reducible rfl
          rotate_left
          ·
           exact pz
          refine take_ (i := 5) (N := some 88) (v := ?_) (a' := ?_) #[true, true, true, false, true, true, false, false, false, false, false, false, false, false, false] rfl rfl (take_ofW HT_.out HW_.out (by kernel_rfl)) (fun _ _ _ h => h) (Or.inl ⟨by rfl, ?_⟩) hHeld ?_ ?_
          rotate_left
          ·
           rintro w' ⟨s0, s1, s2⟩
           go_simp
           with_reducible rfl
          rotate_left
          ·
           exact pz
          refine pure_ (i := 6) (N := some 89) (v := ?_) (a' := ?_) #[true, true, true, false, true, true, true, false, false, false, false, false, false, false, false] rfl rfl (any_of HT_.out (by kernel_rfl)) (fun _ _ _ h => h) (Or.inl ⟨by rfl, ?_⟩) ?_ ?_
          rotate_left
          ·
           intro w'
           go_simp
           with_reducible rfl
          rotate_left
          ·
           exact pz
          refine take_ (i := 8) (N := some 91) (v := ?_) (a' := ?_) #[true, true, true, false, true, true, true, false, true, false, false, false, false, false, false] rfl rfl (take_ofW HT_.out HW_.out (by kernel_rfl)) (fun _ _ _ h => h) (Or.inl ⟨by rfl, ?_⟩) hHeld ?_ ?_
          rotate_left
          ·
           rintro w' ⟨s0, s1, s2⟩
           go_simp
           with_reducible rfl
          rotate_left
          ·
           exact pz
          refine take_ (i := 9) (N := some 92) (v := ?_) (a' := ?_) #[true, true, true, false, true, true, true, false, true, true, false, false, false, false, false] rfl rfl (take_ofW HT_.out HW_.out (by kernel_rfl)) (fun _ _ _ h => h) (Or.inl ⟨by rfl, ?_⟩) hHeld ?_ ?_
          rotate_left
          ·
           rintro w' ⟨s0, s1, s2⟩
           go_simp
           with_reducible rfl
          rotate_left
          ·
           exact pz
          refine pure_ (i := 10) (N := some 93) (v := ?_) (a' := ?_) #[true, true, true, false, true, true, true, false, true, true, true, false, false, false, false] rfl rfl (any_of HT_.out (by kernel_rfl)) (fun _ _ _ h => h) (Or.inl ⟨by rfl, ?_⟩) ?_ ?_
          rotate_left
          ·
           intro w'
           go_simp
           with_reducible rfl
          rotate_left
          ·
           exact pz
          refine one_ (i := 3) (N := some 86) #[true, true, true, true, true, true, true, false, true, true, true, false, false, false, false] rfl rfl (one_of HT_.out (by kernel_rfl)) (by decide) (fun K hK => ?_)
          refine goes_ Tryd.func52 (by kernel_rfl) rfl #[.slice Ao97 x242q0_56.length co97, .int .i64 (wrap64 (-t270))] (by rfl) rfl rfl (by (try simp only [List.map_toArray, List.map_cons, List.map_nil]); first | done | rfl | (simp only [List.length_drop, List.length_take]; rfl) | (simp [Act.eval, Hd.wrap_u8]; done)) ?_
          with_reducible refine (num_nat_tens.calls kj56 (fun k_ => (k_ ≠ gb223 ∧ (k_ ≠ gb241 ∧ (k_ ≠ gb242 ∧ (k_ ≠ gb243 ∧ k_ ≠ gb265))))) _ _ x242q0_56 (wrap64 (-t270)) t274 _ ?side1 A119.out).mono ?_
          (case side1 => exact HO_242q0.out)
          rintro e w123 ⟨v275, rfl, ho0, hb⟩
          refine ⟨_, rfl, ?_⟩
          have n0_ := vb HO_9 hb
          have n1_ := vb HO_242q0 hb
          have n2_ := vb HO_243q0 hb
          have n3_ := vb HO_244q0 hb
          have n4_ := am (Kd.V_lower (Kd.V_mono (ok' := fun k_ => k_ ≠ gb223 ∧ k_ ≠ gb241 ∧ k_ ≠ gb242 ∧ k_ ≠ gb243 ∧ k_ ≠ gb265) ho0 (fun k_ hk_ => ⟨Or.elim hk_ (fun hs_ => hs_.1) (fun hn_ => (Kd.freshB (bk BK223) k_ hn_)), Or.elim hk_ (fun hs_ => hs_.2.1) (fun hn_ => (Kd.freshB (bk BK241) k_ hn_)), Or.elim hk_ (fun hs_ => hs_.2.2.1) (fun hn_ => (Kd.freshB (bk BK242) k_ hn_)), Or.elim hk_ (fun hs_ => hs_.2.2.2.1) (fun hn_ => (Kd.freshB (bk BK243) k_ hn_)), Or.elim hk_ (fun hs_ => hs_.2.2.2.2) (fun hn_ => (Kd.freshB (bk BK265) k_ hn_))⟩)) (below_size (lk HB)))
          have n5_ := bb BK223 hb
          have n6_ := bb BK241 hb
          have n7_ := bb BK242 hb
          have n8_ := bb BK243 hb
          have n9_ := bb BK265 hb
          have n10_ := lb HB hb
          clear HO_9
          clear HO_242q0
          clear HO_243q0
          clear HO_244q0
          clear BK223
          clear BK241
          clear BK242
          clear BK243
          clear BK265
          clear HB
          have HO_9 := n0_
          have HO_242q0 := n1_
          have HO_243q0 := n2_
          have HO_244q0 := n3_
          have HO276 := n4_
          have BK223 := n5_
          have BK241 := n6_
          have BK242 := n7_
          have BK243 := n8_
          have BK265 := n9_
          have HB := n10_
          clear n0_ n1_ n2_ n3_ n4_ n5_ n6_ n7_ n8_ n9_ n10_
          (try clear hb)
          (try clear hb2)
          (try clear hk)
          (try clear hi)
          (try clear ho0)
          obtain ⟨Ao124, co124, eo124⟩ := Kd.V_slice HO_9.out
          (first | subst eo124 | (injection eo124 with f1_ f2_ f3_; have f4_ := f1_.symm; have f5_ := f3_.symm; clear f1_ f2_ f3_; subst f4_; subst f5_))
          refine hK.out _ _ ⟨(blk_cell BK241.out 0).trans rfl, (blk_cell BK223.out 0).trans rfl, (blk_cell BK243.out 0).trans rfl⟩ (fun hHeld => ?_)
          clear hK K
          refine norm_ (a' := ?_) ?_ ?_
          rotate_left
          ·
           show Act.put _ (some 86) _ = _
           exact pz
          refine one_ (i := 7) (N := some 90) #[true, true, true, true, true, true, true, true, true, true, true, false, false, false, false] rfl rfl (one_of HT_.out (by kernel_rfl)) (by decide) (fun K hK => ?_)
          refine goes_ Tryd.func52 (by kernel_rfl) rfl #[.slice Ao124 x9_56.length co124, .int .i64 (wrap64 (-t270))] (by rfl) rfl rfl (by (try simp only [List.map_toArray, List.map_cons, List.map_nil]); first | done | rfl | (simp only [List.length_drop, List.length_take]; rfl) | (simp [Act.eval, Hd.wrap_u8]; done)) ?_
          with_reducible refine (num_nat_tens.calls kj56 (fun k_ => (k_ ≠ gb223 ∧ (k_ ≠ gb241 ∧ (k_ ≠ gb242 ∧ (k_ ≠ gb243 ∧ k_ ≠ gb265))))) _ _ x9_56 (wrap64 (-t270)) t277 _ ?side1 A120.out).mono ?_
          (case side1 => exact HO_9.out)
          rintro e w125 ⟨v278, rfl, ho0, hb⟩
          refine ⟨_, rfl, ?_⟩
          have n0_ := vb HO_9 hb
          have n1_ := vb HO_242q0 hb
          have n2_ := vb HO_243q0 hb
          have n3_ := vb HO_244q0 hb
          have n4_ := vb HO276 hb
          have n5_ := am (Kd.V_lower (Kd.V_mono (ok' := fun k_ => k_ ≠ gb223 ∧ k_ ≠ gb241 ∧ k_ ≠ gb242 ∧ k_ ≠ gb243 ∧ k_ ≠ gb265) ho0 (fun k_ hk_ => ⟨Or.elim hk_ (fun hs_ => hs_.1) (fun hn_ => (Kd.freshB (bk BK223) k_ hn_)), Or.elim hk_ (fun hs_ => hs_.2.1) (fun hn_ => (Kd.freshB (bk BK241) k_ hn_)), Or.elim hk_ (fun hs_ => hs_.2.2.1) (fun hn_ => (Kd.freshB (bk BK242) k_ hn_)), Or.elim hk_ (fun hs_ => hs_.2.2.2.1) (fun hn_ => (Kd.freshB (bk BK243) k_ hn_)), Or.elim hk_ (fun hs_ => hs_.2.2.2.2) (fun hn_ => (Kd.freshB (bk BK265) k_ hn_))⟩)) (below_size (lk HB)))
          have n6_ := bb BK223 hb
          have n7_ := bb BK241 hb
          have n8_ := bb BK242 hb
          have n9_ := bb BK243 hb
          have n10_ := bb BK265 hb
          have n11_ := lb HB hb
          clear HO_9
          clear HO_242q0
          clear HO_243q0
          clear HO_244q0
          clear HO276
          clear BK223
          clear BK241
          clear BK242
          clear BK243
          clear BK265
          clear HB
          have HO_9 := n0_
          have HO_242q0 := n1_
          have HO_243q0 := n2_
          have HO_244q0 := n3_
          have HO276 := n4_
          have HO279 := n5_
          have BK223 := n6_
          have BK241 := n7_
          have BK242 := n8_
          have BK243 := n9_
          have BK265 := n10_
          have HB := n11_
          clear n0_ n1_ n2_ n3_ n4_ n5_ n6_ n7_ n8_ n9_ n10_ n11_
          (try clear hb)
          (try clear hb2)
          (try clear hk)
          (try clear hi)
          (try clear ho0)
          obtain ⟨Ao126, co126, eo126⟩ := Kd.V_slice HO_244q0.out
          (first | subst eo126 | (injection eo126 with f1_ f2_ f3_; have f4_ := f1_.symm; have f5_ := f3_.symm; clear f1_ f2_ f3_; subst f4_; subst f5_))
          refine hK.out _ _ ⟨(blk_cell BK241.out 0).trans rfl, (blk_cell BK223.out 0).trans rfl, (blk_cell BK243.out 0).trans rfl⟩ (fun hHeld => ?_)
          clear hK K
          refine norm_ (a' := ?_) ?_ ?_
          rotate_left
          ·
           show Act.put _ (some 90) _ = _
           exact pz
          refine one_ (i := 11) (N := some 94) #[true, true, true, true, true, true, true, true, true, true, true, true, false, false, false] rfl rfl (one_of HT_.out (by kernel_rfl)) (by decide) (fun K hK => ?_)
          refine goes_ Tryd.func52 (by kernel_rfl) rfl #[.slice Ao126 x244q0_56.length co126, .int .i64 (wrap64 (-t270))] (by rfl) rfl rfl (by (try simp only [List.map_toArray, List.map_cons, List.map_nil]); first | done | rfl | (simp only [List.length_drop, List.length_take]; rfl) | (simp [Act.eval, Hd.wrap_u8]; done)) ?_
          with_reducible refine (num_nat_tens.calls kj56 (fun k_ => (k_ ≠ gb223 ∧ (k_ ≠ gb241 ∧ (k_ ≠ gb242 ∧ (k_ ≠ gb243 ∧ k_ ≠ gb265))))) _ _ x244q0_56 (wrap64 (-t270)) t280 _ ?side1 A121.out).mono ?_
          (case side1 => exact HO_244q0.out)
          rintro e w127 ⟨v281, rfl, ho0, hb⟩
          refine ⟨_, rfl, ?_⟩
          have n0_ := vb HO_9 hb
          have n1_ := vb HO_242q0 hb
          have n2_ := vb HO_243q0 hb
          have n3_ := vb HO_244q0 hb
          have n4_ := vb HO276 hb
          have n5_ := vb HO279 hb
          have n6_ := am (Kd.V_lower (Kd.V_mono (ok' := fun k_ => k_ ≠ gb223 ∧ k_ ≠ gb241 ∧ k_ ≠ gb242 ∧ k_ ≠ gb243 ∧ k_ ≠ gb265) ho0 (fun k_ hk_ => ⟨Or.elim hk_ (fun hs_ => hs_.1) (fun hn_ => (Kd.freshB (bk BK223) k_ hn_)), Or.elim hk_ (fun hs_ => hs_.2.1) (fun hn_ => (Kd.freshB (bk BK241) k_ hn_)), Or.elim hk_ (fun hs_ => hs_.2.2.1) (fun hn_ => (Kd.freshB (bk BK242) k_ hn_)), Or.elim hk_ (fun hs_ => hs_.2.2.2.1) (fun hn_ => (Kd.freshB (bk BK243) k_ hn_)), Or.elim hk_ (fun hs_ => hs_.2.2.2.2) (fun hn_ => (Kd.freshB (bk BK265) k_ hn_))⟩)) (below_size (lk HB)))
          have n7_ := bb BK223 hb
          have n8_ := bb BK241 hb
          have n9_ := bb BK242 hb
          have n10_ := bb BK243 hb
          have n11_ := bb BK265 hb
          have n12_ := lb HB hb
          clear HO_9
          clear HO_242q0
          clear HO_243q0
          clear HO_244q0
          clear HO276
          clear HO279
          clear BK223
          clear BK241
          clear BK242
          clear BK243
          clear BK265
          clear HB
          have HO_9 := n0_
          have HO_242q0 := n1_
          have HO_243q0 := n2_
          have HO_244q0 := n3_
          have HO276 := n4_
          have HO279 := n5_
          have HO282 := n6_
          have BK223 := n7_
          have BK241 := n8_
          have BK242 := n9_
          have BK243 := n10_
          have BK265 := n11_
          have HB := n12_
          clear n0_ n1_ n2_ n3_ n4_ n5_ n6_ n7_ n8_ n9_ n10_ n11_ n12_
          (try clear hb)
          (try clear hb2)
          (try clear hk)
          (try clear hi)
          (try clear ho0)
          obtain ⟨Ao128, co128, eo128⟩ := Kd.V_slice HO276.out
          (first | subst eo128 | (injection eo128 with f1_ f2_ f3_; have f4_ := f1_.symm; have f5_ := f3_.symm; clear f1_ f2_ f3_; subst f4_; subst f5_))
          obtain ⟨Ao130, co130, eo130⟩ := Kd.V_slice HO282.out
          (first | subst eo130 | (injection eo130 with f1_ f2_ f3_; have f4_ := f1_.symm; have f5_ := f3_.symm; clear f1_ f2_ f3_; subst f4_; subst f5_))
          refine hK.out _ _ ⟨(blk_cell BK241.out 0).trans rfl, (blk_cell BK223.out 0).trans rfl, (blk_cell BK243.out 0).trans rfl⟩ (fun hHeld => ?_)
          clear hK K
          refine norm_ (a' := ?_) ?_ ?_
          rotate_left
          ·
           show Act.put _ (some 94) _ = _
           exact pz
          refine last_ (i := 12) (N := none) #[true, true, true, true, true, true, true, true, true, true, true, true, true, false, false] rfl rfl (one_of HT_.out (by kernel_rfl)) (by decide) (fun K hK => ?_)
          have hs129 : w127.cell? ⟨gb241, 0, none⟩ = some (.slice Ao97 x242q0_56.length co97) := (blk_cell BK241.out 0).trans rfl
          have hfs129 := blk_frozen BK241.out 0
          have hns129_0 := NB223_241.out
          have hns129_2 := NB242_241.out
          have hns129_3 := NB243_241.out
          have hns129_4 := NB265_241.out
          have hms129_0 := NB241_223.out
          have hms129_2 := NB241_242.out
          have hms129_3 := NB241_243.out
          have hms129_4 := NB241_265.out
          refine skip_ (w1 := ?_) (by rfl) rfl ?_ ?_
          rotate_left
          ·
           go_simp
           rfl
          refine hK.out _ _ ?_
          clear hK K
          refine pure_ (i := 13) (N := some 9) (v := ?_) (a' := ?_) #[true, true, true, true, true, true, true, true, true, true, true, true, true, true, false] rfl rfl (any_of HT_.out (by kernel_rfl)) (fun _ _ _ h => h) (Or.inl ⟨by rfl, ?_⟩) ?_ ?_
          rotate_left
          ·
           intro w'
           go_simp
           with_reducible rfl
          rotate_left
          ·
           exact pz
          refine last_ (i := 14) (N := none) #[true, true, true, true, true, true, true, true, true, true, true, true, true, true, true] rfl rfl (one_of HT_.out (by kernel_rfl)) (by decide) (fun K hK => ?_)
          have hs131 : w127.cell? ⟨gb243, 0, none⟩ = some (.slice Ao126 x244q0_56.length co126) := (blk_cell BK243.out 0).trans rfl
          have hfs131 := blk_frozen BK243.out 0
          have hns131_0 := NB223_243.out
          have hns131_1 := NB241_243.out
          have hns131_2 := NB242_243.out
          have hns131_4 := NB265_243.out
          have hms131_0 := NB243_223.out
          have hms131_1 := NB243_241.out
          have hms131_2 := NB243_242.out
          have hms131_4 := NB243_265.out
          refine skip_ (w1 := ?_) (by rfl) rfl ?_ ?_
          rotate_left
          ·
           go_simp
           rfl
          refine hK.out _ _ ?_
          clear hK K
          refine done_ (done_of HT_.out (by kernel_rfl)) ?_
          (first | refine Hd.letter_ (fun w132 hw => ?_) | refine Hd.letterL_ (fun w132 hw => ?_) | refine Hd.letterE_ (fun w132 hw => ?_))
          have n0_ : Aside0 (Kd.V (Kd.int .u32) 102 w132 w.heap.size (fun k_ => k_ ≠ gb223 ∧ k_ ≠ gb241 ∧ k_ ≠ gb242 ∧ k_ ≠ gb243 ∧ k_ ≠ gb265) (.slice Ao124 x9_56.length co124) x9_56) := ⟨by rw [hw]; exact (by exact vy <| Kd.V_mono (Kd.V_far (p := ⟨gb243, 0, none⟩) (Kd.V_far (p := ⟨gb241, 0, none⟩) (Kd.V_mono (Kd.V_mono HO_9.out (fun k_ hk => (⟨hk, hk.2.1⟩ : _ ∧ k_ ≠ gb241))) (fun k_ hk => (⟨hk, hk.1.2.2.2.1⟩ : _ ∧ k_ ≠ gb243))) (fun _ hk => hk.1.2) (.slice Ao128 t274.length co128)) (fun _ hk => hk.2) (.slice Ao130 t280.length co130)) (fun _ hk => ⟨hk.1.1.1, ⟨hk.1.1.2.1, ⟨hk.1.1.2.2.1, ⟨hk.1.1.2.2.2.1, hk.1.1.2.2.2.2⟩⟩⟩⟩))⟩
          have n1_ : Aside0 (Kd.V (Kd.int .u32) 102 w132 w.heap.size (fun k_ => k_ ≠ gb223 ∧ k_ ≠ gb241 ∧ k_ ≠ gb242 ∧ k_ ≠ gb243 ∧ k_ ≠ gb265) (.slice Ao97 x242q0_56.length co97) x242q0_56) := ⟨by rw [hw]; exact (by exact vy <| Kd.V_mono (Kd.V_far (p := ⟨gb243, 0, none⟩) (Kd.V_far (p := ⟨gb241, 0, none⟩) (Kd.V_mono (Kd.V_mono HO_242q0.out (fun k_ hk => (⟨hk, hk.2.1⟩ : _ ∧ k_ ≠ gb241))) (fun k_ hk => (⟨hk, hk.1.2.2.2.1⟩ : _ ∧ k_ ≠ gb243))) (fun _ hk => hk.1.2) (.slice Ao128 t274.length co128)) (fun _ hk => hk.2) (.slice Ao130 t280.length co130)) (fun _ hk => ⟨hk.1.1.1, ⟨hk.1.1.2.1, ⟨hk.1.1.2.2.1, ⟨hk.1.1.2.2.2.1, hk.1.1.2.2.2.2⟩⟩⟩⟩))⟩
          have n2_ : Aside0 (Kd.V (Kd.int .u32) 102 w132 w.heap.size (fun k_ => k_ ≠ gb223 ∧ k_ ≠ gb241 ∧ k_ ≠ gb242 ∧ k_ ≠ gb243 ∧ k_ ≠ gb265) (.slice Ao98 x243q0_56.length co98) x243q0_56) := ⟨by rw [hw]; exact (by exact vy <| Kd.V_mono (Kd.V_far (p := ⟨gb243, 0, none⟩) (Kd.V_far (p := ⟨gb241, 0, none⟩) (Kd.V_mono (Kd.V_mono HO_243q0.out (fun k_ hk => (⟨hk, hk.2.1⟩ : _ ∧ k_ ≠ gb241))) (fun k_ hk => (⟨hk, hk.1.2.2.2.1⟩ : _ ∧ k_ ≠ gb243))) (fun _ hk => hk.1.2) (.slice Ao128 t274.length co128)) (fun _ hk => hk.2) (.slice Ao130 t280.length co130)) (fun _ hk => ⟨hk.1.1.1, ⟨hk.1.1.2.1, ⟨hk.1.1.2.2.1, ⟨hk.1.1.2.2.2.1, hk.1.1.2.2.2.2⟩⟩⟩⟩))⟩
          have n3_ : Aside0 (Kd.V (Kd.int .u32) 102 w132 w.heap.size (fun k_ => k_ ≠ gb223 ∧ k_ ≠ gb241 ∧ k_ ≠ gb242 ∧ k_ ≠ gb243 ∧ k_ ≠ gb265) (.slice Ao126 x244q0_56.length co126) x244q0_56) := ⟨by rw [hw]; exact (by exact vy <| Kd.V_mono (Kd.V_far (p := ⟨gb243, 0, none⟩) (Kd.V_far (p := ⟨gb241, 0, none⟩) (Kd.V_mono (Kd.V_mono HO_244q0.out (fun k_ hk => (⟨hk, hk.2.1⟩ : _ ∧ k_ ≠ gb241))) (fun k_ hk => (⟨hk, hk.1.2.2.2.1⟩ : _ ∧ k_ ≠ gb243))) (fun _ hk => hk.1.2) (.slice Ao128 t274.length co128)) (fun _ hk => hk.2) (.slice Ao130 t280.length co130)) (fun _ hk => ⟨hk.1.1.1, ⟨hk.1.1.2.1, ⟨hk.1.1.2.2.1, ⟨hk.1.1.2.2.2.1, hk.1.1.2.2.2.2⟩⟩⟩⟩))⟩
          have n4_ : Aside0 (Kd.V (Kd.int .u32) 102 w132 w.heap.size (fun k_ => k_ ≠ gb223 ∧ k_ ≠ gb241 ∧ k_ ≠ gb242 ∧ k_ ≠ gb243 ∧ k_ ≠ gb265) (.slice Ao128 t274.length co128) t274) := ⟨by rw [hw]; exact (by exact vy <| Kd.V_mono (Kd.V_far (p := ⟨gb243, 0, none⟩) (Kd.V_far (p := ⟨gb241, 0, none⟩) (Kd.V_mono (Kd.V_mono HO276.out (fun k_ hk => (⟨hk, hk.2.1⟩ : _ ∧ k_ ≠ gb241))) (fun k_ hk => (⟨hk, hk.1.2.2.2.1⟩ : _ ∧ k_ ≠ gb243))) (fun _ hk => hk.1.2) (.slice Ao128 t274.length co128)) (fun _ hk => hk.2) (.slice Ao130 t280.length co130)) (fun _ hk => ⟨hk.1.1.1, ⟨hk.1.1.2.1, ⟨hk.1.1.2.2.1, ⟨hk.1.1.2.2.2.1, hk.1.1.2.2.2.2⟩⟩⟩⟩))⟩
          have n5_ : Aside0 (Kd.V (Kd.int .u32) 102 w132 w.heap.size (fun k_ => k_ ≠ gb223 ∧ k_ ≠ gb241 ∧ k_ ≠ gb242 ∧ k_ ≠ gb243 ∧ k_ ≠ gb265) v278 t277) := ⟨by rw [hw]; exact (by exact vy <| Kd.V_mono (Kd.V_far (p := ⟨gb243, 0, none⟩) (Kd.V_far (p := ⟨gb241, 0, none⟩) (Kd.V_mono (Kd.V_mono HO279.out (fun k_ hk => (⟨hk, hk.2.1⟩ : _ ∧ k_ ≠ gb241))) (fun k_ hk => (⟨hk, hk.1.2.2.2.1⟩ : _ ∧ k_ ≠ gb243))) (fun _ hk => hk.1.2) (.slice Ao128 t274.length co128)) (fun _ hk => hk.2) (.slice Ao130 t280.length co130)) (fun _ hk => ⟨hk.1.1.1, ⟨hk.1.1.2.1, ⟨hk.1.1.2.2.1, ⟨hk.1.1.2.2.2.1, hk.1.1.2.2.2.2⟩⟩⟩⟩))⟩
          have n6_ : Aside0 (Kd.V (Kd.int .u32) 102 w132 w.heap.size (fun k_ => k_ ≠ gb223 ∧ k_ ≠ gb241 ∧ k_ ≠ gb242 ∧ k_ ≠ gb243 ∧ k_ ≠ gb265) (.slice Ao130 t280.length co130) t280) := ⟨by rw [hw]; exact (by exact vy <| Kd.V_mono (Kd.V_far (p := ⟨gb243, 0, none⟩) (Kd.V_far (p := ⟨gb241, 0, none⟩) (Kd.V_mono (Kd.V_mono HO282.out (fun k_ hk => (⟨hk, hk.2.1⟩ : _ ∧ k_ ≠ gb241))) (fun k_ hk => (⟨hk, hk.1.2.2.2.1⟩ : _ ∧ k_ ≠ gb243))) (fun _ hk => hk.1.2) (.slice Ao128 t274.length co128)) (fun _ hk => hk.2) (.slice Ao130 t280.length co130)) (fun _ hk => ⟨hk.1.1.1, ⟨hk.1.1.2.1, ⟨hk.1.1.2.2.1, ⟨hk.1.1.2.2.2.1, hk.1.1.2.2.2.2⟩⟩⟩⟩))⟩
          have n7_ : Aside0 (w132.heap[gb223]? = some (.cells #[.int .i64 t270] 3 (0, 0))) := ⟨by rw [hw]; exact (by refine bf NB223_243 ?_; refine bf NB223_241 ?_; exact bk BK223)⟩
          have n8_ : Aside0 (w132.heap[gb241]? = some (.cells #[.slice Ao128 t274.length co128] 56 (0, 0))) := ⟨by rw [hw]; exact (by refine bf NB241_243 ?_; (with_reducible repeat (first | refine blk_drewN ?_ _ | refine blk_drew ?_ | refine blk_alloc ?_ _)); refine blk_put (cs := #[.slice Ao97 x242q0_56.length co97]) ?_ 0 _ rfl; exact bk BK241)⟩
          have n9_ : Aside0 (w132.heap[gb242]? = some (.cells #[.slice Ao98 x243q0_56.length co98] 56 (0, 0))) := ⟨by rw [hw]; exact (by refine bf NB242_243 ?_; refine bf NB242_241 ?_; exact bk BK242)⟩
          have n10_ : Aside0 (w132.heap[gb243]? = some (.cells #[.slice Ao130 t280.length co130] 56 (0, 0))) := ⟨by rw [hw]; exact (by (with_reducible repeat (first | refine blk_drewN ?_ _ | refine blk_drew ?_ | refine blk_alloc ?_ _)); refine blk_put (cs := #[.slice Ao126 x244q0_56.length co126]) ?_ 0 _ rfl; refine bf NB243_241 ?_; exact bk BK243)⟩
          have n11_ : Aside0 (w132.heap[gb265]? = some (.cells #[.bool ((Int.tmod t227 2) == 0)] 4 (0, 0))) := ⟨by rw [hw]; exact (by refine bf NB265_243 ?_; refine bf NB265_241 ?_; exact bk BK265)⟩
          have n12_ : Aside0 (Below w.heap.size w w132) := ⟨by rw [hw]; exact (lk HB)⟩
          clear hw
          (try clear HO_9)
          (try clear HO_242q0)
          (try clear HO_243q0)
          (try clear HO_244q0)
          (try clear HO276)
          (try clear HO279)
          (try clear HO282)
          (try clear BK223)
          (try clear BK241)
          (try clear BK242)
          (try clear BK243)
          (try clear BK265)
          (try clear HB)
          have HO_9 := n0_
          have HO_242q0 := n1_
          have HO_243q0 := n2_
          have HO_244q0 := n3_
          have HO276 := n4_
          have HO279 := n5_
          have HO282 := n6_
          have BK223 := n7_
          have BK241 := n8_
          have BK242 := n9_
          have BK243 := n10_
          have BK265 := n11_
          have HB := n12_
          clear n0_ n1_ n2_ n3_ n4_ n5_ n6_ n7_ n8_ n9_ n10_ n11_ n12_
          try go_wp2
          go_meet
          case rel => exact ⟨_, (t277), (t274), (x243q0_56), (t280), (.slice Ao128 t274.length co128), (.slice Ao98 x243q0_56.length co98), (.slice Ao130 t280.length co130), H', ⟨by have := HJ2.out; have := HJ15.out; have := HJ36.out; have := HJ56.out; first | omega | exact Nat.le_refl _⟩, ⟨vk HO279⟩, ⟨vk HO276⟩, ⟨vk HO_243q0⟩, ⟨vk HO282⟩, ⟨bk BK223⟩, ⟨bk BK241⟩, ⟨bk BK242⟩, ⟨bk BK243⟩, ⟨bk BK265⟩, ⟨lk HB⟩⟩
         case rest =>
          clear HC88
          obtain ⟨kq, x9_87, x242q0_87, x243q0_87, x244q0_87, u242000, u243000, u244000, HA, HJ87, HO_9, HO_242q0, HO_243q0, HO_244q0, BK223, BK241, BK242, BK243, BK265, HB⟩ := hcut
          cases kq with
          | zero => exact absurd HA.out (by simp [num_Digits.j4])
          | succ kj87 =>
           have H := HA.out
           clear HA
           simp only [num_Digits.j4] at H
           have H' := am H
           clear H
           go_wp2
           go_loopg [] kj87 (fun kq w' => ∃ (x224q0_6 : Int) (x243q0_6 : List Int) (u243000 : Value), Aside0 (num_Digits.l0 kq t224 x9_87 x224q0_6 x242q0_87 x243q0_6 x244q0_87 ((Int.tmod t227 2) == 0) = some (r1, r2, r3)) ∧ Aside0 (kq ≤ kj87) ∧ Aside0 (Kd.V (Kd.int .u32) 102 w' w.heap.size (fun k_ => k_ ≠ gb223 ∧ k_ ≠ gb241 ∧ k_ ≠ gb242 ∧ k_ ≠ gb243 ∧ k_ ≠ gb265) u9 x9_87) ∧ Aside0 (Kd.V (Kd.int .u32) 102 w' w.heap.size (fun k_ => k_ ≠ gb223 ∧ k_ ≠ gb241 ∧ k_ ≠ gb242 ∧ k_ ≠ gb243 ∧ k_ ≠ gb265) u242000 x242q0_87) ∧ Aside0 (Kd.V (Kd.int .u32) 102 w' w.heap.size (fun k_ => k_ ≠ gb223 ∧ k_ ≠ gb241 ∧ k_ ≠ gb242 ∧ k_ ≠ gb243 ∧ k_ ≠ gb265) u243000 x243q0_6) ∧ Aside0 (Kd.V (Kd.int .u32) 102 w' w.heap.size (fun k_ => k_ ≠ gb223 ∧ k_ ≠ gb241 ∧ k_ ≠ gb242 ∧ k_ ≠ gb243 ∧ k_ ≠ gb265) u244000 x244q0_87) ∧ Aside0 (w'.heap[gb223]? = some (.cells #[.int .i64 x224q0_6] 3 (0, 0))) ∧ Aside0 (w'.heap[gb241]? = some (.cells #[u242000] 56 (0, 0))) ∧ Aside0 (w'.heap[gb242]? = some (.cells #[u243000] 56 (0, 0))) ∧ Aside0 (w'.heap[gb243]? = some (.cells #[u244000] 56 (0, 0))) ∧ Aside0 (w'.heap[gb265]? = some (.cells #[.bool ((Int.tmod t227 2) == 0)] 4 (0, 0))) ∧ Aside0 (Below w.heap.size w w'))
           case atStart => exact ⟨(t270), (x243q0_87), (u243000), H', ⟨Nat.le_refl _⟩, ⟨vk HO_9⟩, ⟨vk HO_242q0⟩, ⟨vk HO_243q0⟩, ⟨vk HO_244q0⟩, ⟨bk BK223⟩, ⟨bk BK241⟩, ⟨bk BK242⟩, ⟨bk BK243⟩, ⟨bk BK265⟩, ⟨lk HB⟩⟩
           case round =>
            clear H'
            obtain ⟨x224q0_6, x243q0_6, u243000, HA, HK6, HO_9, HO_242q0, HO_243q0, HO_244q0, BK223, BK241, BK242, BK243, BK265, HB⟩ := hrel
            cases gk with
            | zero => exact absurd HA.out (by simp [num_Digits.l0])
            | succ k6 =>
             have H := HA.out
             clear HA
             simp only [num_Digits.l0] at H
             replace H := bm H
             obtain ⟨t283, A1330, H⟩ := H
             replace H : (if t283 = true then ((num_nat_tens.f k6 x243q0_6 1).bind fun t284 => (num_Digits.l0 k6 t224 x9_87 (wrap64 (x224q0_6 + 1)) x242q0_87 t284 x244q0_87 ((Int.tmod t227 2) == 0))) else ((num_shortest.f k6 x242q0_87 x243q0_6 x9_87 x244q0_87 ((Int.tmod t227 2) == 0) x224q0_6).bind fun bt287 => (some (strOfNums bt287.1, bt287.2, t224)))) = some (r1, r2, r3) := H
             have A133 := am A1330
             clear A1330
             by_cases c134 : t283 = true
             ·
              subst c134
              have H1 : ((num_nat_tens.f k6 x243q0_6 1).bind fun t284 => (num_Digits.l0 k6 t224 x9_87 (wrap64 (x224q0_6 + 1)) x242q0_87 t284 x244q0_87 ((Int.tmod t227 2) == 0))) = some (r1, r2, r3) := by rw [if_pos rfl] at H; exact H
              clear H
              have H := H1
              clear H1
              replace H := bm H
              obtain ⟨t284, A1350, H⟩ := H
              replace H : (num_Digits.l0 k6 t224 x9_87 (wrap64 (x224q0_6 + 1)) x242q0_87 t284 x244q0_87 ((Int.tmod t227 2) == 0)) = some (r1, r2, r3) := H
              have A135 := am A1350
              clear A1350
              have H' := am H
              clear H
              obtain ⟨Ao136, co136, eo136⟩ := Kd.V_slice HO_242q0.out
              subst eo136
              obtain ⟨Ao137, co137, eo137⟩ := Kd.V_slice HO_244q0.out
              subst eo137
              obtain ⟨Ao138, co138, eo138⟩ := Kd.V_slice HO_243q0.out
              subst eo138
              go_wp2_with (first | ((refine Hd.gate_clo (t := 95) rfl ?_); refine Hd.goesC_ (some 96) rfl rfl Tryd.func47 (by kernel_rfl) rfl #[.pointer (some ⟨gb241, 0, none⟩), .pointer (some ⟨gb243, 0, none⟩), .pointer (some ⟨gb242, 0, none⟩), .pointer (some ⟨gb265, 0, none⟩)] rfl rfl ?_; (with_reducible refine (Hd.num_Digits_1.calls k6 gb241 gb243 gb242 gb265 Ao136 co136 x242q0_87 Ao137 co137 x244q0_87 Ao138 co138 x243q0_6 ((Int.tmod t227 2) == 0) true _ ?side1 ?side2 ?side3 ?side4 ?side5 ?side6 ?side7 ?side8 ?side9 ?side10 A133.out).mono ?_); (case side1 => exact bk BK241); (case side2 => exact bk BK243); (case side3 => exact bk BK242); (case side4 => exact bk BK265); (case side5 => exact ck (Kd.V_reads' HO_242q0.out).2.2); (case side6 => exact (Kd.V_reads' HO_242q0.out).2.1); (case side7 => exact ck (Kd.V_reads' HO_244q0.out).2.2); (case side8 => exact (Kd.V_reads' HO_244q0.out).2.1); (case side9 => exact ck (Kd.V_reads' HO_243q0.out).2.2); (case side10 => exact (Kd.V_reads' HO_243q0.out).2.1); rintro e w139 ⟨rfl, hb⟩; refine ⟨_, rfl, ?_⟩; replace HO_9 := vb HO_9 hb; replace HO_242q0 := vb HO_242q0 hb; replace HO_243q0 := vb HO_243q0 hb; replace HO_244q0 := vb HO_244q0 hb; replace BK223 := bb BK223 hb; replace BK241 := bb BK241 hb; replace BK242 := bb BK242 hb; replace BK243 := bb BK243 hb; replace BK265 := bb BK265 hb; replace HB := lb HB hb; have hnb140 := NB242_223.out; have hnc140 := NB223_242.out; have hnb141 := NB242_241.out; have hnc141 := NB241_242.out; have hnb142 := NB242_243.out; have hnc142 := NB243_242.out; have hnb143 := NB242_265.out; have hnc143 := NB265_242.out; have hcz144_0 : w139.cell? ⟨gb242, 0, none⟩ = some (.slice Ao138 x243q0_6.length co138) := (blk_cell BK242.out 0).trans rfl; have hfz144_0 := blk_frozen BK242.out 0) | ((with_reducible refine gate_callee (f := 52) rfl ?_); refine gL (some 100) Tryd.func52 #[.slice Ao138 x243q0_6.length co138, .int .i64 1] ?_; (with_reducible refine (num_nat_tens.calls k6 (fun k_ => (k_ ≠ gb223 ∧ (k_ ≠ gb241 ∧ (k_ ≠ gb242 ∧ (k_ ≠ gb243 ∧ k_ ≠ gb265))))) _ _ x243q0_6 1 t284 _ ?side1 A135.out).mono ?_); (case side1 => exact HO_243q0.out); rintro e w145 ⟨v285, rfl, ho0, hb⟩; refine ⟨_, rfl, ?_⟩; replace HO_9 := vb HO_9 hb; replace HO_242q0 := vb HO_242q0 hb; replace HO_243q0 := vb HO_243q0 hb; replace HO_244q0 := vb HO_244q0 hb; have HO286 := am (Kd.V_lower (Kd.V_mono (ok' := fun k_ => k_ ≠ gb223 ∧ k_ ≠ gb241 ∧ k_ ≠ gb242 ∧ k_ ≠ gb243 ∧ k_ ≠ gb265) ho0 (fun k_ hk_ => ⟨Or.elim hk_ (fun hs_ => hs_.1) (fun hn_ => (Kd.freshB (bk BK223) k_ hn_)), Or.elim hk_ (fun hs_ => hs_.2.1) (fun hn_ => (Kd.freshB (bk BK241) k_ hn_)), Or.elim hk_ (fun hs_ => hs_.2.2.1) (fun hn_ => (Kd.freshB (bk BK242) k_ hn_)), Or.elim hk_ (fun hs_ => hs_.2.2.2.1) (fun hn_ => (Kd.freshB (bk BK243) k_ hn_)), Or.elim hk_ (fun hs_ => hs_.2.2.2.2) (fun hn_ => (Kd.freshB (bk BK265) k_ hn_))⟩)) (below_size (lk HB))); replace BK223 := bb BK223 hb; replace BK241 := bb BK241 hb; replace BK242 := bb BK242 hb; replace BK243 := bb BK243 hb; replace BK265 := bb BK265 hb; replace HB := lb HB hb; obtain ⟨Ao146, co146, eo146⟩ := Kd.V_slice HO286.out; subst eo146; have hcz147_0 : w145.cell? ⟨gb242, 0, none⟩ = some (.slice Ao138 x243q0_6.length co138) := (blk_cell BK242.out 0).trans rfl; have hfz147_0 := blk_frozen BK242.out 0; have hnb148 := NB223_241.out; have hnc148 := NB241_223.out; have hnb149 := NB223_243.out; have hnc149 := NB243_223.out; have hnb150 := NB223_265.out; have hnc150 := NB265_223.out; have hcz151_0 : w145.cell? ⟨gb223, 0, none⟩ = some (.int .i64 x224q0_6) := (blk_cell BK223.out 0).trans rfl; have hfz151_0 := blk_frozen BK223.out 0))
              go_roundg k6
              case measure => have := HJ2.out; have := HJ15.out; have := HJ36.out; have := HJ56.out; have := HJ87.out; have := HK6.out; omega
              case rel => exact ⟨(wrap64 (x224q0_6 + 1)), (t284), (.slice Ao146 t284.length co146), H', ⟨by have := HJ2.out; have := HJ15.out; have := HJ36.out; have := HJ56.out; have := HJ87.out; have := HK6.out; omega⟩, ⟨by exact vy <| Kd.V_mono (Kd.V_far (p := ⟨gb223, 0, none⟩) (Kd.V_far (p := ⟨gb242, 0, none⟩) (Kd.V_mono (Kd.V_mono HO_9.out (fun k_ hk => (⟨hk, hk.2.2.1⟩ : _ ∧ k_ ≠ gb242))) (fun k_ hk => (⟨hk, hk.1.1⟩ : _ ∧ k_ ≠ gb223))) (fun _ hk => hk.1.2) (.slice Ao146 t284.length co146)) (fun _ hk => hk.2) (.int .i64 (wrap64 (x224q0_6 + 1)))) (fun _ hk => ⟨hk.1.1.1, ⟨hk.1.1.2.1, ⟨hk.1.1.2.2.1, ⟨hk.1.1.2.2.2.1, hk.1.1.2.2.2.2⟩⟩⟩⟩)⟩, ⟨by exact vy <| Kd.V_mono (Kd.V_far (p := ⟨gb223, 0, none⟩) (Kd.V_far (p := ⟨gb242, 0, none⟩) (Kd.V_mono (Kd.V_mono HO_242q0.out (fun k_ hk => (⟨hk, hk.2.2.1⟩ : _ ∧ k_ ≠ gb242))) (fun k_ hk => (⟨hk, hk.1.1⟩ : _ ∧ k_ ≠ gb223))) (fun _ hk => hk.1.2) (.slice Ao146 t284.length co146)) (fun _ hk => hk.2) (.int .i64 (wrap64 (x224q0_6 + 1)))) (fun _ hk => ⟨hk.1.1.1, ⟨hk.1.1.2.1, ⟨hk.1.1.2.2.1, ⟨hk.1.1.2.2.2.1, hk.1.1.2.2.2.2⟩⟩⟩⟩)⟩, ⟨by exact vy <| Kd.V_mono (Kd.V_far (p := ⟨gb223, 0, none⟩) (Kd.V_far (p := ⟨gb242, 0, none⟩) (Kd.V_mono (Kd.V_mono HO286.out (fun k_ hk => (⟨hk, hk.2.2.1⟩ : _ ∧ k_ ≠ gb242))) (fun k_ hk => (⟨hk, hk.1.1⟩ : _ ∧ k_ ≠ gb223))) (fun _ hk => hk.1.2) (.slice Ao146 t284.length co146)) (fun _ hk => hk.2) (.int .i64 (wrap64 (x224q0_6 + 1)))) (fun _ hk => ⟨hk.1.1.1, ⟨hk.1.1.2.1, ⟨hk.1.1.2.2.1, ⟨hk.1.1.2.2.2.1, hk.1.1.2.2.2.2⟩⟩⟩⟩)⟩, ⟨by exact vy <| Kd.V_mono (Kd.V_far (p := ⟨gb223, 0, none⟩) (Kd.V_far (p := ⟨gb242, 0, none⟩) (Kd.V_mono (Kd.V_mono HO_244q0.out (fun k_ hk => (⟨hk, hk.2.2.1⟩ : _ ∧ k_ ≠ gb242))) (fun k_ hk => (⟨hk, hk.1.1⟩ : _ ∧ k_ ≠ gb223))) (fun _ hk => hk.1.2) (.slice Ao146 t284.length co146)) (fun _ hk => hk.2) (.int .i64 (wrap64 (x224q0_6 + 1)))) (fun _ hk => ⟨hk.1.1.1, ⟨hk.1.1.2.1, ⟨hk.1.1.2.2.1, ⟨hk.1.1.2.2.2.1, hk.1.1.2.2.2.2⟩⟩⟩⟩)⟩, ⟨by (with_reducible repeat (first | refine blk_drewN ?_ _ | refine blk_drew ?_ | refine blk_alloc ?_ _)); refine blk_put (cs := #[.int .i64 x224q0_6]) ?_ 0 _ rfl; refine bf NB223_242 ?_; exact bk BK223⟩, ⟨by refine bf NB241_223 ?_; refine bf NB241_242 ?_; exact bk BK241⟩, ⟨by refine bf NB242_223 ?_; (with_reducible repeat (first | refine blk_drewN ?_ _ | refine blk_drew ?_ | refine blk_alloc ?_ _)); refine blk_put (cs := #[.slice Ao138 x243q0_6.length co138]) ?_ 0 _ rfl; exact bk BK242⟩, ⟨by refine bf NB243_223 ?_; refine bf NB243_242 ?_; exact bk BK243⟩, ⟨by refine bf NB265_223 ?_; refine bf NB265_242 ?_; exact bk BK265⟩, ⟨lk HB⟩⟩
             replace c134 := Bool.eq_false_iff.mpr c134
             subst c134
             have H1 : ((num_shortest.f k6 x242q0_87 x243q0_6 x9_87 x244q0_87 ((Int.tmod t227 2) == 0) x224q0_6).bind fun bt287 => (some (strOfNums bt287.1, bt287.2, t224))) = some (r1, r2, r3) := by rw [if_neg (show ¬ (false = true) by decide)] at H; exact H
             clear H
             have H := H1
             clear H1
             replace H := bm H
             obtain ⟨⟨t287, t290⟩, A1520, H⟩ := H
             replace H : (some (strOfNums t287, t290, t224)) = some (r1, r2, r3) := H
             have A152 := am A1520
             clear A1520
             simp only [Option.some.injEq, Prod.mk.injEq] at H
             obtain ⟨rfl, rfl, rfl⟩ := H
             obtain ⟨Ao153, co153, eo153⟩ := Kd.V_slice HO_242q0.out
             subst eo153
             obtain ⟨Ao154, co154, eo154⟩ := Kd.V_slice HO_244q0.out
             subst eo154
             obtain ⟨Ao155, co155, eo155⟩ := Kd.V_slice HO_243q0.out
             subst eo155
             try go_wp2_with (first | ((refine Hd.gate_clo (t := 95) rfl ?_); refine Hd.goesC_ (some 96) rfl rfl Tryd.func47 (by kernel_rfl) rfl #[.pointer (some ⟨gb241, 0, none⟩), .pointer (some ⟨gb243, 0, none⟩), .pointer (some ⟨gb242, 0, none⟩), .pointer (some ⟨gb265, 0, none⟩)] rfl rfl ?_; (with_reducible refine (Hd.num_Digits_1.calls k6 gb241 gb243 gb242 gb265 Ao153 co153 x242q0_87 Ao154 co154 x244q0_87 Ao155 co155 x243q0_6 ((Int.tmod t227 2) == 0) false _ ?side1 ?side2 ?side3 ?side4 ?side5 ?side6 ?side7 ?side8 ?side9 ?side10 A133.out).mono ?_); (case side1 => exact bk BK241); (case side2 => exact bk BK243); (case side3 => exact bk BK242); (case side4 => exact bk BK265); (case side5 => exact ck (Kd.V_reads' HO_242q0.out).2.2); (case side6 => exact (Kd.V_reads' HO_242q0.out).2.1); (case side7 => exact ck (Kd.V_reads' HO_244q0.out).2.2); (case side8 => exact (Kd.V_reads' HO_244q0.out).2.1); (case side9 => exact ck (Kd.V_reads' HO_243q0.out).2.2); (case side10 => exact (Kd.V_reads' HO_243q0.out).2.1); rintro e w156 ⟨rfl, hb⟩; refine ⟨_, rfl, ?_⟩; replace HO_9 := vb HO_9 hb; replace HO_242q0 := vb HO_242q0 hb; replace HO_243q0 := vb HO_243q0 hb; replace HO_244q0 := vb HO_244q0 hb; replace BK223 := bb BK223 hb; replace BK241 := bb BK241 hb; replace BK242 := bb BK242 hb; replace BK243 := bb BK243 hb; replace BK265 := bb BK265 hb; replace HB := lb HB hb; have hnb157 := NB241_223.out; have hnc157 := NB223_241.out; have hnb158 := NB241_242.out; have hnc158 := NB242_241.out; have hnb159 := NB241_243.out; have hnc159 := NB243_241.out; have hnb160 := NB241_265.out; have hnc160 := NB265_241.out; have hcz161_0 : w156.cell? ⟨gb241, 0, none⟩ = some (.slice Ao153 x242q0_87.length co153) := (blk_cell BK241.out 0).trans rfl; have hfz161_0 := blk_frozen BK241.out 0; have hnb162 := NB242_223.out; have hnc162 := NB223_242.out; have hnb163 := NB242_243.out; have hnc163 := NB243_242.out; have hnb164 := NB242_265.out; have hnc164 := NB265_242.out; have hcz165_0 : w156.cell? ⟨gb242, 0, none⟩ = some (.slice Ao155 x243q0_6.length co155) := (blk_cell BK242.out 0).trans rfl; have hfz165_0 := blk_frozen BK242.out 0; have hnb166 := NB243_223.out; have hnc166 := NB223_243.out; have hnb167 := NB243_265.out; have hnc167 := NB265_243.out; have hcz168_0 : w156.cell? ⟨gb243, 0, none⟩ = some (.slice Ao154 x244q0_87.length co154) := (blk_cell BK243.out 0).trans rfl; have hfz168_0 := blk_frozen BK243.out 0; have hnb169 := NB265_223.out; have hnc169 := NB223_265.out; have hcz170_0 : w156.cell? ⟨gb265, 0, none⟩ = some (.bool ((Int.tmod t227 2) == 0)) := (blk_cell BK265.out 0).trans rfl; have hfz170_0 := blk_frozen BK265.out 0; obtain ⟨Ao171, co171, eo171⟩ := Kd.V_slice HO_9.out; subst eo171; have HIb223 := am (show IsS3 w _ gb223 x224q0_6 from ⟨BK223.out, GE223.out⟩)) | ((with_reducible refine gate_callee (f := 53) rfl ?_); refine gL (some 106) Tryd.func53 #[.slice Ao153 x242q0_87.length co153, .slice Ao155 x243q0_6.length co155, .slice Ao171 x9_87.length co171, .slice Ao154 x244q0_87.length co154, .bool ((Int.tmod t227 2) == 0), .pointer (some ⟨gb223, 0, none⟩)] ?_; (with_reducible refine (num_shortest.calls k6 (fun k_ => (k_ ≠ gb223 ∧ (k_ ≠ gb241 ∧ (k_ ≠ gb242 ∧ (k_ ≠ gb243 ∧ k_ ≠ gb265))))) _ _ x242q0_87 _ _ x243q0_6 (fun k_ => (k_ ≠ gb223 ∧ (k_ ≠ gb241 ∧ (k_ ≠ gb242 ∧ (k_ ≠ gb243 ∧ k_ ≠ gb265))))) _ _ x9_87 (fun k_ => (k_ ≠ gb223 ∧ (k_ ≠ gb241 ∧ (k_ ≠ gb242 ∧ (k_ ≠ gb243 ∧ k_ ≠ gb265))))) _ _ x244q0_87 ((Int.tmod t227 2) == 0) gb223 x224q0_6 t287 t290 w _ ?side1 ?side2 ?side3 ?side4 ?side5 ?side6 ?side7 ?side8 A152.out).mono ?_); (case side1 => repeat (first | (with_reducible first | exact HIb223.out | apply IsS3.alloc | apply IsS3.drewN | apply IsS3.drew | apply IsS3.set_0 | refine IsS3.far ?_ NB223_241.out _ | refine IsS3.far ?_ NB223_242.out _ | refine IsS3.far ?_ NB223_243.out _ | refine IsS3.far ?_ NB223_265.out _) | exact HIb223.out)); (case side2 => repeat (first | (with_reducible first | exact HB.out | apply below_alloc | apply pw_below_drewN | apply below_drew1 | refine below_set ?_ (IsS3.ge HIb223.out) | refine below_set ?_ GE241.out | refine below_set ?_ GE242.out | refine below_set ?_ GE243.out | refine below_set ?_ GE265.out) | exact HB.out)); (case side3 => exact Kd.V_mono (HO_242q0.out) (fun k_ hk_ => ⟨hk_, hk_.1⟩)); (case side4 => exact ck (Kd.V_reads' HO_243q0.out).2.2); (case side5 => exact (Kd.V_reads' HO_243q0.out).2.1); (case side6 => exact Hd.far_V 0 HO_243q0.out (fun k_ hk_ => hk_.1)); (case side7 => exact Kd.V_mono (HO_9.out) (fun k_ hk_ => ⟨hk_, hk_.1⟩)); (case side8 => exact Kd.V_mono (HO_244q0.out) (fun k_ hk_ => ⟨hk_, hk_.1⟩)); rintro e w172 ⟨v288, rfl, ho0, hi, hb, hk⟩; refine ⟨_, rfl, ?_⟩; have n0_ := am (Kd.V_mono (Kd.V_told (Kd.V_oldK (Kd.V_mono (ok := fun k_ => (k_ ≠ gb223 ∧ (k_ ≠ gb241 ∧ (k_ ≠ gb242 ∧ (k_ ≠ gb243 ∧ k_ ≠ gb265))))) (vk HO_9) (fun k_ hk_ => (⟨hk_, hk_.1⟩ : _ ∧ k_ ≠ gb223))) hk) (Kd.R_base ho0)) (fun _ h_ => h_.1)); have n1_ := am (Kd.V_mono (Kd.V_told (Kd.V_oldK (Kd.V_mono (ok := fun k_ => (k_ ≠ gb223 ∧ (k_ ≠ gb241 ∧ (k_ ≠ gb242 ∧ (k_ ≠ gb243 ∧ k_ ≠ gb265))))) (vk HO_242q0) (fun k_ hk_ => (⟨hk_, hk_.1⟩ : _ ∧ k_ ≠ gb223))) hk) (Kd.R_base ho0)) (fun _ h_ => h_.1)); have n2_ := am (Kd.V_mono (Kd.V_told (Kd.V_oldK (Kd.V_mono (ok := fun k_ => (k_ ≠ gb223 ∧ (k_ ≠ gb241 ∧ (k_ ≠ gb242 ∧ (k_ ≠ gb243 ∧ k_ ≠ gb265))))) (vk HO_243q0) (fun k_ hk_ => (⟨hk_, hk_.1⟩ : _ ∧ k_ ≠ gb223))) hk) (Kd.R_base ho0)) (fun _ h_ => h_.1)); have n3_ := am (Kd.V_mono (Kd.V_told (Kd.V_oldK (Kd.V_mono (ok := fun k_ => (k_ ≠ gb223 ∧ (k_ ≠ gb241 ∧ (k_ ≠ gb242 ∧ (k_ ≠ gb243 ∧ k_ ≠ gb265))))) (vk HO_244q0) (fun k_ hk_ => (⟨hk_, hk_.1⟩ : _ ∧ k_ ≠ gb223))) hk) (Kd.R_base ho0)) (fun _ h_ => h_.1)); have n4_ := am (KeepBut.blk hk (g' := gb241) (o := .cells #[.slice Ao153 x242q0_87.length co153] 56 (0, 0)) (bk BK241) NB241_223.out (by simp)); have n5_ := am (KeepBut.blk hk (g' := gb242) (o := .cells #[.slice Ao155 x243q0_6.length co155] 56 (0, 0)) (bk BK242) NB242_223.out (by simp)); have n6_ := am (KeepBut.blk hk (g' := gb243) (o := .cells #[.slice Ao154 x244q0_87.length co154] 56 (0, 0)) (bk BK243) NB243_223.out (by simp)); have n7_ := am (KeepBut.blk hk (g' := gb265) (o := .cells #[.bool ((Int.tmod t227 2) == 0)] 4 (0, 0)) (bk BK265) NB265_223.out (by simp)); have n8_ := am (Kd.R_lower (Kd.R_mono (ok' := fun k_ => True) ho0 (fun _ hk_ => trivial)) (below_size (by repeat (first | (with_reducible first | exact HB.out | apply below_alloc | apply pw_below_drewN | apply below_drew1 | refine below_set ?_ (IsS3.ge HIb223.out) | refine below_set ?_ GE241.out | refine below_set ?_ GE242.out | refine below_set ?_ GE243.out | refine below_set ?_ GE265.out) | exact HB.out)))); have n9_ := am (hb); have n10_ := am (hi.1); clear HO_9 HO_242q0 HO_243q0 HO_244q0 BK241 BK242 BK243 BK265 HB BK223; have HO_9 := n0_; have HO_242q0 := n1_; have HO_243q0 := n2_; have HO_244q0 := n3_; have BK241 := n4_; have BK242 := n5_; have BK243 := n6_; have BK265 := n7_; have HO289 := n8_; have HB := n9_; have BK223 := n10_; clear n0_ n1_ n2_ n3_ n4_ n5_ n6_ n7_ n8_ n9_ n10_))
             have n0_ := am (Kd.V_drew HO_9.out)
             have n1_ := am (Kd.V_drew HO_242q0.out)
             have n2_ := am (Kd.V_drew HO_243q0.out)
             have n3_ := am (Kd.V_drew HO_244q0.out)
             have n4_ := am (Kd.R_drew HO289.out)
             have n5_ := am (blk_drew BK223.out)
             have n6_ := am (blk_drew BK241.out)
             have n7_ := am (blk_drew BK242.out)
             have n8_ := am (blk_drew BK243.out)
             have n9_ := am (blk_drew BK265.out)
             have n10_ := am (below_drew1 HB.out)
             clear HO_9
             clear HO_242q0
             clear HO_243q0
             clear HO_244q0
             clear HO289
             clear BK223
             clear BK241
             clear BK242
             clear BK243
             clear BK265
             clear HB
             have HO_9 := n0_
             have HO_242q0 := n1_
             have HO_243q0 := n2_
             have HO_244q0 := n3_
             have HO289 := n4_
             have BK223 := n5_
             have BK241 := n6_
             have BK242 := n7_
             have BK243 := n8_
             have BK265 := n9_
             have HB := n10_
             clear n0_ n1_ n2_ n3_ n4_ n5_ n6_ n7_ n8_ n9_ n10_
             have hcv174 := own_string (P := Tryd.prog) Tryd.underlying43 Tryd.underlying5 Tryd.underlying9 (Kd.own_of_R HO289.out)
             refine start_ (n := 7) (S := fun w' => w'.cell? ⟨gb223, 0, none⟩ = some (.int .i64 t290) ∧ (convert 43 9 v288).run Tryd.prog w' = .ok (.string (strOfNums t287)) w') (ds := [5]) #[false, false, false, false, false, false, false] (by kernel_rfl) rfl rfl ⟨(blk_cell BK223.out 0).trans rfl, hcv174⟩ (fun hHeld => ?_)
             generalize w172.drew = w173 at HO_9 HO_242q0 HO_243q0 HO_244q0 HO289 BK223 BK241 BK242 BK243 BK265 HB hHeld ⊢
             refine pure_ (i := 0) (N := some 107) (v := ?_) (a' := ?_) #[true, false, false, false, false, false, false] rfl rfl (by kernel_rfl) (fun _ _ _ h => h) (Or.inl ⟨by rfl, ?_⟩) ?_ ?_
             rotate_left
             ·
              intro w'
              go_simp
              with_reducible rfl
             rotate_left
             ·
              exact pz
             refine take_ (i := 1) (N := some 108) (v := ?_) (a' := ?_) #[true, true, false, false, false, false, false] rfl rfl (by kernel_rfl) (fun _ _ _ h => h) (Or.inl ⟨by rfl, ?_⟩) hHeld ?_ ?_
             rotate_left
             ·
              rintro w' ⟨s0, s1⟩
              go_simp
              with_reducible rfl
             rotate_left
             ·
              exact pz
             refine pure_ (i := 3) (N := some 110) (v := ?_) (a' := ?_) #[true, true, false, true, false, false, false] rfl rfl (by kernel_rfl) (fun _ _ _ h => h) (Or.inl ⟨by rfl, ?_⟩) ?_ ?_
             rotate_left
             ·
              intro w'
              go_simp
              with_reducible rfl
             rotate_left
             ·
              exact pz
             refine pure_ (i := 4) (N := some 2) (v := ?_) (a' := ?_) #[true, true, false, true, true, false, false] rfl rfl (by kernel_rfl) (fun _ _ _ h => h) (Or.inl ⟨by rfl, ?_⟩) ?_ ?_
             rotate_left
             ·
              intro w'
              go_simp
              with_reducible rfl
             rotate_left
             ·
              exact pz
             refine take_ (i := 2) (N := some 109) (v := ?_) (a' := ?_) #[true, true, true, true, true, false, false] rfl rfl (by kernel_rfl) (fun _ _ _ h => h) (Or.inl ⟨by rfl, ?_⟩) hHeld ?_ ?_
             rotate_left
             ·
              rintro w' ⟨s0, s1⟩
              go_simp
              with_reducible rfl
             rotate_left
             ·
              exact pz
             refine last_ (i := 5) (N := none) #[true, true, true, true, true, true, false] rfl rfl (by kernel_rfl) (by decide) (fun K hK => ?_)
             have hs175 : w173.cell? ⟨gb223, 0, none⟩ = some (.int .i64 t290) := (blk_cell BK223.out 0).trans rfl
             have hfs175 := blk_frozen BK223.out 0
             have hns175_1 := NB241_223.out
             have hns175_2 := NB242_223.out
             have hns175_3 := NB243_223.out
             have hns175_4 := NB265_223.out
             have hms175_1 := NB223_241.out
             have hms175_2 := NB223_242.out
             have hms175_3 := NB223_243.out
             have hms175_4 := NB223_265.out
             refine skip_ (w1 := ?_) (by rfl) rfl ?_ ?_
             rotate_left
             ·
              go_simp
              rfl
             refine hK.out _ _ ?_
             clear hK K
             refine pure_ (i := 6) (N := some 4) (v := ?_) (a' := ?_) #[true, true, true, true, true, true, true] rfl rfl (by kernel_rfl) (fun _ _ _ h => h) (Or.inl ⟨by rfl, ?_⟩) ?_ ?_
             rotate_left
             ·
              intro w'
              go_simp
              with_reducible rfl
             rotate_left
             ·
              exact pz
             refine done_ (by kernel_rfl) ?_
             (first | refine Hd.letter_ (fun w176 hw => ?_) | refine Hd.letterL_ (fun w176 hw => ?_) | refine Hd.letterE_ (fun w176 hw => ?_))
             have n0_ : Aside0 (Kd.V (Kd.int .u32) 102 w176 w.heap.size (fun k_ => some k_ ≠ (v288 : Value).ownBlock ∧ k_ ≠ gb223 ∧ k_ ≠ gb241 ∧ k_ ≠ gb242 ∧ k_ ≠ gb243 ∧ k_ ≠ gb265) (.slice Ao171 x9_87.length co171) x9_87) := ⟨by rw [hw]; exact (by exact vy <| Kd.V_mono (Kd.V_far (p := ⟨gb223, 0, none⟩) (Kd.V_mono HO_9.out (fun k_ hk => (⟨hk, hk.1.1⟩ : _ ∧ k_ ≠ gb223))) (fun _ hk => hk.2) (.int .i64 t290)) (fun _ hk => ⟨hk.1.2, ⟨hk.1.1.1, ⟨hk.1.1.2.1, ⟨hk.1.1.2.2.1, ⟨hk.1.1.2.2.2.1, hk.1.1.2.2.2.2⟩⟩⟩⟩⟩))⟩
             have n1_ : Aside0 (Kd.V (Kd.int .u32) 102 w176 w.heap.size (fun k_ => some k_ ≠ (v288 : Value).ownBlock ∧ k_ ≠ gb223 ∧ k_ ≠ gb241 ∧ k_ ≠ gb242 ∧ k_ ≠ gb243 ∧ k_ ≠ gb265) (.slice Ao153 x242q0_87.length co153) x242q0_87) := ⟨by rw [hw]; exact (by exact vy <| Kd.V_mono (Kd.V_far (p := ⟨gb223, 0, none⟩) (Kd.V_mono HO_242q0.out (fun k_ hk => (⟨hk, hk.1.1⟩ : _ ∧ k_ ≠ gb223))) (fun _ hk => hk.2) (.int .i64 t290)) (fun _ hk => ⟨hk.1.2, ⟨hk.1.1.1, ⟨hk.1.1.2.1, ⟨hk.1.1.2.2.1, ⟨hk.1.1.2.2.2.1, hk.1.1.2.2.2.2⟩⟩⟩⟩⟩))⟩
             have n2_ : Aside0 (Kd.V (Kd.int .u32) 102 w176 w.heap.size (fun k_ => some k_ ≠ (v288 : Value).ownBlock ∧ k_ ≠ gb223 ∧ k_ ≠ gb241 ∧ k_ ≠ gb242 ∧ k_ ≠ gb243 ∧ k_ ≠ gb265) (.slice Ao155 x243q0_6.length co155) x243q0_6) := ⟨by rw [hw]; exact (by exact vy <| Kd.V_mono (Kd.V_far (p := ⟨gb223, 0, none⟩) (Kd.V_mono HO_243q0.out (fun k_ hk => (⟨hk, hk.1.1⟩ : _ ∧ k_ ≠ gb223))) (fun _ hk => hk.2) (.int .i64 t290)) (fun _ hk => ⟨hk.1.2, ⟨hk.1.1.1, ⟨hk.1.1.2.1, ⟨hk.1.1.2.2.1, ⟨hk.1.1.2.2.2.1, hk.1.1.2.2.2.2⟩⟩⟩⟩⟩))⟩
             have n3_ : Aside0 (Kd.V (Kd.int .u32) 102 w176 w.heap.size (fun k_ => some k_ ≠ (v288 : Value).ownBlock ∧ k_ ≠ gb223 ∧ k_ ≠ gb241 ∧ k_ ≠ gb242 ∧ k_ ≠ gb243 ∧ k_ ≠ gb265) (.slice Ao154 x244q0_87.length co154) x244q0_87) := ⟨by rw [hw]; exact (by exact vy <| Kd.V_mono (Kd.V_far (p := ⟨gb223, 0, none⟩) (Kd.V_mono HO_244q0.out (fun k_ hk => (⟨hk, hk.1.1⟩ : _ ∧ k_ ≠ gb223))) (fun _ hk => hk.2) (.int .i64 t290)) (fun _ hk => ⟨hk.1.2, ⟨hk.1.1.1, ⟨hk.1.1.2.1, ⟨hk.1.1.2.2.1, ⟨hk.1.1.2.2.2.1, hk.1.1.2.2.2.2⟩⟩⟩⟩⟩))⟩
             have n4_ : Aside0 (Kd.R (Kd.int .u8) 5 w176 w.heap.size (fun _ => True) v288 t287) := ⟨by rw [hw]; exact (by exact ry <| Kd.R_mono (Kd.R_far (p := ⟨gb223, 0, none⟩) (Kd.R_types HO289.out BK223.out (by decide)) (fun _ hk => hk.2) (.int .i64 t290)) (fun _ hk => trivial))⟩
             have n5_ : Aside0 (w176.heap[gb223]? = some (.cells #[.int .i64 t290] 3 (0, 0))) := ⟨by rw [hw]; exact (by (with_reducible repeat (first | refine blk_drewN ?_ _ | refine blk_drew ?_ | refine blk_alloc ?_ _)); refine blk_put (cs := #[.int .i64 t290]) ?_ 0 _ rfl; exact bk BK223)⟩
             have n6_ : Aside0 (w176.heap[gb241]? = some (.cells #[.slice Ao153 x242q0_87.length co153] 56 (0, 0))) := ⟨by rw [hw]; exact (by refine bf NB241_223 ?_; exact bk BK241)⟩
             have n7_ : Aside0 (w176.heap[gb242]? = some (.cells #[.slice Ao155 x243q0_6.length co155] 56 (0, 0))) := ⟨by rw [hw]; exact (by refine bf NB242_223 ?_; exact bk BK242)⟩
             have n8_ : Aside0 (w176.heap[gb243]? = some (.cells #[.slice Ao154 x244q0_87.length co154] 56 (0, 0))) := ⟨by rw [hw]; exact (by refine bf NB243_223 ?_; exact bk BK243)⟩
             have n9_ : Aside0 (w176.heap[gb265]? = some (.cells #[.bool ((Int.tmod t227 2) == 0)] 4 (0, 0))) := ⟨by rw [hw]; exact (by refine bf NB265_223 ?_; exact bk BK265)⟩
             have n10_ : Aside0 (Below w.heap.size w w176) := ⟨by rw [hw]; exact (lk HB)⟩
             clear hw
             (try clear HO_9)
             (try clear HO_242q0)
             (try clear HO_243q0)
             (try clear HO_244q0)
             (try clear HO289)
             (try clear BK223)
             (try clear BK241)
             (try clear BK242)
             (try clear BK243)
             (try clear BK265)
             (try clear HB)
             have HO_9 := n0_
             have HO_242q0 := n1_
             have HO_243q0 := n2_
             have HO_244q0 := n3_
             have HO289 := n4_
             have BK223 := n5_
             have BK241 := n6_
             have BK242 := n7_
             have BK243 := n8_
             have BK265 := n9_
             have HB := n10_
             clear n0_ n1_ n2_ n3_ n4_ n5_ n6_ n7_ n8_ n9_ n10_
             try go_wp2
             refine bodyPost_ret (Hd.results_tct rfl _ _ gb223 3 (.int .i64 t290) (0, 0) _ rfl (bk BK223) Tryd.underlying3 rfl) rfl ?_
             exact ex (lk HB)
mutual
def num_nearest.j0 : Nat → Int → Int → Int → Bool → Option (Int)
 | 0, _, _, _, _ => none
 | k + 1, x1, x7, x8, x46 => if x46 = true then (num_nearest.j1 k x1 x7 (IntKind.u64.wrap (x8 + 1))) else (num_nearest.j1 k x1 x7 x8)
def num_nearest.j1 : Nat → Int → Int → Int → Option (Int)
 | 0, _, _, _ => none
 | k + 1, x1, x7, x8 => if x8 = 9007199254740992 then (num_nearest.j2 k (wrap64 ((wrap64 (x1 + x7)) + 1)) 4503599627370496) else (num_nearest.j2 k (wrap64 (x1 + x7)) x8)
def num_nearest.j2 : Nat → Int → Int → Option (Int)
 | 0, _, _ => none
 | k + 1, x1, x8 => if x1 > 971 then (some 9218868437227405312) else (if x8 < 4503599627370496 then (some x8) else (some (Go.bits .or .u64 (IntKind.u64.wrap ((IntKind.u64.wrap (wrap64 ((wrap64 (x1 - (-1074))) + 1))) * 4503599627370496)) (Go.bits .and .u64 x8 4503599627370495))))
end
def num_nearest.f (k : Nat) (a0 : Int) (a1 : Int) (a2 : Bool) : Option (Int) := (Hd.bits_Len64.f a0).bind fun t568 => (if (mx (wrap64 ((wrap64 (t568 - 52)) - 1)) (wrap64 ((-1074) - a1))) > 63 then (some 0) else (if 0 ≤ (mx (wrap64 ((wrap64 (t568 - 52)) - 1)) (wrap64 ((-1074) - a1))) then (if 0 ≤ (wrap64 ((mx (wrap64 ((wrap64 (t568 - 52)) - 1)) (wrap64 ((-1074) - a1))) - 1)) then (if (Go.bits .and .u64 a0 (IntKind.u64.wrap ((shl .u64 1 (mx (wrap64 ((wrap64 (t568 - 52)) - 1)) (wrap64 ((-1074) - a1)))) - 1))) > (shl .u64 1 (wrap64 ((mx (wrap64 ((wrap64 (t568 - 52)) - 1)) (wrap64 ((-1074) - a1))) - 1))) then (num_nearest.j0 k a1 (mx (wrap64 ((wrap64 (t568 - 52)) - 1)) (wrap64 ((-1074) - a1))) (shr .u64 a0 (mx (wrap64 ((wrap64 (t568 - 52)) - 1)) (wrap64 ((-1074) - a1)))) true) else (if (Go.bits .and .u64 a0 (IntKind.u64.wrap ((shl .u64 1 (mx (wrap64 ((wrap64 (t568 - 52)) - 1)) (wrap64 ((-1074) - a1)))) - 1))) = (shl .u64 1 (wrap64 ((mx (wrap64 ((wrap64 (t568 - 52)) - 1)) (wrap64 ((-1074) - a1))) - 1))) then (if a2 = true then (num_nearest.j0 k a1 (mx (wrap64 ((wrap64 (t568 - 52)) - 1)) (wrap64 ((-1074) - a1))) (shr .u64 a0 (mx (wrap64 ((wrap64 (t568 - 52)) - 1)) (wrap64 ((-1074) - a1)))) true) else (num_nearest.j0 k a1 (mx (wrap64 ((wrap64 (t568 - 52)) - 1)) (wrap64 ((-1074) - a1))) (shr .u64 a0 (mx (wrap64 ((wrap64 (t568 - 52)) - 1)) (wrap64 ((-1074) - a1)))) ((Int.tmod (shr .u64 a0 (mx (wrap64 ((wrap64 (t568 - 52)) - 1)) (wrap64 ((-1074) - a1)))) 2) == 1))) else (num_nearest.j0 k a1 (mx (wrap64 ((wrap64 (t568 - 52)) - 1)) (wrap64 ((-1074) - a1))) (shr .u64 a0 (mx (wrap64 ((wrap64 (t568 - 52)) - 1)) (wrap64 ((-1074) - a1)))) false))) else (none)) else (none)))
theorem num_nearest.mono_l : ∀ k, (∀ y0 y1 y2 y3, LeO (num_nearest.j0 k y0 y1 y2 y3) (num_nearest.j0 (k + 1) y0 y1 y2 y3)) ∧ (∀ y0 y1 y2, LeO (num_nearest.j1 k y0 y1 y2) (num_nearest.j1 (k + 1) y0 y1 y2)) ∧ (∀ y0 y1, LeO (num_nearest.j2 k y0 y1) (num_nearest.j2 (k + 1) y0 y1))
 | 0 => ⟨fun _ _ _ _ r h => by simp [num_nearest.j0] at h, fun _ _ _ r h => by simp [num_nearest.j1] at h, fun _ _ r h => by simp [num_nearest.j2] at h⟩
 | k + 1 => by
  obtain ⟨ih0, ih1, ih2⟩ := num_nearest.mono_l k
  refine ⟨?_, ?_, ?_⟩ <;> intros <;> (first | unfold num_nearest.j0 | unfold num_nearest.j1 | unfold num_nearest.j2) <;> repeat' (with_reducible first | apply ih0 | apply ih1 | apply ih2 | apply LeO.refl | apply LeO.none | apply LeO.ite | refine LeO.bind ?_ (fun _ => ?_))
theorem num_nearest.mono : ∀ a0 a1 a2 k, LeO (num_nearest.f k a0 a1 a2) (num_nearest.f (k + 1) a0 a1 a2) := by
 intro a0 a1 a2 k
 obtain ⟨ih0, ih1, ih2⟩ := num_nearest.mono_l k
 unfold num_nearest.f
 repeat' (with_reducible first | apply ih0 | apply ih1 | apply ih2 | apply LeO.refl | apply LeO.none | apply LeO.ite | refine LeO.bind ?_ (fun _ => ?_))
set_option maxHeartbeats 8000000 in
theorem num_nearest.calls (k : Nat) (a0 : Int) (a1 : Int) (a2 : Bool) (r : Int) (w : World) (h : num_nearest.f k a0 a1 a2 = some r) :
  Calls Tryd.prog 102 #[.int .u64 a0, .int .i64 a1, .bool a2] w fun e w' => e = .returned (.int .u64 r) ∧ Below w.heap.size w w' := by
 have HB := am (Below.refl w.heap.size w)
 have H : ((Hd.bits_Len64.f a0).bind fun t568 => (if (mx (wrap64 ((wrap64 (t568 - 52)) - 1)) (wrap64 ((-1074) - a1))) > 63 then (some 0) else (if 0 ≤ (mx (wrap64 ((wrap64 (t568 - 52)) - 1)) (wrap64 ((-1074) - a1))) then (if 0 ≤ (wrap64 ((mx (wrap64 ((wrap64 (t568 - 52)) - 1)) (wrap64 ((-1074) - a1))) - 1)) then (if (Go.bits .and .u64 a0 (IntKind.u64.wrap ((shl .u64 1 (mx (wrap64 ((wrap64 (t568 - 52)) - 1)) (wrap64 ((-1074) - a1)))) - 1))) > (shl .u64 1 (wrap64 ((mx (wrap64 ((wrap64 (t568 - 52)) - 1)) (wrap64 ((-1074) - a1))) - 1))) then (num_nearest.j0 k a1 (mx (wrap64 ((wrap64 (t568 - 52)) - 1)) (wrap64 ((-1074) - a1))) (shr .u64 a0 (mx (wrap64 ((wrap64 (t568 - 52)) - 1)) (wrap64 ((-1074) - a1)))) true) else (if (Go.bits .and .u64 a0 (IntKind.u64.wrap ((shl .u64 1 (mx (wrap64 ((wrap64 (t568 - 52)) - 1)) (wrap64 ((-1074) - a1)))) - 1))) = (shl .u64 1 (wrap64 ((mx (wrap64 ((wrap64 (t568 - 52)) - 1)) (wrap64 ((-1074) - a1))) - 1))) then (if a2 = true then (num_nearest.j0 k a1 (mx (wrap64 ((wrap64 (t568 - 52)) - 1)) (wrap64 ((-1074) - a1))) (shr .u64 a0 (mx (wrap64 ((wrap64 (t568 - 52)) - 1)) (wrap64 ((-1074) - a1)))) true) else (num_nearest.j0 k a1 (mx (wrap64 ((wrap64 (t568 - 52)) - 1)) (wrap64 ((-1074) - a1))) (shr .u64 a0 (mx (wrap64 ((wrap64 (t568 - 52)) - 1)) (wrap64 ((-1074) - a1)))) ((Int.tmod (shr .u64 a0 (mx (wrap64 ((wrap64 (t568 - 52)) - 1)) (wrap64 ((-1074) - a1)))) 2) == 1))) else (num_nearest.j0 k a1 (mx (wrap64 ((wrap64 (t568 - 52)) - 1)) (wrap64 ((-1074) - a1))) (shr .u64 a0 (mx (wrap64 ((wrap64 (t568 - 52)) - 1)) (wrap64 ((-1074) - a1)))) false))) else (none)) else (none)))) = some r := h
 clear h
 replace H := bm H
 obtain ⟨t568, A40, H⟩ := H
 have A4 := am A40
 clear A40
 obtain ⟨ji5, hji5⟩ : ∃ j_ : Int, (mx (wrap64 ((wrap64 (t568 - 52)) - 1)) (wrap64 ((-1074) - a1))) = j_ := ⟨_, rfl⟩
 replace H : (if (ji5) > 63 then (some 0) else (if 0 ≤ (ji5) then (if 0 ≤ (wrap64 ((ji5) - 1)) then (if (Go.bits .and .u64 a0 (IntKind.u64.wrap ((shl .u64 1 (ji5)) - 1))) > (shl .u64 1 (wrap64 ((ji5) - 1))) then (num_nearest.j0 k a1 ji5 (shr .u64 a0 (ji5)) true) else (if (Go.bits .and .u64 a0 (IntKind.u64.wrap ((shl .u64 1 (ji5)) - 1))) = (shl .u64 1 (wrap64 ((ji5) - 1))) then (if a2 = true then (num_nearest.j0 k a1 ji5 (shr .u64 a0 (ji5)) true) else (num_nearest.j0 k a1 ji5 (shr .u64 a0 (ji5)) ((Int.tmod (shr .u64 a0 (ji5)) 2) == 1))) else (num_nearest.j0 k a1 ji5 (shr .u64 a0 (ji5)) false))) else (none)) else (none))) = some r := by first | (rw [hji5] at H; exact H) | (simp only [hji5] at H ⊢; exact H)
 (try rw [hji5] at A4)
 have hji5_ : (if (wrap64 ((wrap64 (t568 - 52)) - 1)) < (wrap64 ((-1074) - a1)) then (wrap64 ((-1074) - a1)) else (wrap64 ((wrap64 (t568 - 52)) - 1))) = ji5 := hji5
 by_cases c6 : (ji5) > 63
 ·
  rw [if_pos c6] at H
  have c6b0 : decide (63 < (ji5)) = true := dt c6
  clear c6
  obtain rfl := Option.some.inj H
  go_enter Tryd.func102, Tryd.ntmps102
  go_wp2_with (first | (go_at_call 119; (with_reducible refine (Hd.bits_Len64.calls a0 t568 _ A4.out).mono ?_); rintro e w' ⟨rfl, ⟨nd, rfl⟩⟩; (try first | exact ⟨rfl, _, World.drewN_drewN _ _ _⟩ | exact ⟨rfl, _, Eq.trans (World.drewN_drewN _ _ _) (congrArg (World.drewN _) (Nat.add_assoc _ _ _))⟩)))
  repeat (go_quiet (first | (go_at_call 119; (with_reducible refine (Hd.bits_Len64.calls a0 t568 _ A4.out).mono ?_); rintro e w' ⟨rfl, ⟨nd, rfl⟩⟩; (try first | exact ⟨rfl, _, World.drewN_drewN _ _ _⟩ | exact ⟨rfl, _, Eq.trans (World.drewN_drewN _ _ _) (congrArg (World.drewN _) (Nat.add_assoc _ _ _))⟩))); try go_wp2_with (first | (go_at_call 119; (with_reducible refine (Hd.bits_Len64.calls a0 t568 _ A4.out).mono ?_); rintro e w' ⟨rfl, ⟨nd, rfl⟩⟩; (try first | exact ⟨rfl, _, World.drewN_drewN _ _ _⟩ | exact ⟨rfl, _, Eq.trans (World.drewN_drewN _ _ _) (congrArg (World.drewN _) (Nat.add_assoc _ _ _))⟩))))
  go_ret
  exact ex (lk HB)
 rw [if_neg c6] at H
 have c6b0 : decide (63 < (ji5)) = false := decide_eq_false c6
 clear c6
 by_cases c7 : 0 ≤ (ji5)
 ·
  rw [if_pos c7] at H
  have c7b0 := eq_true c7
  have c7b1 := dt c7
  clear c7
  obtain ⟨ji8, hji8⟩ : ∃ j_ : Int, (shr .u64 a0 (ji5)) = j_ := ⟨_, rfl⟩
  replace H : (if 0 ≤ (wrap64 ((ji5) - 1)) then (if (Go.bits .and .u64 a0 (IntKind.u64.wrap ((shl .u64 1 (ji5)) - 1))) > (shl .u64 1 (wrap64 ((ji5) - 1))) then (num_nearest.j0 k a1 ji5 ji8 true) else (if (Go.bits .and .u64 a0 (IntKind.u64.wrap ((shl .u64 1 (ji5)) - 1))) = (shl .u64 1 (wrap64 ((ji5) - 1))) then (if a2 = true then (num_nearest.j0 k a1 ji5 ji8 true) else (num_nearest.j0 k a1 ji5 ji8 ((Int.tmod (ji8) 2) == 1))) else (num_nearest.j0 k a1 ji5 ji8 false))) else (none)) = some r := by first | (rw [hji8] at H; exact H) | (simp only [hji8] at H ⊢; exact H)
  (try rw [hji8] at A4)
  have hji8_ : (a0 / 2 ^ min (ji5).toNat 64) = ji8 := hji8
  have hji8z : (ji5) ≤ 64 → (a0 / 2 ^ (ji5).toNat) = ji8 := shr_small hji8
  have c9b0 := eq_true (od : 0 ≤ (ji5))
  obtain ⟨ji10, hji10⟩ : ∃ j_ : Int, (shl .u64 1 (ji5)) = j_ := ⟨_, rfl⟩
  replace H : (if 0 ≤ (wrap64 ((ji5) - 1)) then (if (Go.bits .and .u64 a0 (IntKind.u64.wrap ((ji10) - 1))) > (shl .u64 1 (wrap64 ((ji5) - 1))) then (num_nearest.j0 k a1 ji5 ji8 true) else (if (Go.bits .and .u64 a0 (IntKind.u64.wrap ((ji10) - 1))) = (shl .u64 1 (wrap64 ((ji5) - 1))) then (if a2 = true then (num_nearest.j0 k a1 ji5 ji8 true) else (num_nearest.j0 k a1 ji5 ji8 ((Int.tmod (ji8) 2) == 1))) else (num_nearest.j0 k a1 ji5 ji8 false))) else (none)) = some r := by first | (rw [hji10] at H; exact H) | (simp only [hji10] at H ⊢; exact H)
  (try rw [hji10] at A4)
  have hji10_ : (IntKind.u64.wrap (1 * 2 ^ min (ji5).toNat 64)) = ji10 := hji10
  have hji10z : (ji5) ≤ 64 → (IntKind.u64.wrap (1 * 2 ^ (ji5).toNat)) = ji10 := shl_small hji10
  have hji10u : (IntKind.u64.wrap (2 ^ min (ji5).toNat 64)) = ji10 := by have h_ := hji10_; rw [Int.one_mul] at h_; exact h_
  have hji10v : (ji5) ≤ 64 → (IntKind.u64.wrap (2 ^ (ji5).toNat)) = ji10 := fun hle_ => by have h_ := hji10z hle_; rw [Int.one_mul] at h_; exact h_
  obtain ⟨ji11, hji11⟩ : ∃ j_ : Int, (wrap64 ((ji5) - 1)) = j_ := ⟨_, rfl⟩
  replace H : (if 0 ≤ (ji11) then (if (Go.bits .and .u64 a0 (IntKind.u64.wrap ((ji10) - 1))) > (shl .u64 1 (ji11)) then (num_nearest.j0 k a1 ji5 ji8 true) else (if (Go.bits .and .u64 a0 (IntKind.u64.wrap ((ji10) - 1))) = (shl .u64 1 (ji11)) then (if a2 = true then (num_nearest.j0 k a1 ji5 ji8 true) else (num_nearest.j0 k a1 ji5 ji8 ((Int.tmod (ji8) 2) == 1))) else (num_nearest.j0 k a1 ji5 ji8 false))) else (none)) = some r := by first | (rw [hji11] at H; exact H) | (simp only [hji11] at H ⊢; exact H)
  (try rw [hji11] at A4)
  have hji11w : (IntKind.i64.wrap ((ji5) - 1)) = ji11 := (i64_w _).trans hji11
  by_cases c12 : 0 ≤ (ji11)
  ·
   rw [if_pos c12] at H
   have c12b0 := eq_true c12
   have c12b1 := dt c12
   clear c12
   obtain ⟨ji13, hji13⟩ : ∃ j_ : Int, (shl .u64 1 (ji11)) = j_ := ⟨_, rfl⟩
   replace H : (if (Go.bits .and .u64 a0 (IntKind.u64.wrap ((ji10) - 1))) > (ji13) then (num_nearest.j0 k a1 ji5 ji8 true) else (if (Go.bits .and .u64 a0 (IntKind.u64.wrap ((ji10) - 1))) = (ji13) then (if a2 = true then (num_nearest.j0 k a1 ji5 ji8 true) else (num_nearest.j0 k a1 ji5 ji8 ((Int.tmod (ji8) 2) == 1))) else (num_nearest.j0 k a1 ji5 ji8 false))) = some r := by first | (rw [hji13] at H; exact H) | (simp only [hji13] at H ⊢; exact H)
   (try rw [hji13] at A4)
   have hji13_ : (IntKind.u64.wrap (1 * 2 ^ min (ji11).toNat 64)) = ji13 := hji13
   have hji13z : (ji11) ≤ 64 → (IntKind.u64.wrap (1 * 2 ^ (ji11).toNat)) = ji13 := shl_small hji13
   have hji13u : (IntKind.u64.wrap (2 ^ min (ji11).toNat 64)) = ji13 := by have h_ := hji13_; rw [Int.one_mul] at h_; exact h_
   have hji13v : (ji11) ≤ 64 → (IntKind.u64.wrap (2 ^ (ji11).toNat)) = ji13 := fun hle_ => by have h_ := hji13z hle_; rw [Int.one_mul] at h_; exact h_
   have HC14 := am H
   clear H
   go_enter Tryd.func102, Tryd.ntmps102
   go_upto_region 5 with (first | (go_at_call 119; (with_reducible refine (Hd.bits_Len64.calls a0 t568 _ A4.out).mono ?_); rintro e w' ⟨rfl, ⟨nd, rfl⟩⟩; (try first | exact ⟨rfl, _, World.drewN_drewN _ _ _⟩ | exact ⟨rfl, _, Eq.trans (World.drewN_drewN _ _ _) (congrArg (World.drewN _) (Nat.add_assoc _ _ _))⟩)))
   repeat (go_quiet (first | (go_at_call 119; (with_reducible refine (Hd.bits_Len64.calls a0 t568 _ A4.out).mono ?_); rintro e w' ⟨rfl, ⟨nd, rfl⟩⟩; (try first | exact ⟨rfl, _, World.drewN_drewN _ _ _⟩ | exact ⟨rfl, _, Eq.trans (World.drewN_drewN _ _ _) (congrArg (World.drewN _) (Nat.add_assoc _ _ _))⟩))); go_upto_region 5 with (first | (go_at_call 119; (with_reducible refine (Hd.bits_Len64.calls a0 t568 _ A4.out).mono ?_); rintro e w' ⟨rfl, ⟨nd, rfl⟩⟩; (try first | exact ⟨rfl, _, World.drewN_drewN _ _ _⟩ | exact ⟨rfl, _, Eq.trans (World.drewN_drewN _ _ _) (congrArg (World.drewN _) (Nat.add_assoc _ _ _))⟩))))
   (try simp only [Act.put, List.setIfInBounds_toArray, List.set_cons_zero, List.set_cons_succ])
   go_cut [46] (fun v46 wc => ∃ (kq : Nat) (x46_13 : Bool), v46 = .bool x46_13 ∧ Aside0 (num_nearest.j0 kq a1 ji5 ji8 x46_13 = some r) ∧ Aside0 (kq ≤ k) ∧ Aside0 (Below w.heap.size w wc))
   case first =>
    have H := HC14.out
    clear HC14
    by_cases c15 : (Go.bits .and .u64 a0 (IntKind.u64.wrap ((ji10) - 1))) > (ji13)
    ·
     rw [if_pos c15] at H
     have c15b0 : decide ((ji13) < (Go.bits .and .u64 a0 (IntKind.u64.wrap ((ji10) - 1)))) = true := dt c15
     clear c15
     (first | rw [c15b0] | (simp only [i64_w, i32_w]; rw [c15b0]) | skip)
     have H' := am H
     clear H
     go_wp2
     repeat (go_quiet (fail); try go_wp2)
     go_meet
     case rel => exact ⟨_, (true), eqd, H', ol, ⟨lk HB⟩⟩
    rw [if_neg c15] at H
    have c15b0 : decide ((ji13) < (Go.bits .and .u64 a0 (IntKind.u64.wrap ((ji10) - 1)))) = false := decide_eq_false c15
    clear c15
    (first | rw [c15b0] | (simp only [i64_w, i32_w]; rw [c15b0]) | skip)
    by_cases c16 : (Go.bits .and .u64 a0 (IntKind.u64.wrap ((ji10) - 1))) = (ji13)
    ·
     rw [if_pos c16] at H
     have c16b0 : ((Go.bits .and .u64 a0 (IntKind.u64.wrap ((ji10) - 1))) == (ji13)) = true := beq_iff_eq.mpr c16
     have c16b1 : ((Go.bits .and .u64 a0 (IntKind.u64.wrap ((ji10) - 1))) != (ji13)) = false := bne_eq_false_iff_eq.mpr c16
     clear c16
     by_cases c17 : a2 = true
     ·
      subst c17
      rw [if_pos rfl] at H
      have H' := am H
      clear H
      go_wp2
      repeat (go_quiet (fail); try go_wp2)
      go_meet
      case rel => exact ⟨_, (true), eqd, H', ol, ⟨lk HB⟩⟩
     replace c17 := Bool.eq_false_iff.mpr c17
     subst c17
     rw [if_neg (show ¬ (false = true) by decide)] at H
     have H' := am H
     clear H
     go_wp2
     repeat (go_quiet (fail); try go_wp2)
     go_meet
     case rel => exact ⟨_, (((Int.tmod (ji8) 2) == 1)), (by first | rfl | (simp; done) | (simp only [← hji8] <;> (first | rfl | simp)) | (simp [*]; done)), H', ol, ⟨lk HB⟩⟩
    rw [if_neg c16] at H
    have c16b0 : ((Go.bits .and .u64 a0 (IntKind.u64.wrap ((ji10) - 1))) == (ji13)) = false := beq_eq_false_iff_ne.mpr c16
    have c16b1 : ((Go.bits .and .u64 a0 (IntKind.u64.wrap ((ji10) - 1))) != (ji13)) = true := bne_iff_ne.mpr c16
    have H' := am H
    clear H
    go_wp2
    repeat (go_quiet (fail); try go_wp2)
    go_meet
    case rel => exact ⟨_, (false), eqd, H', ol, ⟨lk HB⟩⟩
   case rest =>
    clear HC14
    obtain ⟨kq, x46_13, rfl, HA, HJ13, HB⟩ := hcut
    cases kq with
    | zero => exact absurd HA.out (by simp [num_nearest.j0])
    | succ kj13 =>
     have H := HA.out
     clear HA
     simp only [num_nearest.j0] at H
     have HC18 := am H
     clear H
     go_upto_if 46 with (fail)
     repeat (go_quiet (fail); go_upto_if 46 with (fail))
     go_cut [8] (fun v8 wc => ∃ (kq : Nat) (x8_17 : Int), v8 = .int .u64 x8_17 ∧ Aside0 (num_nearest.j1 kq a1 ji5 x8_17 = some r) ∧ Aside0 (kq ≤ kj13) ∧ Aside0 (Below w.heap.size w wc))
     case first =>
      have H := HC18.out
      clear HC18
      by_cases c19 : x46_13 = true
      ·
       subst c19
       rw [if_pos rfl] at H
       have H' := am H
       clear H
       go_wp2
       repeat (go_quiet (fail); try go_wp2)
       go_meet
       case rel => exact ⟨_, (IntKind.u64.wrap (ji8 + 1)), (by first | rfl | (simp; done) | (simp only [← hji8] <;> (first | rfl | simp)) | (simp [*]; done)), H', ⟨by have := HJ13.out; first | omega | exact Nat.le_refl _⟩, ⟨lk HB⟩⟩
      replace c19 := Bool.eq_false_iff.mpr c19
      subst c19
      rw [if_neg (show ¬ (false = true) by decide)] at H
      have H' := am H
      clear H
      go_wp2
      repeat (go_quiet (fail); try go_wp2)
      go_meet
      case rel => exact ⟨_, (ji8), (by first | rfl | (simp; done) | (simp only [← hji8] <;> (first | rfl | simp)) | (simp [*]; done)), H', ⟨by have := HJ13.out; first | omega | exact Nat.le_refl _⟩, ⟨lk HB⟩⟩
     case rest =>
      clear HC18
      obtain ⟨kq, x8_17, rfl, HA, HJ17, HB⟩ := hcut
      cases kq with
      | zero => exact absurd HA.out (by simp [num_nearest.j1])
      | succ kj17 =>
       have H := HA.out
       clear HA
       simp only [num_nearest.j1] at H
       have HC20 := am H
       clear H
       go_upto_if 53 with (fail)
       repeat (go_quiet (fail); go_upto_if 53 with (fail))
       go_cut [1, 8] (fun v1 v8 wc => ∃ (kq : Nat) (x1_19 : Int) (x8_19 : Int), v1 = .int .i64 x1_19 ∧ v8 = .int .u64 x8_19 ∧ Aside0 (num_nearest.j2 kq x1_19 x8_19 = some r) ∧ Aside0 (kq ≤ kj17) ∧ Aside0 (Below w.heap.size w wc))
       case first =>
        have H := HC20.out
        clear HC20
        by_cases c21 : x8_17 = 9007199254740992
        ·
         rw [if_pos c21] at H
         have c21b0 : (x8_17 == 9007199254740992) = true := beq_iff_eq.mpr c21
         have c21b1 : (x8_17 != 9007199254740992) = false := bne_eq_false_iff_eq.mpr c21
         clear c21
         (first | rw [c21b0] | (simp only [i64_w, i32_w]; rw [c21b0]) | skip)
         have H' := am H
         clear H
         go_wp2
         repeat (go_quiet (fail); try go_wp2)
         go_meet
         case rel => exact ⟨_, (wrap64 ((wrap64 (a1 + ji5)) + 1)), (4503599627370496), (by first | rfl | (simp; done) | (simp only [← hji5] <;> (first | rfl | simp)) | (simp [*]; done)), eqd, H', ⟨by have := HJ13.out; have := HJ17.out; first | omega | exact Nat.le_refl _⟩, ⟨lk HB⟩⟩
        rw [if_neg c21] at H
        have c21b0 : (x8_17 == 9007199254740992) = false := beq_eq_false_iff_ne.mpr c21
        have c21b1 : (x8_17 != 9007199254740992) = true := bne_iff_ne.mpr c21
        (first | rw [c21b0] | (simp only [i64_w, i32_w]; rw [c21b0]) | skip)
        have H' := am H
        clear H
        go_wp2
        repeat (go_quiet (fail); try go_wp2)
        go_meet
        case rel => exact ⟨_, (wrap64 (a1 + ji5)), (x8_17), (by first | rfl | (simp; done) | (simp only [← hji5] <;> (first | rfl | simp)) | (simp [*]; done)), eqd, H', ⟨by have := HJ13.out; have := HJ17.out; first | omega | exact Nat.le_refl _⟩, ⟨lk HB⟩⟩
       case rest =>
        clear HC20
        obtain ⟨kq, x1_19, x8_19, rfl, rfl, HA, HJ19, HB⟩ := hcut
        cases kq with
        | zero => exact absurd HA.out (by simp [num_nearest.j2])
        | succ kj19 =>
         have H := HA.out
         clear HA
         simp only [num_nearest.j2] at H
         by_cases c22 : x1_19 > 971
         ·
          rw [if_pos c22] at H
          have c22b0 : decide (971 < x1_19) = true := dt c22
          clear c22
          obtain rfl := Option.some.inj H
          go_wp2
          repeat (go_quiet (fail); try go_wp2)
          go_ret
          exact ⟨by first | rfl | (simp [errW_none, errW_some] <;> rfl) | (simp only [← hji5, ← hji8, ← hji10, ← hji11, ← hji13]; first | rfl | (simp [errW_none, errW_some] <;> rfl)) | (simp [*, errW_none, errW_some] <;> rfl), lk HB⟩
         rw [if_neg c22] at H
         have c22b0 : decide (971 < x1_19) = false := decide_eq_false c22
         clear c22
         by_cases c23 : x8_19 < 4503599627370496
         ·
          rw [if_pos c23] at H
          have c23b0 := dt c23
          clear c23
          obtain rfl := Option.some.inj H
          go_wp2
          repeat (go_quiet (fail); try go_wp2)
          go_ret
          exact ⟨by first | rfl | (simp [errW_none, errW_some] <;> rfl) | (simp only [← hji5, ← hji8, ← hji10, ← hji11, ← hji13]; first | rfl | (simp [errW_none, errW_some] <;> rfl)) | (simp [*, errW_none, errW_some] <;> rfl), lk HB⟩
         rw [if_neg c23] at H
         have c23b0 := decide_eq_false c23
         clear c23
         obtain rfl := Option.some.inj H
         go_wp2
         repeat (go_quiet (fail); try go_wp2)
         go_ret
         exact ⟨by first | rfl | (simp [errW_none, errW_some] <;> rfl) | (simp only [← hji5, ← hji8, ← hji10, ← hji11, ← hji13]; first | rfl | (simp [errW_none, errW_some] <;> rfl)) | (simp [*, errW_none, errW_some] <;> rfl), lk HB⟩
  rw [if_neg c12] at H
  exact absurd H (by simp)
 rw [if_neg c7] at H
 exact absurd H (by simp)
mutual
def num_decimal_bits.j0 : Nat → Int → Bool → ByteArray → Int → Option (Int)
 | 0, _, _, _, _ => none
 | k + 1, x3, x17, x570q0, x570q1 => if x17 = true then (some 0) else (if x3 > 310 then (some 9218868437227405312) else (num_decimal_bits.l0 k ([] : List Int) (x570q0.size : Int) 0 x570q0 x570q1))
def num_decimal_bits.l0 : Nat → List Int → Int → Int → ByteArray → Int → Option (Int)
 | 0, _, _, _, _, _ => none
 | k + 1, x4, x30, x31, x570q0, x570q1 => if x31 < x30 then (if 0 ≤ x31 then (if x31 < (x570q0.size : Int) then ((num_nat_times.f k x4 10 (((bt x570q0 x31) - 48) % 256)).bind fun t570 => (num_decimal_bits.l0 k t570 x30 (wrap64 (x31 + 1)) x570q0 x570q1)) else (none)) else (none)) else ((num_of.f k 1).bind fun t573 => (if x570q1 ≥ 0 then ((num_nat_tens.f k x4 x570q1).bind fun t576 => (num_decimal_bits.j2 k t576 t573)) else ((num_nat_tens.f k t573 (wrap64 (-x570q1))).bind fun t579 => (num_decimal_bits.j2 k x4 t579))))
def num_decimal_bits.j2 : Nat → List Int → List Int → Option (Int)
 | 0, _, _ => none
 | k + 1, x4, x6 => (num_nat_size.f x4).bind fun t582 => ((num_nat_size.f x6).bind fun t583 => (if (wrap64 (56 - (wrap64 (t582 - t583)))) ≥ 0 then ((num_nat_up.f k x4 (wrap64 (56 - (wrap64 (t582 - t583))))).bind fun t584 => (num_decimal_bits.j3 k t584 x6 (wrap64 (56 - (wrap64 (t582 - t583)))))) else ((num_nat_up.f k x6 (wrap64 (-(wrap64 (56 - (wrap64 (t582 - t583))))))).bind fun t587 => (num_decimal_bits.j3 k x4 t587 (wrap64 (56 - (wrap64 (t582 - t583))))))))
def num_decimal_bits.j3 : Nat → List Int → List Int → Int → Option (Int)
 | 0, _, _, _ => none
 | k + 1, x4, x6, x7 => num_decimal_bits.l1 k x4 x6 x7 0 57
def num_decimal_bits.l1 : Nat → List Int → List Int → Int → Int → Int → Option (Int)
 | 0, _, _, _, _, _ => none
 | k + 1, x4, x6, x7, x8, x9 => if x9 ≥ 0 then ((num_nat_up.f k x6 x9).bind fun t591 => ((num_nat_against.f k x4 t591).bind fun t594 => (if t594 ≥ 0 then ((num_nat_less.f k x4 t591).bind fun t595 => (if 0 ≤ x9 then (num_decimal_bits.l1 k t595 x6 x7 (Go.bits .or .u64 x8 (shl .u64 1 x9)) (wrap64 (x9 - 1))) else (none))) else (num_decimal_bits.l1 k x4 x6 x7 x8 (wrap64 (x9 - 1)))))) else ((num_nearest.f k x8 (wrap64 (-x7)) (decide (0 < x4.length))).bind fun t590 => (some t590))
end
def num_decimal_bits.f (k : Nat) (a0_0 : ByteArray) (a0_1 : Int) : Option (Int) := if a0_0.toList = ([] : List UInt8) then (num_decimal_bits.j0 k (wrap64 ((a0_0.size : Int) + a0_1)) true a0_0 a0_1) else (num_decimal_bits.j0 k (wrap64 ((a0_0.size : Int) + a0_1)) (decide ((wrap64 ((a0_0.size : Int) + a0_1)) < (-330))) a0_0 a0_1)
theorem num_decimal_bits.mono_l : ∀ k, (∀ y0 y1 y2 y3, LeO (num_decimal_bits.j0 k y0 y1 y2 y3) (num_decimal_bits.j0 (k + 1) y0 y1 y2 y3)) ∧ (∀ y0 y1 y2 y3 y4, LeO (num_decimal_bits.l0 k y0 y1 y2 y3 y4) (num_decimal_bits.l0 (k + 1) y0 y1 y2 y3 y4)) ∧ (∀ y0 y1, LeO (num_decimal_bits.j2 k y0 y1) (num_decimal_bits.j2 (k + 1) y0 y1)) ∧ (∀ y0 y1 y2, LeO (num_decimal_bits.j3 k y0 y1 y2) (num_decimal_bits.j3 (k + 1) y0 y1 y2)) ∧ (∀ y0 y1 y2 y3 y4, LeO (num_decimal_bits.l1 k y0 y1 y2 y3 y4) (num_decimal_bits.l1 (k + 1) y0 y1 y2 y3 y4))
 | 0 => ⟨fun _ _ _ _ r h => by simp [num_decimal_bits.j0] at h, fun _ _ _ _ _ r h => by simp [num_decimal_bits.l0] at h, fun _ _ r h => by simp [num_decimal_bits.j2] at h, fun _ _ _ r h => by simp [num_decimal_bits.j3] at h, fun _ _ _ _ _ r h => by simp [num_decimal_bits.l1] at h⟩
 | k + 1 => by
  obtain ⟨ih0, ih1, ih2, ih3, ih4⟩ := num_decimal_bits.mono_l k
  refine ⟨?_, ?_, ?_, ?_, ?_⟩ <;> intros <;> (first | unfold num_decimal_bits.j0 | unfold num_decimal_bits.l0 | unfold num_decimal_bits.j2 | unfold num_decimal_bits.j3 | unfold num_decimal_bits.l1) <;> repeat' (with_reducible first | apply ih0 | apply ih1 | apply ih2 | apply ih3 | apply ih4 | apply num_nat_against.mono | apply num_nat_less.mono | apply num_nat_tens.mono | apply num_nat_times.mono | apply num_nat_up.mono | apply num_nearest.mono | apply num_of.mono | apply LeO.refl | apply LeO.none | apply LeO.ite | refine LeO.bind ?_ (fun _ => ?_))
theorem num_decimal_bits.mono : ∀ a0 a1 k, LeO (num_decimal_bits.f k a0 a1) (num_decimal_bits.f (k + 1) a0 a1) := by
 intro a0 a1 k
 obtain ⟨ih0, ih1, ih2, ih3, ih4⟩ := num_decimal_bits.mono_l k
 unfold num_decimal_bits.f
 repeat' (with_reducible first | apply ih0 | apply ih1 | apply ih2 | apply ih3 | apply ih4 | apply num_nat_against.mono | apply num_nat_less.mono | apply num_nat_tens.mono | apply num_nat_times.mono | apply num_nat_up.mono | apply num_nearest.mono | apply num_of.mono | apply LeO.refl | apply LeO.none | apply LeO.ite | refine LeO.bind ?_ (fun _ => ?_))
set_option maxHeartbeats 8000000 in
theorem num_decimal_bits.calls (k : Nat) (a0_0 : ByteArray) (a0_1 : Int) (r : Int) (w : World) (h : num_decimal_bits.f k a0_0 a0_1 = some r) :
  Calls Tryd.prog 67 #[.agg #[.string a0_0, .int .i64 a0_1]] w fun e w' => e = .returned (.int .u64 r) ∧ Below w.heap.size w w' := by
 have hu79 := Tryd.underlying79
 have HB := am (Below.refl w.heap.size w)
 have H : (if a0_0.toList = ([] : List UInt8) then (num_decimal_bits.j0 k (wrap64 ((a0_0.size : Int) + a0_1)) true a0_0 a0_1) else (num_decimal_bits.j0 k (wrap64 ((a0_0.size : Int) + a0_1)) (decide ((wrap64 ((a0_0.size : Int) + a0_1)) < (-330))) a0_0 a0_1)) = some r := h
 clear h
 have HC2 := am H
 clear H
 go_enter Tryd.func67, Tryd.ntmps67
 go_upto_region 2 with (first | ((with_reducible refine gate_dst (N := 1) rfl ?_); refine box_event ?hg (N := 1) ?hd (cs := #[.string a0_0, .int .i64 a0_1]) (t := 79) ?hr ?_; (case hd => rfl); (case hg => rfl); (case hr => first | (go_simp; done) | (go_simp; rfl)); intro gb569 hg w3 hbox hb; have BK569 := am (hbox); have GW569 := am ((by rw [hg]; exact (below_size (lk HB)) : w.heap.size ≤ gb569)); have GE569 := GW569; replace HB := lb HB hb; clear hb hbox hg; have hcz4_0 : w3.cell? ⟨gb569, 0, none⟩ = some (.string a0_0) := (blk_cell BK569.out 0).trans rfl; have hcz4_1 : w3.cell? ⟨gb569, 1, none⟩ = some (.int .i64 a0_1) := (blk_cell BK569.out 1).trans rfl; have hfz4_0 := blk_frozen BK569.out 0; have hfz4_1 := blk_frozen BK569.out 1))
 (try simp only [Act.put, List.setIfInBounds_toArray, List.set_cons_zero, List.set_cons_succ])
 go_cut [17] (fun v17 wc => ∃ (kq : Nat) (x17_1 : Bool), v17 = .bool x17_1 ∧ Aside0 (num_decimal_bits.j0 kq (wrap64 ((a0_0.size : Int) + a0_1)) x17_1 a0_0 a0_1 = some r) ∧ Aside0 (kq ≤ k) ∧ Aside0 (wc.heap[gb569]? = some (.cells #[.string a0_0, .int .i64 a0_1] 79 (0, 0))) ∧ Aside0 (Below w.heap.size w wc))
 case first =>
  have H := HC2.out
  clear HC2
  by_cases c5 : a0_0.toList = ([] : List UInt8)
  ·
   rw [if_pos c5] at H
   have c5b0 : (a0_0.toList == ([] : List UInt8)) = true := beq_iff_eq.mpr c5
   have c5b1 : (a0_0.toList != ([] : List UInt8)) = false := bne_eq_false_iff_eq.mpr c5
   clear c5
   (first | rw [c5b0] | (simp only [i64_w, i32_w]; rw [c5b0]) | skip)
   have H' := am H
   clear H
   have hcz6_0 : w3.cell? ⟨gb569, 0, none⟩ = some (.string a0_0) := (blk_cell BK569.out 0).trans rfl
   have hcz6_1 : w3.cell? ⟨gb569, 1, none⟩ = some (.int .i64 a0_1) := (blk_cell BK569.out 1).trans rfl
   have hfz6_0 := blk_frozen BK569.out 0
   have hfz6_1 := blk_frozen BK569.out 1
   go_wp2
   go_meet
   case rel => exact ⟨_, (true), eqd, H', ol, ⟨bk BK569⟩, ⟨lk HB⟩⟩
  rw [if_neg c5] at H
  have c5b0 : (a0_0.toList == ([] : List UInt8)) = false := beq_eq_false_iff_ne.mpr c5
  have c5b1 : (a0_0.toList != ([] : List UInt8)) = true := bne_iff_ne.mpr c5
  (first | rw [c5b0] | (simp only [i64_w, i32_w]; rw [c5b0]) | skip)
  have H' := am H
  clear H
  have hcz7_0 : w3.cell? ⟨gb569, 0, none⟩ = some (.string a0_0) := (blk_cell BK569.out 0).trans rfl
  have hcz7_1 : w3.cell? ⟨gb569, 1, none⟩ = some (.int .i64 a0_1) := (blk_cell BK569.out 1).trans rfl
  have hfz7_0 := blk_frozen BK569.out 0
  have hfz7_1 := blk_frozen BK569.out 1
  go_wp2
  go_meet
  case rel => exact ⟨_, (decide ((wrap64 ((a0_0.size : Int) + a0_1)) < (-330))), eqd, H', ol, ⟨bk BK569⟩, ⟨lk HB⟩⟩
 case rest =>
  clear HC2
  obtain ⟨kq, x17_1, rfl, HA, HJ1, BK569, HB⟩ := hcut
  cases kq with
  | zero => exact absurd HA.out (by simp [num_decimal_bits.j0])
  | succ kj1 =>
   have H := HA.out
   clear HA
   simp only [num_decimal_bits.j0] at H
   by_cases c8 : x17_1 = true
   ·
    subst c8
    rw [if_pos rfl] at H
    obtain rfl := Option.some.inj H
    go_wp2
    go_ret
    exact ex (lk HB)
   replace c8 := Bool.eq_false_iff.mpr c8
   subst c8
   rw [if_neg (show ¬ (false = true) by decide)] at H
   by_cases c9 : (wrap64 ((a0_0.size : Int) + a0_1)) > 310
   ·
    rw [if_pos c9] at H
    have c9b0 : decide (310 < (wrap64 ((a0_0.size : Int) + a0_1))) = true := dt c9
    clear c9
    obtain rfl := Option.some.inj H
    go_wp2
    go_ret
    exact ex (lk HB)
   rw [if_neg c9] at H
   have c9b0 : decide (310 < (wrap64 ((a0_0.size : Int) + a0_1))) = false := decide_eq_false c9
   clear c9
   have H' := am H
   clear H
   have hcz10_0 : wc.cell? ⟨gb569, 0, none⟩ = some (.string a0_0) := (blk_cell BK569.out 0).trans rfl
   have hcz10_1 : wc.cell? ⟨gb569, 1, none⟩ = some (.int .i64 a0_1) := (blk_cell BK569.out 1).trans rfl
   have hfz10_0 := blk_frozen BK569.out 0
   have hfz10_1 := blk_frozen BK569.out 1
   go_wp2
   go_loopg [4, 31] kj1 (fun kq v4 v31 w' => ∃ (x4_2 : List Int) (x31_2 : Int), v31 = .int .i64 x31_2 ∧ Aside0 (num_decimal_bits.l0 kq x4_2 (a0_0.size : Int) x31_2 a0_0 a0_1 = some r) ∧ Aside0 (kq ≤ kj1) ∧ Aside0 (Kd.V (Kd.int .u32) 102 w' w.heap.size (fun k_ => k_ ≠ gb569) v4 x4_2) ∧ Aside0 (w'.heap[gb569]? = some (.cells #[.string a0_0, .int .i64 a0_1] 79 (0, 0))) ∧ Aside0 (Below w.heap.size w w'))
   case atStart => exact ⟨(([] : List Int)), (0), eqd, H', ⟨Nat.le_refl _⟩, ⟨Kd.R_V (Kd.R_nil _ _ _ w.heap.size _)⟩, ⟨bk BK569⟩, ⟨lk HB⟩⟩
   case round =>
    clear H'
    obtain ⟨x4_2, x31_2, rfl, HA, HK2, HO_4, BK569, HB⟩ := hrel
    cases gk with
    | zero => exact absurd HA.out (by simp [num_decimal_bits.l0])
    | succ k2 =>
     have H := HA.out
     clear HA
     simp only [num_decimal_bits.l0] at H
     by_cases c11 : x31_2 < (a0_0.size : Int)
     ·
      rw [if_pos c11] at H
      have c11b0 := dt c11
      clear c11
      by_cases c12 : 0 ≤ x31_2
      ·
       rw [if_pos c12] at H
       have c12b0 := dt c12
       clear c12
       by_cases c13 : x31_2 < (a0_0.size : Int)
       ·
        rw [if_pos c13] at H
        have c13b0 := dt c13
        clear c13
        replace H := bm H
        obtain ⟨t570, A150, H⟩ := H
        have A15 := am A150
        clear A150
        have H' := am H
        clear H
        have hcz16_0 : wr.cell? ⟨gb569, 0, none⟩ = some (.string a0_0) := (blk_cell BK569.out 0).trans rfl
        have hcz16_1 : wr.cell? ⟨gb569, 1, none⟩ = some (.int .i64 a0_1) := (blk_cell BK569.out 1).trans rfl
        have hfz16_0 := blk_frozen BK569.out 0
        have hfz16_1 := blk_frozen BK569.out 1
        have p14 : 0 ≤ (x31_2 : Int) := od
        have q14 : x31_2 < (a0_0.size : Int) := od
        have hx14 := bt_at a0_0 x31_2
        replace p14 := eq_true p14
        replace q14 := eq_true q14
        obtain ⟨Ao17, co17, eo17⟩ := Kd.V_slice HO_4.out
        subst eo17
        go_wp2_with (first | (refine gL (some 41) Tryd.func86 #[.slice Ao17 x4_2.length co17, .int .u32 10, .int .u32 (((bt a0_0 x31_2) - 48) % 256)] ?_; (with_reducible refine (num_nat_times.calls k2 _ _ x4_2 10 (((bt a0_0 x31_2) - 48) % 256) t570 _ ?side1 ?side2 A15.out).mono ?_); (case side1 => exact ck (Kd.V_reads' HO_4.out).2.2); (case side2 => exact (Kd.V_reads' HO_4.out).2.1); rintro e w18 ⟨v571, rfl, ho0, hb⟩; refine ⟨_, rfl, ?_⟩; replace HO_4 := vb HO_4 hb; have HO572 := am (Kd.V_lower (Kd.V_mono (ok' := fun k_ => k_ ≠ gb569) ho0 (fun k_ hk_ => (Kd.freshB (bk BK569) k_ hk_))) (below_size (lk HB))); replace BK569 := bb BK569 hb; replace HB := lb HB hb))
        go_roundg k2
        case measure => have := HJ1.out; have := HK2.out; omega
        case rel => exact ⟨(t570), (wrap64 (x31_2 + 1)), eqd, H', ⟨by have := HJ1.out; have := HK2.out; omega⟩, ⟨vk HO572⟩, ⟨bk BK569⟩, ⟨lk HB⟩⟩
       rw [if_neg c13] at H
       exact absurd H (by simp)
      rw [if_neg c12] at H
      exact absurd H (by simp)
     rw [if_neg c11] at H
     have c11b0 := decide_eq_false c11
     clear c11
     replace H := bm H
     obtain ⟨t573, A190, H⟩ := H
     have A19 := am A190
     clear A190
     have HC20 := am H
     clear H
     go_upto_if 46 with (first | (refine gL (some 43) Tryd.func45 #[.int .u64 1] ?_; (with_reducible refine (num_of.calls k2 1 t573 _ A19.out).mono ?_); rintro e w21 ⟨v574, rfl, ho0, hb⟩; refine ⟨_, rfl, ?_⟩; replace HO_4 := vb HO_4 hb; have HO575 := am (Kd.V_lower (Kd.V_mono (ok' := fun k_ => k_ ≠ gb569) ho0 (fun k_ hk_ => (Kd.freshB (bk BK569) k_ hk_))) (below_size (lk HB))); replace BK569 := bb BK569 hb; replace HB := lb HB hb; have hcz22_0 : w21.cell? ⟨gb569, 0, none⟩ = some (.string a0_0) := (blk_cell BK569.out 0).trans rfl; have hcz22_1 : w21.cell? ⟨gb569, 1, none⟩ = some (.int .i64 a0_1) := (blk_cell BK569.out 1).trans rfl; have hfz22_0 := blk_frozen BK569.out 0; have hfz22_1 := blk_frozen BK569.out 1))
     (try simp only [Act.put, List.setIfInBounds_toArray, List.set_cons_zero, List.set_cons_succ])
     go_cut [4, 6] (fun v4 v6 wc => ∃ (kq : Nat) (x4_19 : List Int) (x6_19 : List Int), Aside0 (num_decimal_bits.j2 kq x4_19 x6_19 = some r) ∧ Aside0 (kq ≤ k2) ∧ Aside0 (Kd.V (Kd.int .u32) 102 wc w.heap.size (fun k_ => k_ ≠ gb569) v4 x4_19) ∧ Aside0 (Kd.V (Kd.int .u32) 102 wc w.heap.size (fun k_ => k_ ≠ gb569) v6 x6_19) ∧ Aside0 (wc.heap[gb569]? = some (.cells #[.string a0_0, .int .i64 a0_1] 79 (0, 0))) ∧ Aside0 (Below w.heap.size w wc))
     case first =>
      have H := HC20.out
      clear HC20
      by_cases c23 : a0_1 ≥ 0
      ·
       rw [if_pos c23] at H
       have c23b0 : decide (0 ≤ a0_1) = true := dt c23
       clear c23
       (first | rw [c23b0] | (simp only [i64_w, i32_w]; rw [c23b0]) | skip)
       replace H := bm H
       obtain ⟨t576, A240, H⟩ := H
       have A24 := am A240
       clear A240
       have H' := am H
       clear H
       have hcz25_0 : w21.cell? ⟨gb569, 0, none⟩ = some (.string a0_0) := (blk_cell BK569.out 0).trans rfl
       have hcz25_1 : w21.cell? ⟨gb569, 1, none⟩ = some (.int .i64 a0_1) := (blk_cell BK569.out 1).trans rfl
       have hfz25_0 := blk_frozen BK569.out 0
       have hfz25_1 := blk_frozen BK569.out 1
       obtain ⟨Ao26, co26, eo26⟩ := Kd.V_slice HO_4.out
       subst eo26
       go_wp2_with (first | (refine gL (some 50) Tryd.func52 #[.slice Ao26 x4_2.length co26, .int .i64 a0_1] ?_; (with_reducible refine (num_nat_tens.calls k2 (fun k_ => k_ ≠ gb569) _ _ x4_2 a0_1 t576 _ ?side1 A24.out).mono ?_); (case side1 => exact HO_4.out); rintro e w27 ⟨v577, rfl, ho0, hb⟩; refine ⟨_, rfl, ?_⟩; replace HO_4 := vb HO_4 hb; replace HO575 := vb HO575 hb; have HO578 := am (Kd.V_lower (Kd.V_mono (ok' := fun k_ => k_ ≠ gb569) ho0 (fun k_ hk_ => Or.elim hk_ (fun hs_ => hs_) (fun hn_ => (Kd.freshB (bk BK569) k_ hn_)))) (below_size (lk HB))); replace BK569 := bb BK569 hb; replace HB := lb HB hb))
       go_meet
       case rel => exact ⟨_, (t576), (t573), H', ⟨by have := HJ1.out; have := HK2.out; first | omega | exact Nat.le_refl _⟩, ⟨vk HO578⟩, ⟨vk HO575⟩, ⟨bk BK569⟩, ⟨lk HB⟩⟩
      rw [if_neg c23] at H
      have c23b0 : decide (0 ≤ a0_1) = false := decide_eq_false c23
      clear c23
      (first | rw [c23b0] | (simp only [i64_w, i32_w]; rw [c23b0]) | skip)
      replace H := bm H
      obtain ⟨t579, A280, H⟩ := H
      have A28 := am A280
      clear A280
      have H' := am H
      clear H
      have hcz29_0 : w21.cell? ⟨gb569, 0, none⟩ = some (.string a0_0) := (blk_cell BK569.out 0).trans rfl
      have hcz29_1 : w21.cell? ⟨gb569, 1, none⟩ = some (.int .i64 a0_1) := (blk_cell BK569.out 1).trans rfl
      have hfz29_0 := blk_frozen BK569.out 0
      have hfz29_1 := blk_frozen BK569.out 1
      obtain ⟨Ao30, co30, eo30⟩ := Kd.V_slice HO575.out
      subst eo30
      go_wp2_with (first | (refine gL (some 55) Tryd.func52 #[.slice Ao30 t573.length co30, .int .i64 (wrap64 (-a0_1))] ?_; (with_reducible refine (num_nat_tens.calls k2 (fun k_ => k_ ≠ gb569) _ _ t573 (wrap64 (-a0_1)) t579 _ ?side1 A28.out).mono ?_); (case side1 => exact HO575.out); rintro e w31 ⟨v580, rfl, ho0, hb⟩; refine ⟨_, rfl, ?_⟩; replace HO_4 := vb HO_4 hb; replace HO575 := vb HO575 hb; have HO581 := am (Kd.V_lower (Kd.V_mono (ok' := fun k_ => k_ ≠ gb569) ho0 (fun k_ hk_ => Or.elim hk_ (fun hs_ => hs_) (fun hn_ => (Kd.freshB (bk BK569) k_ hn_)))) (below_size (lk HB))); replace BK569 := bb BK569 hb; replace HB := lb HB hb))
      go_meet
      case rel => exact ⟨_, (x4_2), (t579), H', ⟨by have := HJ1.out; have := HK2.out; first | omega | exact Nat.le_refl _⟩, ⟨vk HO_4⟩, ⟨vk HO581⟩, ⟨bk BK569⟩, ⟨lk HB⟩⟩
     case rest =>
      clear HC20
      obtain ⟨kq, x4_19, x6_19, HA, HJ19, HO_4, HO_6, BK569, HB⟩ := hcut
      cases kq with
      | zero => exact absurd HA.out (by simp [num_decimal_bits.j2])
      | succ kj19 =>
       have H := HA.out
       clear HA
       simp only [num_decimal_bits.j2] at H
       replace H := bm H
       obtain ⟨t582, A320, H⟩ := H
       have A32 := am A320
       clear A320
       replace H := bm H
       obtain ⟨t583, A330, H⟩ := H
       have A33 := am A330
       clear A330
       have HC34 := am H
       clear H
       obtain ⟨Ao35, co35, eo35⟩ := Kd.V_slice HO_4.out
       subst eo35
       go_upto_if 63 with (first | (refine gL (some 57) Tryd.func51 #[.slice Ao35 x4_19.length co35] ?_; (with_reducible refine (num_nat_size.calls _ _ x4_19 t582 _ ?side1 ?side2 A32.out).mono ?_); (case side1 => exact ck (Kd.V_reads' HO_4.out).2.2); (case side2 => exact (Kd.V_reads' HO_4.out).2.1); rintro e w' ⟨rfl, ⟨nd, rfl⟩⟩; refine ⟨_, rfl, ?_⟩; obtain ⟨Ao36, co36, eo36⟩ := Kd.V_slice HO_6.out; subst eo36) | (refine gL (some 59) Tryd.func51 #[.slice Ao36 x6_19.length co36] ?_; (with_reducible refine (num_nat_size.calls _ _ x6_19 t583 _ ?side1 ?side2 A33.out).mono ?_); (case side1 => exact ck (Kd.V_reads' HO_6.out).2.2); (case side2 => exact (Kd.V_reads' HO_6.out).2.1); rintro e w' ⟨rfl, ⟨nd, rfl⟩⟩; refine ⟨_, rfl, ?_⟩))
       (try simp only [Act.put, List.setIfInBounds_toArray, List.set_cons_zero, List.set_cons_succ])
       go_cut [4, 6] (fun v4 v6 wc => ∃ (kq : Nat) (x4_33 : List Int) (x6_33 : List Int), Aside0 (num_decimal_bits.j3 kq x4_33 x6_33 (wrap64 (56 - (wrap64 (t582 - t583)))) = some r) ∧ Aside0 (kq ≤ kj19) ∧ Aside0 (Kd.V (Kd.int .u32) 102 wc w.heap.size (fun k_ => k_ ≠ gb569) v4 x4_33) ∧ Aside0 (Kd.V (Kd.int .u32) 102 wc w.heap.size (fun k_ => k_ ≠ gb569) v6 x6_33) ∧ Aside0 (wc.heap[gb569]? = some (.cells #[.string a0_0, .int .i64 a0_1] 79 (0, 0))) ∧ Aside0 (Below w.heap.size w wc))
       case first =>
        have H := HC34.out
        clear HC34
        by_cases c37 : (wrap64 (56 - (wrap64 (t582 - t583)))) ≥ 0
        ·
         rw [if_pos c37] at H
         have c37b0 : decide (0 ≤ (wrap64 (56 - (wrap64 (t582 - t583))))) = true := dt c37
         clear c37
         (first | rw [c37b0] | (simp only [i64_w, i32_w]; rw [c37b0]) | skip)
         replace H := bm H
         obtain ⟨t584, A380, H⟩ := H
         have A38 := am A380
         clear A380
         have H' := am H
         clear H
         go_wp2_with (first | (refine gL (some 66) Tryd.func46 #[.slice Ao35 x4_19.length co35, .int .i64 (wrap64 (56 - (wrap64 (t582 - t583))))] ?_; (with_reducible refine (num_nat_up.calls kj19 _ _ x4_19 (wrap64 (56 - (wrap64 (t582 - t583)))) t584 _ ?side1 ?side2 A38.out).mono ?_); (case side1 => exact ck (Kd.V_reads' HO_4.out).2.2); (case side2 => exact (Kd.V_reads' HO_4.out).2.1); rintro e w39 ⟨v585, rfl, ho0, hb⟩; refine ⟨_, rfl, ?_⟩; replace HO_4 := vb HO_4 hb; replace HO_6 := vb HO_6 hb; have HO586 := am (Kd.V_lower (Kd.V_mono (ok' := fun k_ => k_ ≠ gb569) ho0 (fun k_ hk_ => (Kd.freshB (bk BK569) k_ hk_))) (below_size (lk HB))); replace BK569 := bb BK569 hb; replace HB := lb HB hb))
         go_meet
         case rel => exact ⟨_, (t584), (x6_19), H', ⟨by have := HJ1.out; have := HK2.out; have := HJ19.out; first | omega | exact Nat.le_refl _⟩, ⟨vk HO586⟩, ⟨vk HO_6⟩, ⟨bk BK569⟩, ⟨lk HB⟩⟩
        rw [if_neg c37] at H
        have c37b0 : decide (0 ≤ (wrap64 (56 - (wrap64 (t582 - t583))))) = false := decide_eq_false c37
        clear c37
        (first | rw [c37b0] | (simp only [i64_w, i32_w]; rw [c37b0]) | skip)
        replace H := bm H
        obtain ⟨t587, A400, H⟩ := H
        have A40 := am A400
        clear A400
        have H' := am H
        clear H
        go_wp2_with (first | (refine gL (some 70) Tryd.func46 #[.slice Ao36 x6_19.length co36, .int .i64 (wrap64 (-(wrap64 (56 - (wrap64 (t582 - t583))))))] ?_; (with_reducible refine (num_nat_up.calls kj19 _ _ x6_19 (wrap64 (-(wrap64 (56 - (wrap64 (t582 - t583)))))) t587 _ ?side1 ?side2 A40.out).mono ?_); (case side1 => exact ck (Kd.V_reads' HO_6.out).2.2); (case side2 => exact (Kd.V_reads' HO_6.out).2.1); rintro e w41 ⟨v588, rfl, ho0, hb⟩; refine ⟨_, rfl, ?_⟩; replace HO_4 := vb HO_4 hb; replace HO_6 := vb HO_6 hb; have HO589 := am (Kd.V_lower (Kd.V_mono (ok' := fun k_ => k_ ≠ gb569) ho0 (fun k_ hk_ => (Kd.freshB (bk BK569) k_ hk_))) (below_size (lk HB))); replace BK569 := bb BK569 hb; replace HB := lb HB hb))
        go_meet
        case rel => exact ⟨_, (x4_19), (t587), H', ⟨by have := HJ1.out; have := HK2.out; have := HJ19.out; first | omega | exact Nat.le_refl _⟩, ⟨vk HO_4⟩, ⟨vk HO589⟩, ⟨bk BK569⟩, ⟨lk HB⟩⟩
       case rest =>
        clear HC34
        obtain ⟨kq, x4_33, x6_33, HA, HJ33, HO_4, HO_6, BK569, HB⟩ := hcut
        cases kq with
        | zero => exact absurd HA.out (by simp [num_decimal_bits.j3])
        | succ kj33 =>
         have H := HA.out
         clear HA
         simp only [num_decimal_bits.j3] at H
         have H' := am H
         clear H
         go_wp2
         go_loopg [4, 8, 9] kj33 (fun kq v4 v8 v9 w' => ∃ (x4_5 : List Int) (x8_5 : Int) (x9_5 : Int), v8 = .int .u64 x8_5 ∧ v9 = .int .i64 x9_5 ∧ Aside0 (num_decimal_bits.l1 kq x4_5 x6_33 (wrap64 (56 - (wrap64 (t582 - t583)))) x8_5 x9_5 = some r) ∧ Aside0 (kq ≤ kj33) ∧ Aside0 (Kd.V (Kd.int .u32) 102 w' w.heap.size (fun k_ => k_ ≠ gb569) v4 x4_5) ∧ Aside0 (Kd.V (Kd.int .u32) 102 w' w.heap.size (fun k_ => k_ ≠ gb569) u6 x6_33) ∧ Aside0 (w'.heap[gb569]? = some (.cells #[.string a0_0, .int .i64 a0_1] 79 (0, 0))) ∧ Aside0 (Below w.heap.size w w'))
         case atStart => exact ⟨(x4_33), (0), (57), eqd, eqd, H', ⟨Nat.le_refl _⟩, ⟨vk HO_4⟩, ⟨vk HO_6⟩, ⟨bk BK569⟩, ⟨lk HB⟩⟩
         case round =>
          clear H'
          obtain ⟨x4_5, x8_5, x9_5, rfl, rfl, HA, HK5, HO_4, HO_6, BK569, HB⟩ := hrel
          cases gk with
          | zero => exact absurd HA.out (by simp [num_decimal_bits.l1])
          | succ k5 =>
           have H := HA.out
           clear HA
           simp only [num_decimal_bits.l1] at H
           by_cases c42 : x9_5 ≥ 0
           ·
            rw [if_pos c42] at H
            have c42b0 : decide (0 ≤ x9_5) = true := dt c42
            clear c42
            replace H := bm H
            obtain ⟨t591, A430, H⟩ := H
            have A43 := am A430
            clear A430
            replace H := bm H
            obtain ⟨t594, A440, H⟩ := H
            have A44 := am A440
            clear A440
            by_cases c45 : t594 ≥ 0
            ·
             rw [if_pos c45] at H
             have c45b0 : decide (0 ≤ t594) = true := dt c45
             clear c45
             replace H := bm H
             obtain ⟨t595, A460, H⟩ := H
             have A46 := am A460
             clear A460
             by_cases c47 : 0 ≤ x9_5
             ·
              rw [if_pos c47] at H
              have c47b0 := eq_true c47
              have c47b1 := dt c47
              clear c47
              obtain ⟨ji48, hji48⟩ : ∃ j_ : Int, (shl .u64 1 x9_5) = j_ := ⟨_, rfl⟩
              replace H : (num_decimal_bits.l1 k5 t595 x6_33 (wrap64 (56 - (wrap64 (t582 - t583)))) (Go.bits .or .u64 x8_5 (ji48)) (wrap64 (x9_5 - 1))) = some r := by first | (rw [hji48] at H; exact H) | (simp only [hji48] at H ⊢; exact H)
              (try rw [hji48] at A43)
              (try rw [hji48] at A44)
              (try rw [hji48] at A46)
              have hji48_ : (IntKind.u64.wrap (1 * 2 ^ min x9_5.toNat 64)) = ji48 := hji48
              have hji48z : x9_5 ≤ 64 → (IntKind.u64.wrap (1 * 2 ^ x9_5.toNat)) = ji48 := shl_small hji48
              have hji48u : (IntKind.u64.wrap (2 ^ min x9_5.toNat 64)) = ji48 := by have h_ := hji48_; rw [Int.one_mul] at h_; exact h_
              have hji48v : x9_5 ≤ 64 → (IntKind.u64.wrap (2 ^ x9_5.toNat)) = ji48 := fun hle_ => by have h_ := hji48z hle_; rw [Int.one_mul] at h_; exact h_
              have H' := am H
              clear H
              obtain ⟨Ao49, co49, eo49⟩ := Kd.V_slice HO_6.out
              subst eo49
              go_wp2_with (first | (refine gL (some 77) Tryd.func46 #[.slice Ao49 x6_33.length co49, .int .i64 x9_5] ?_; (with_reducible refine (num_nat_up.calls k5 _ _ x6_33 x9_5 t591 _ ?side1 ?side2 A43.out).mono ?_); (case side1 => exact ck (Kd.V_reads' HO_6.out).2.2); (case side2 => exact (Kd.V_reads' HO_6.out).2.1); rintro e w50 ⟨v592, rfl, ho0, hb⟩; refine ⟨_, rfl, ?_⟩; replace HO_4 := vb HO_4 hb; replace HO_6 := vb HO_6 hb; have HO593 := am (Kd.V_lower (Kd.V_mono (ok' := fun k_ => k_ ≠ gb569) ho0 (fun k_ hk_ => (Kd.freshB (bk BK569) k_ hk_))) (below_size (lk HB))); replace BK569 := bb BK569 hb; replace HB := lb HB hb; obtain ⟨Ao51, co51, eo51⟩ := Kd.V_slice HO_4.out; subst eo51; obtain ⟨Ao52, co52, eo52⟩ := Kd.V_slice HO593.out; subst eo52) | (refine gL (some 80) Tryd.func49 #[.slice Ao51 x4_5.length co51, .slice Ao52 t591.length co52] ?_; (with_reducible refine (num_nat_against.calls k5 _ _ x4_5 _ _ t591 t594 _ ?side1 ?side2 ?side3 ?side4 A44.out).mono ?_); (case side1 => exact ck (Kd.V_reads' HO_4.out).2.2); (case side2 => exact (Kd.V_reads' HO_4.out).2.1); (case side3 => exact ck (Kd.V_reads' HO593.out).2.2); (case side4 => exact (Kd.V_reads' HO593.out).2.1); rintro e w' ⟨rfl, ⟨nd, rfl⟩⟩; refine ⟨_, rfl, ?_⟩) | (refine gL (some 84) Tryd.func87 #[.slice Ao51 x4_5.length co51, .slice Ao52 t591.length co52] ?_; (with_reducible refine (num_nat_less.calls k5 _ _ x4_5 _ _ t591 t595 _ ?side1 ?side2 ?side3 ?side4 A46.out).mono ?_); (case side1 => exact ck (Kd.V_reads' HO_4.out).2.2); (case side2 => exact (Kd.V_reads' HO_4.out).2.1); (case side3 => exact ck (Kd.V_reads' HO593.out).2.2); (case side4 => exact (Kd.V_reads' HO593.out).2.1); rintro e w53 ⟨v596, rfl, ho0, hb⟩; refine ⟨_, rfl, ?_⟩; replace HO_4 := vb HO_4 hb; replace HO_6 := vb HO_6 hb; replace HO593 := vb HO593 hb; have HO597 := am (Kd.V_lower (Kd.V_mono (ok' := fun k_ => k_ ≠ gb569) ho0 (fun k_ hk_ => (Kd.freshB (bk BK569) k_ hk_))) (below_size (lk HB))); replace BK569 := bb BK569 hb; replace HB := lb HB hb))
              go_roundg k5
              case measure => have := HJ1.out; have := HK2.out; have := HJ19.out; have := HJ33.out; have := HK5.out; omega
              case rel => exact ⟨(t595), (Go.bits .or .u64 x8_5 (ji48)), (wrap64 (x9_5 - 1)), (by first | rfl | (simp; done) | (simp only [← hji48] <;> (first | rfl | simp)) | (simp [*]; done)), eqd, H', ⟨by have := HJ1.out; have := HK2.out; have := HJ19.out; have := HJ33.out; have := HK5.out; omega⟩, ⟨vk HO597⟩, ⟨vk HO_6⟩, ⟨bk BK569⟩, ⟨lk HB⟩⟩
             rw [if_neg c47] at H
             exact absurd H (by simp)
            rw [if_neg c45] at H
            have c45b0 : decide (0 ≤ t594) = false := decide_eq_false c45
            clear c45
            have H' := am H
            clear H
            obtain ⟨Ao54, co54, eo54⟩ := Kd.V_slice HO_6.out
            subst eo54
            go_wp2_with (first | (refine gL (some 77) Tryd.func46 #[.slice Ao54 x6_33.length co54, .int .i64 x9_5] ?_; (with_reducible refine (num_nat_up.calls k5 _ _ x6_33 x9_5 t591 _ ?side1 ?side2 A43.out).mono ?_); (case side1 => exact ck (Kd.V_reads' HO_6.out).2.2); (case side2 => exact (Kd.V_reads' HO_6.out).2.1); rintro e w55 ⟨v592, rfl, ho0, hb⟩; refine ⟨_, rfl, ?_⟩; replace HO_4 := vb HO_4 hb; replace HO_6 := vb HO_6 hb; have HO593 := am (Kd.V_lower (Kd.V_mono (ok' := fun k_ => k_ ≠ gb569) ho0 (fun k_ hk_ => (Kd.freshB (bk BK569) k_ hk_))) (below_size (lk HB))); replace BK569 := bb BK569 hb; replace HB := lb HB hb; obtain ⟨Ao56, co56, eo56⟩ := Kd.V_slice HO_4.out; subst eo56; obtain ⟨Ao57, co57, eo57⟩ := Kd.V_slice HO593.out; subst eo57) | (refine gL (some 80) Tryd.func49 #[.slice Ao56 x4_5.length co56, .slice Ao57 t591.length co57] ?_; (with_reducible refine (num_nat_against.calls k5 _ _ x4_5 _ _ t591 t594 _ ?side1 ?side2 ?side3 ?side4 A44.out).mono ?_); (case side1 => exact ck (Kd.V_reads' HO_4.out).2.2); (case side2 => exact (Kd.V_reads' HO_4.out).2.1); (case side3 => exact ck (Kd.V_reads' HO593.out).2.2); (case side4 => exact (Kd.V_reads' HO593.out).2.1); rintro e w' ⟨rfl, ⟨nd, rfl⟩⟩; refine ⟨_, rfl, ?_⟩))
            go_roundg k5
            case measure => have := HJ1.out; have := HK2.out; have := HJ19.out; have := HJ33.out; have := HK5.out; omega
            case rel => exact ⟨(x4_5), (x8_5), (wrap64 (x9_5 - 1)), eqd, eqd, H', ⟨by have := HJ1.out; have := HK2.out; have := HJ19.out; have := HJ33.out; have := HK5.out; omega⟩, ⟨vk HO_4⟩, ⟨vk HO_6⟩, ⟨bk BK569⟩, ⟨lk HB⟩⟩
           rw [if_neg c42] at H
           have c42b0 : decide (0 ≤ x9_5) = false := decide_eq_false c42
           clear c42
           replace H := bm H
           obtain ⟨t590, A580, H⟩ := H
           replace H : (some t590) = some r := H
           have A58 := am A580
           clear A580
           obtain rfl := Option.some.inj H
           obtain ⟨Ao59, co59, eo59⟩ := Kd.V_slice HO_4.out
           subst eo59
           go_wp2_with (first | (refine gL (some 95) Tryd.func102 #[.int .u64 x8_5, .int .i64 (wrap64 (-(wrap64 (56 - (wrap64 (t582 - t583)))))), .bool (decide (0 < x4_5.length))] ?_; (with_reducible refine (num_nearest.calls k5 x8_5 (wrap64 (-(wrap64 (56 - (wrap64 (t582 - t583)))))) (decide (0 < x4_5.length)) t590 _ A58.out).mono ?_); rintro e w60 ⟨rfl, hb⟩; refine ⟨_, rfl, ?_⟩; replace HO_4 := vb HO_4 hb; replace HO_6 := vb HO_6 hb; replace BK569 := bb BK569 hb; replace HB := lb HB hb))
           go_ret
           exact ex (lk HB)
mutual
def num_Parse.j0 : Nat → ByteArray → Int → Bool → Option (Nat × Int)
 | 0, _, _, _ => none
 | k + 1, x0, x4, x21 => if x21 = true then (if 0 < (x0.size : Int) then (if (bt x0 0) = 45 then (if 1 ≤ (x0.size : Int) then (num_Parse.j1 k (x0.extract 1 x0.size) 9223372036854775808) else (none)) else (if 1 ≤ (x0.size : Int) then (num_Parse.j1 k (x0.extract 1 x0.size) x4) else (none))) else (none)) else (num_Parse.j1 k x0 x4)
def num_Parse.j1 : Nat → ByteArray → Int → Option (Nat × Int)
 | 0, _, _ => none
 | k + 1, x0, x4 => (Hd.num_small.f x0).bind fun t600 => (if t600.toList = ([110, 97, 110] : List UInt8) then (some ((9221120237041090561 : Int).toNat, 0)) else (if t600.toList = ([105, 110, 102] : List UInt8) then (some (((Go.bits .or .u64 9218868437227405312 x4) : Int).toNat, 0)) else (if t600.toList = ([105, 110, 102, 105, 110, 105, 116, 121] : List UInt8) then (some (((Go.bits .or .u64 9218868437227405312 x4) : Int).toNat, 0)) else ((num_read.f k x0).bind fun bt601 => (if bt601.2.2 = true then ((num_decimal_bits.f k bt601.1 bt601.2.1).bind fun t605 => (some (((Go.bits .or .u64 t605 x4) : Int).toNat, 0))) else (some (0, 8)))))))
end
def num_Parse.f (k : Nat) (a0 : ByteArray) : Option (Nat × Int) := if (a0.size : Int) > 400 then (some (0, 8)) else (if a0.toList = ([] : List UInt8) then (num_Parse.j0 k a0 0 false) else (if 0 < (a0.size : Int) then (if (bt a0 0) = 43 then (num_Parse.j0 k a0 0 true) else (num_Parse.j0 k a0 0 ((bt a0 0) == 45))) else (none)))
theorem num_Parse.mono_l : ∀ k, (∀ y0 y1 y2, LeO (num_Parse.j0 k y0 y1 y2) (num_Parse.j0 (k + 1) y0 y1 y2)) ∧ (∀ y0 y1, LeO (num_Parse.j1 k y0 y1) (num_Parse.j1 (k + 1) y0 y1))
 | 0 => ⟨fun _ _ _ r h => by simp [num_Parse.j0] at h, fun _ _ r h => by simp [num_Parse.j1] at h⟩
 | k + 1 => by
  obtain ⟨ih0, ih1⟩ := num_Parse.mono_l k
  refine ⟨?_, ?_⟩ <;> intros <;> (first | unfold num_Parse.j0 | unfold num_Parse.j1) <;> repeat' (with_reducible first | apply ih0 | apply ih1 | apply num_decimal_bits.mono | apply num_read.mono | apply LeO.refl | apply LeO.none | apply LeO.ite | refine LeO.bind ?_ (fun _ => ?_))
theorem num_Parse.mono : ∀ a0 k, LeO (num_Parse.f k a0) (num_Parse.f (k + 1) a0) := by
 intro a0 k
 obtain ⟨ih0, ih1⟩ := num_Parse.mono_l k
 unfold num_Parse.f
 repeat' (with_reducible first | apply ih0 | apply ih1 | apply num_decimal_bits.mono | apply num_read.mono | apply LeO.refl | apply LeO.none | apply LeO.ite | refine LeO.bind ?_ (fun _ => ?_))
set_option maxHeartbeats 8000000 in
theorem num_Parse.calls (k : Nat) (a0 : ByteArray) (r1 : Nat) (r2 : Int) (w : World) (h : num_Parse.f k a0 = some (r1, r2)) :
  Calls Tryd.prog 18 #[.string a0] w fun e w' => e = .returned (.tuple #[.float .f64 r1, .int .i64 r2]) ∧ Below w.heap.size w w' := by
 have hu79 := Tryd.underlying79
 have HB := am (Below.refl w.heap.size w)
 have H : (if (a0.size : Int) > 400 then (some (0, 8)) else (if a0.toList = ([] : List UInt8) then (num_Parse.j0 k a0 0 false) else (if 0 < (a0.size : Int) then (if (bt a0 0) = 43 then (num_Parse.j0 k a0 0 true) else (num_Parse.j0 k a0 0 ((bt a0 0) == 45))) else (none)))) = some (r1, r2) := h
 clear h
 by_cases c2 : (a0.size : Int) > 400
 ·
  rw [if_pos c2] at H
  have c2b0 : decide (400 < (a0.size : Int)) = true := dt c2
  have c2b1 : decide (400 < a0.size) = true := dt (by omega)
  clear c2
  simp only [Option.some.injEq, Prod.mk.injEq] at H
  obtain ⟨rfl, rfl⟩ := H
  have hext0 := Hd.ext12
  go_enter Tryd.func18, Tryd.ntmps18
  go_wp2
  go_ret2
  exact ex (lk HB)
 rw [if_neg c2] at H
 have c2b0 : decide (400 < (a0.size : Int)) = false := decide_eq_false c2
 have c2b1 : decide (400 < a0.size) = false := decide_eq_false (by omega)
 clear c2
 have HC3 := am H
 clear H
 have hext0 := Hd.ext12
 go_enter Tryd.func18, Tryd.ntmps18
 go_upto_region 4 with (fail)
 go_cut [21] (fun v21 wc => ∃ (kq : Nat) (x21_2 : Bool), v21 = .bool x21_2 ∧ Aside0 (num_Parse.j0 kq a0 0 x21_2 = some (r1, r2)) ∧ Aside0 (kq ≤ k) ∧ Aside0 (Below w.heap.size w wc))
 case first =>
  have H := HC3.out
  clear HC3
  by_cases c4 : a0.toList = ([] : List UInt8)
  ·
   rw [if_pos c4] at H
   have c4b0 : (a0.toList == ([] : List UInt8)) = true := beq_iff_eq.mpr c4
   have c4b1 : (a0.toList != ([] : List UInt8)) = false := bne_eq_false_iff_eq.mpr c4
   clear c4
   (first | rw [c4b0] | (simp only [i64_w, i32_w]; rw [c4b0]) | skip)
   have H' := am H
   clear H
   go_wp2
   go_meet
   case rel => exact ⟨_, (false), eqd, H', ol, ⟨lk HB⟩⟩
  rw [if_neg c4] at H
  have c4b0 : (a0.toList == ([] : List UInt8)) = false := beq_eq_false_iff_ne.mpr c4
  have c4b1 : (a0.toList != ([] : List UInt8)) = true := bne_iff_ne.mpr c4
  (first | rw [c4b0] | (simp only [i64_w, i32_w]; rw [c4b0]) | skip)
  by_cases c5 : 0 < (a0.size : Int)
  ·
   rw [if_pos c5] at H
   have c5b0 := dt c5
   have c5b1 : decide (0 < a0.size) = true := dt (by omega)
   clear c5
   by_cases c7 : (bt a0 0) = 43
   ·
    rw [if_pos c7] at H
    have c7b0 : ((bt a0 0) == 43) = true := beq_iff_eq.mpr c7
    have c7b1 : ((bt a0 0) != 43) = false := bne_eq_false_iff_eq.mpr c7
    clear c7
    have H' := am H
    clear H
    have p6 : 0 ≤ (0 : Int) := (by omega)
    have q6 : 0 < a0.size := (by have : (0 : Int) < (a0.size : Int) := od; omega)
    have hx6 : ∀ h : 0 < a0.size, ((a0[0]'h).toNat : Int) = bt a0 0 := bt_at a0 0
    clear p6
    have qi6 : (0 < (a0.size : Int)) = True := eq_true (od)
    replace q6 := eq_true q6
    go_wp2
    go_meet
    case rel => exact ⟨_, (true), eqd, H', ol, ⟨lk HB⟩⟩
   rw [if_neg c7] at H
   have c7b0 : ((bt a0 0) == 43) = false := beq_eq_false_iff_ne.mpr c7
   have c7b1 : ((bt a0 0) != 43) = true := bne_iff_ne.mpr c7
   have H' := am H
   clear H
   have p6 : 0 ≤ (0 : Int) := (by omega)
   have q6 : 0 < a0.size := (by have : (0 : Int) < (a0.size : Int) := od; omega)
   have hx6 : ∀ h : 0 < a0.size, ((a0[0]'h).toNat : Int) = bt a0 0 := bt_at a0 0
   clear p6
   have qi6 : (0 < (a0.size : Int)) = True := eq_true (od)
   replace q6 := eq_true q6
   have p8 : 0 ≤ (0 : Int) := (by omega)
   have q8 : 0 < a0.size := (by have : (0 : Int) < (a0.size : Int) := od; omega)
   have hx8 : ∀ h : 0 < a0.size, ((a0[0]'h).toNat : Int) = bt a0 0 := bt_at a0 0
   clear p8
   have qi8 : (0 < (a0.size : Int)) = True := eq_true (od)
   replace q8 := eq_true q8
   go_wp2
   go_meet
   case rel => exact ⟨_, (((bt a0 0) == 45)), eqd, H', ol, ⟨lk HB⟩⟩
  rw [if_neg c5] at H
  exact absurd H (by simp)
 case rest =>
  clear HC3
  obtain ⟨kq, x21_2, rfl, HA, HJ2, HB⟩ := hcut
  cases kq with
  | zero => exact absurd HA.out (by simp [num_Parse.j0])
  | succ kj2 =>
   have H := HA.out
   clear HA
   simp only [num_Parse.j0] at H
   have HC9 := am H
   clear H
   go_upto_if 21 with (fail)
   go_cut [0, 4] (fun v0 v4 wc => ∃ (kq : Nat) (x0_8 : ByteArray) (x4_8 : Int), v0 = .string x0_8 ∧ v4 = .int .u64 x4_8 ∧ Aside0 (num_Parse.j1 kq x0_8 x4_8 = some (r1, r2)) ∧ Aside0 (kq ≤ kj2) ∧ Aside0 (Below w.heap.size w wc))
   case first =>
    have H := HC9.out
    clear HC9
    by_cases c10 : x21_2 = true
    ·
     subst c10
     have H1 : (if 0 < (a0.size : Int) then (if (bt a0 0) = 45 then (if 1 ≤ (a0.size : Int) then (num_Parse.j1 kj2 (a0.extract 1 a0.size) 9223372036854775808) else (none)) else (if 1 ≤ (a0.size : Int) then (num_Parse.j1 kj2 (a0.extract 1 a0.size) 0) else (none))) else (none)) = some (r1, r2) := by rw [if_pos rfl] at H; exact H
     clear H
     have H := H1
     clear H1
     by_cases c11 : 0 < (a0.size : Int)
     ·
      rw [if_pos c11] at H
      have c11b0 := dt c11
      have c11b1 : decide (0 < a0.size) = true := dt (by omega)
      clear c11
      (first | rw [c11b0] | (simp only [i64_w, i32_w]; rw [c11b0]) | skip)
      by_cases c13 : (bt a0 0) = 45
      ·
       rw [if_pos c13] at H
       have c13b0 : ((bt a0 0) == 45) = true := beq_iff_eq.mpr c13
       have c13b1 : ((bt a0 0) != 45) = false := bne_eq_false_iff_eq.mpr c13
       clear c13
       by_cases c14 : 1 ≤ (a0.size : Int)
       ·
        rw [if_pos c14] at H
        have c14b0 := eq_true c14
        have c14b1 := dt c14
        clear c14
        obtain ⟨y598, hy598⟩ : ∃ y_ : ByteArray, y_ = (a0.extract 1 a0.size) := ⟨_, rfl⟩
        replace H : (num_Parse.j1 kj2 y598 9223372036854775808) = some (r1, r2) := by first | (rw [hy598]; exact H) | exact H
        have Ny598 := am hy598
        clear hy598
        have H' := am H
        clear H
        have p12 : 0 ≤ (0 : Int) := (by omega)
        have q12 : 0 < a0.size := (by have : (0 : Int) < (a0.size : Int) := od; omega)
        have hx12 : ∀ h : 0 < a0.size, ((a0[0]'h).toNat : Int) = bt a0 0 := bt_at a0 0
        clear p12
        have qi12 : (0 < (a0.size : Int)) = True := eq_true (od)
        replace q12 := eq_true q12
        have hcs15 := Hd.str_from (P := Tryd.prog) (k := .i64) Tryd.underlying9 (i := 1) (s := a0) (y := y598) oo oo Ny598.out
        go_wp2
        go_meet
        case rel => exact ⟨_, (y598), (9223372036854775808), eqd, eqd, H', ⟨by have := HJ2.out; first | omega | exact Nat.le_refl _⟩, ⟨lk HB⟩⟩
       rw [if_neg c14] at H
       exact absurd H (by simp)
      rw [if_neg c13] at H
      have c13b0 : ((bt a0 0) == 45) = false := beq_eq_false_iff_ne.mpr c13
      have c13b1 : ((bt a0 0) != 45) = true := bne_iff_ne.mpr c13
      by_cases c16 : 1 ≤ (a0.size : Int)
      ·
       rw [if_pos c16] at H
       have c16b0 := eq_true c16
       have c16b1 := dt c16
       clear c16
       obtain ⟨y599, hy599⟩ : ∃ y_ : ByteArray, y_ = (a0.extract 1 a0.size) := ⟨_, rfl⟩
       replace H : (num_Parse.j1 kj2 y599 0) = some (r1, r2) := by first | (rw [hy599]; exact H) | exact H
       have Ny599 := am hy599
       clear hy599
       have H' := am H
       clear H
       have p12 : 0 ≤ (0 : Int) := (by omega)
       have q12 : 0 < a0.size := (by have : (0 : Int) < (a0.size : Int) := od; omega)
       have hx12 : ∀ h : 0 < a0.size, ((a0[0]'h).toNat : Int) = bt a0 0 := bt_at a0 0
       clear p12
       have qi12 : (0 < (a0.size : Int)) = True := eq_true (od)
       replace q12 := eq_true q12
       have hcs17 := Hd.str_from (P := Tryd.prog) (k := .i64) Tryd.underlying9 (i := 1) (s := a0) (y := y599) oo oo Ny599.out
       go_wp2
       go_meet
       case rel => exact ⟨_, (y599), (0), eqd, eqd, H', ⟨by have := HJ2.out; first | omega | exact Nat.le_refl _⟩, ⟨lk HB⟩⟩
      rw [if_neg c16] at H
      exact absurd H (by simp)
     rw [if_neg c11] at H
     exact absurd H (by simp)
    replace c10 := Bool.eq_false_iff.mpr c10
    subst c10
    have H1 : (num_Parse.j1 kj2 a0 0) = some (r1, r2) := by rw [if_neg (show ¬ (false = true) by decide)] at H; exact H
    clear H
    have H := H1
    clear H1
    have H' := am H
    clear H
    go_wp2
    go_meet
    case rel => exact ⟨_, (a0), (0), eqd, eqd, H', ⟨by have := HJ2.out; first | omega | exact Nat.le_refl _⟩, ⟨lk HB⟩⟩
   case rest =>
    clear HC9
    obtain ⟨kq, x0_8, x4_8, rfl, rfl, HA, HJ8, HB⟩ := hcut
    cases kq with
    | zero => exact absurd HA.out (by simp [num_Parse.j1])
    | succ kj8 =>
     have H := HA.out
     clear HA
     simp only [num_Parse.j1] at H
     replace H := bm H
     obtain ⟨t600, A180, H⟩ := H
     replace H : (if t600.toList = ([110, 97, 110] : List UInt8) then (some ((9221120237041090561 : Int).toNat, 0)) else (if t600.toList = ([105, 110, 102] : List UInt8) then (some (((Go.bits .or .u64 9218868437227405312 x4_8) : Int).toNat, 0)) else (if t600.toList = ([105, 110, 102, 105, 110, 105, 116, 121] : List UInt8) then (some (((Go.bits .or .u64 9218868437227405312 x4_8) : Int).toNat, 0)) else ((num_read.f kj8 x0_8).bind fun bt601 => (if bt601.2.2 = true then ((num_decimal_bits.f kj8 bt601.1 bt601.2.1).bind fun t605 => (some (((Go.bits .or .u64 t605 x4_8) : Int).toNat, 0))) else (some (0, 8))))))) = some (r1, r2) := H
     have A18 := am A180
     clear A180
     by_cases c19 : t600.toList = ([110, 97, 110] : List UInt8)
     ·
      rw [if_pos c19] at H
      have c19b0 : (t600.toList == ([110, 97, 110] : List UInt8)) = true := beq_iff_eq.mpr c19
      have c19b1 : (t600.toList != ([110, 97, 110] : List UInt8)) = false := bne_eq_false_iff_eq.mpr c19
      clear c19
      simp only [Option.some.injEq, Prod.mk.injEq] at H
      obtain ⟨rfl, rfl⟩ := H
      go_wp2_with (first | (refine gL (some 28) Tryd.func65 #[.string x0_8] ?_; (with_reducible refine (Hd.num_small.calls x0_8 t600 _ A18.out).mono ?_); rintro e w20 ⟨rfl, hb⟩; refine ⟨_, rfl, ?_⟩; replace HB := lb HB hb))
      go_ret2
      exact ex (lk HB)
     rw [if_neg c19] at H
     have c19b0 : (t600.toList == ([110, 97, 110] : List UInt8)) = false := beq_eq_false_iff_ne.mpr c19
     have c19b1 : (t600.toList != ([110, 97, 110] : List UInt8)) = true := bne_iff_ne.mpr c19
     by_cases c21 : t600.toList = ([105, 110, 102] : List UInt8)
     ·
      rw [if_pos c21] at H
      have c21b0 : (t600.toList == ([105, 110, 102] : List UInt8)) = true := beq_iff_eq.mpr c21
      have c21b1 : (t600.toList != ([105, 110, 102] : List UInt8)) = false := bne_eq_false_iff_eq.mpr c21
      clear c21
      simp only [Option.some.injEq, Prod.mk.injEq] at H
      obtain ⟨rfl, rfl⟩ := H
      go_wp2_with (first | (refine gL (some 28) Tryd.func65 #[.string x0_8] ?_; (with_reducible refine (Hd.num_small.calls x0_8 t600 _ A18.out).mono ?_); rintro e w22 ⟨rfl, hb⟩; refine ⟨_, rfl, ?_⟩; replace HB := lb HB hb))
      go_ret2
      exact ex (lk HB)
     rw [if_neg c21] at H
     have c21b0 : (t600.toList == ([105, 110, 102] : List UInt8)) = false := beq_eq_false_iff_ne.mpr c21
     have c21b1 : (t600.toList != ([105, 110, 102] : List UInt8)) = true := bne_iff_ne.mpr c21
     by_cases c23 : t600.toList = ([105, 110, 102, 105, 110, 105, 116, 121] : List UInt8)
     ·
      rw [if_pos c23] at H
      have c23b0 : (t600.toList == ([105, 110, 102, 105, 110, 105, 116, 121] : List UInt8)) = true := beq_iff_eq.mpr c23
      have c23b1 : (t600.toList != ([105, 110, 102, 105, 110, 105, 116, 121] : List UInt8)) = false := bne_eq_false_iff_eq.mpr c23
      clear c23
      simp only [Option.some.injEq, Prod.mk.injEq] at H
      obtain ⟨rfl, rfl⟩ := H
      go_wp2_with (first | (refine gL (some 28) Tryd.func65 #[.string x0_8] ?_; (with_reducible refine (Hd.num_small.calls x0_8 t600 _ A18.out).mono ?_); rintro e w24 ⟨rfl, hb⟩; refine ⟨_, rfl, ?_⟩; replace HB := lb HB hb))
      go_ret2
      exact ex (lk HB)
     rw [if_neg c23] at H
     have c23b0 : (t600.toList == ([105, 110, 102, 105, 110, 105, 116, 121] : List UInt8)) = false := beq_eq_false_iff_ne.mpr c23
     have c23b1 : (t600.toList != ([105, 110, 102, 105, 110, 105, 116, 121] : List UInt8)) = true := bne_iff_ne.mpr c23
     replace H := bm H
     obtain ⟨⟨t601, t602, t603⟩, A250, H⟩ := H
     replace H : (if t603 = true then ((num_decimal_bits.f kj8 t601 t602).bind fun t605 => (some (((Go.bits .or .u64 t605 x4_8) : Int).toNat, 0))) else (some (0, 8))) = some (r1, r2) := H
     have A25 := am A250
     clear A250
     by_cases c26 : t603 = true
     ·
      subst c26
      have H1 : ((num_decimal_bits.f kj8 t601 t602).bind fun t605 => (some (((Go.bits .or .u64 t605 x4_8) : Int).toNat, 0))) = some (r1, r2) := by rw [if_pos rfl] at H; exact H
      clear H
      have H := H1
      clear H1
      replace H := bm H
      obtain ⟨t605, A270, H⟩ := H
      replace H : (some (((Go.bits .or .u64 t605 x4_8) : Int).toNat, 0)) = some (r1, r2) := H
      have A27 := am A270
      clear A270
      simp only [Option.some.injEq, Prod.mk.injEq] at H
      obtain ⟨rfl, rfl⟩ := H
      go_wp2_with (first | (refine gL (some 28) Tryd.func65 #[.string x0_8] ?_; (with_reducible refine (Hd.num_small.calls x0_8 t600 _ A18.out).mono ?_); rintro e w28 ⟨rfl, hb⟩; refine ⟨_, rfl, ?_⟩; replace HB := lb HB hb) | (refine gL (some 40) Tryd.func66 #[.string x0_8] ?_; (with_reducible refine (num_read.calls kj8 x0_8 t601 t602 true _ A25.out).mono ?_); rintro e w29 ⟨rfl, hb⟩; refine ⟨_, rfl, ?_⟩; replace HB := lb HB hb) | ((with_reducible refine gate_dst (N := 5) rfl ?_); refine box_event ?hg (N := 5) ?hd (cs := #[.string (⟨#[]⟩ : ByteArray), .int .i64 0]) (t := 79) ?hr ?_; (case hd => rfl); (case hg => rfl); (case hr => first | (go_simp; done) | (go_simp; rfl)); intro gb604 hg w30 hbox hb; have BK604 := am (hbox); have GW604 := am ((by rw [hg]; exact (below_size (lk HB)) : w.heap.size ≤ gb604)); have GE604 := GW604; replace HB := lb HB hb; clear hb hbox hg; have hcz31_0 : w30.cell? ⟨gb604, 0, none⟩ = some (.string (⟨#[]⟩ : ByteArray)) := (blk_cell BK604.out 0).trans rfl; have hcz31_1 : w30.cell? ⟨gb604, 1, none⟩ = some (.int .i64 0) := (blk_cell BK604.out 1).trans rfl; have hfz31_0 := blk_frozen BK604.out 0; have hfz31_1 := blk_frozen BK604.out 1) | (refine gL (some 46) Tryd.func67 #[.agg #[.string t601, .int .i64 t602]] ?_; (with_reducible refine (num_decimal_bits.calls kj8 t601 t602 t605 _ A27.out).mono ?_); rintro e w32 ⟨rfl, hb⟩; refine ⟨_, rfl, ?_⟩; have n0_ := am (blk_below (g := gb604) (o := .cells #[.string t601, .int .i64 t602] 79 (0, 0)) (by (with_reducible repeat (first | refine blk_drewN ?_ _ | refine blk_drew ?_ | refine blk_alloc ?_ _)); refine blk_put (cs := #[.string t601, .int .i64 0]) ?_ 1 _ rfl; (with_reducible repeat (first | refine blk_drewN ?_ _ | refine blk_drew ?_ | refine blk_alloc ?_ _)); refine blk_put (cs := #[.string (⟨#[]⟩ : ByteArray), .int .i64 0]) ?_ 0 _ rfl; exact bk BK604) hb); have n1_ := lb HB hb; clear BK604 HB; have BK604 := n0_; have HB := n1_; clear n0_ n1_))
      go_ret2
      exact ex (lk HB)
     replace c26 := Bool.eq_false_iff.mpr c26
     subst c26
     have H1 : (some (0, 8)) = some (r1, r2) := by rw [if_neg (show ¬ (false = true) by decide)] at H; exact H
     clear H
     have H := H1
     clear H1
     simp only [Option.some.injEq, Prod.mk.injEq] at H
     obtain ⟨rfl, rfl⟩ := H
     go_wp2_with (first | (refine gL (some 28) Tryd.func65 #[.string x0_8] ?_; (with_reducible refine (Hd.num_small.calls x0_8 t600 _ A18.out).mono ?_); rintro e w33 ⟨rfl, hb⟩; refine ⟨_, rfl, ?_⟩; replace HB := lb HB hb) | (refine gL (some 40) Tryd.func66 #[.string x0_8] ?_; (with_reducible refine (num_read.calls kj8 x0_8 t601 t602 false _ A25.out).mono ?_); rintro e w34 ⟨rfl, hb⟩; refine ⟨_, rfl, ?_⟩; replace HB := lb HB hb) | ((with_reducible refine gate_dst (N := 5) rfl ?_); refine box_event ?hg (N := 5) ?hd (cs := #[.string (⟨#[]⟩ : ByteArray), .int .i64 0]) (t := 79) ?hr ?_; (case hd => rfl); (case hg => rfl); (case hr => first | (go_simp; done) | (go_simp; rfl)); intro gb604 hg w35 hbox hb; have BK604 := am (hbox); have GW604 := am ((by rw [hg]; exact (below_size (lk HB)) : w.heap.size ≤ gb604)); have GE604 := GW604; replace HB := lb HB hb; clear hb hbox hg; have hcz36_0 : w35.cell? ⟨gb604, 0, none⟩ = some (.string (⟨#[]⟩ : ByteArray)) := (blk_cell BK604.out 0).trans rfl; have hcz36_1 : w35.cell? ⟨gb604, 1, none⟩ = some (.int .i64 0) := (blk_cell BK604.out 1).trans rfl; have hfz36_0 := blk_frozen BK604.out 0; have hfz36_1 := blk_frozen BK604.out 1))
     go_ret2
     exact ex (lk HB)
mutual
def num_Text.j0 : Nat → Nat → ByteArray → Int → ByteArray → Option (ByteArray)
 | 0, _, _, _, _ => none
 | k + 1, x0, x3, x4, x6 => (math_IsNaN.f x0).bind fun t495 => (if t495 = true then (some (⟨#[78, 97, 78]⟩ : ByteArray)) else (if (FloatKind.f64.format.order x0 9218868437227405311 == some Ordering.gt) = true then (some (⟨#[43, 73, 110, 102]⟩ : ByteArray)) else (if (FloatKind.f64.format.order x0 18442240474082181119 == some Ordering.lt) = true then (some (⟨#[45, 73, 110, 102]⟩ : ByteArray)) else (if (FloatKind.f64.format.order x0 0 == some Ordering.eq) = true then (if x6.size + 1 ≤ 9223372036854775807 then (some (x6 ++ (⟨#[48]⟩ : ByteArray))) else (none)) else (if x4 < (-5) then (num_Text.j1 k x3 x4 x6 true) else (num_Text.j1 k x3 x4 x6 (decide (x4 > 21))))))))
def num_Text.j1 : Nat → ByteArray → Int → ByteArray → Bool → Option (ByteArray)
 | 0, _, _, _, _ => none
 | k + 1, x3, x4, x6, x28 => if x28 = true then ((num_scientific.f k x3 (wrap64 (x4 - 1))).bind fun t497 => (if x6.size + t497.size ≤ 9223372036854775807 then (some (x6 ++ t497)) else (none))) else (if x4 ≤ 0 then (if x6.size + 2 ≤ 9223372036854775807 then ((some (x6 ++ (⟨#[48, 46]⟩ : ByteArray) : ByteArray)).bind fun y499 => ((Hd.strings_Repeat.f (⟨#[48]⟩ : ByteArray) (wrap64 (-x4))).bind fun t500 => (if y499.size + t500.size ≤ 9223372036854775807 then ((some (y499 ++ t500 : ByteArray)).bind fun y501 => (if y501.size + x3.size ≤ 9223372036854775807 then (some (y501 ++ x3)) else (none))) else (none)))) else (none)) else (if x4 ≥ (x3.size : Int) then (if x6.size + x3.size ≤ 9223372036854775807 then ((some (x6 ++ x3 : ByteArray)).bind fun y503 => ((Hd.strings_Repeat.f (⟨#[48]⟩ : ByteArray) (wrap64 (x4 - (x3.size : Int)))).bind fun t504 => (if y503.size + t504.size ≤ 9223372036854775807 then (some (y503 ++ t504)) else (none)))) else (none)) else (if 0 ≤ x4 then (if x4 ≤ (x3.size : Int) then ((some (x3.extract 0 (x4 : Int).toNat : ByteArray)).bind fun y506 => (if x6.size + y506.size ≤ 9223372036854775807 then ((some (x6 ++ y506 : ByteArray)).bind fun y507 => (if y507.size + 1 ≤ 9223372036854775807 then ((some (y507 ++ (⟨#[46]⟩ : ByteArray) : ByteArray)).bind fun y508 => ((some (x3.extract (x4 : Int).toNat x3.size : ByteArray)).bind fun y509 => (if y508.size + y509.size ≤ 9223372036854775807 then (some (y508 ++ y509)) else (none)))) else (none))) else (none))) else (none)) else (none))))
end
def num_Text.f (k : Nat) (a0 : Nat) : Option (ByteArray) := (num_Digits.f k a0).bind fun bt492 => (if bt492.2.2 = true then (num_Text.j0 k a0 bt492.1 bt492.2.1 (⟨#[45]⟩ : ByteArray)) else (num_Text.j0 k a0 bt492.1 bt492.2.1 (⟨#[]⟩ : ByteArray)))
theorem num_Text.mono_l : ∀ k, (∀ y0 y1 y2 y3, LeO (num_Text.j0 k y0 y1 y2 y3) (num_Text.j0 (k + 1) y0 y1 y2 y3)) ∧ (∀ y0 y1 y2 y3, LeO (num_Text.j1 k y0 y1 y2 y3) (num_Text.j1 (k + 1) y0 y1 y2 y3))
 | 0 => ⟨fun _ _ _ _ r h => by simp [num_Text.j0] at h, fun _ _ _ _ r h => by simp [num_Text.j1] at h⟩
 | k + 1 => by
  obtain ⟨ih0, ih1⟩ := num_Text.mono_l k
  refine ⟨?_, ?_⟩ <;> intros <;> (first | unfold num_Text.j0 | unfold num_Text.j1) <;> repeat' (with_reducible first | apply ih0 | apply ih1 | apply num_Digits.mono | apply num_scientific.mono | apply LeO.refl | apply LeO.none | apply LeO.ite | refine LeO.bind ?_ (fun _ => ?_))
theorem num_Text.mono : ∀ a0 k, LeO (num_Text.f k a0) (num_Text.f (k + 1) a0) := by
 intro a0 k
 obtain ⟨ih0, ih1⟩ := num_Text.mono_l k
 unfold num_Text.f
 repeat' (with_reducible first | apply ih0 | apply ih1 | apply num_Digits.mono | apply num_scientific.mono | apply LeO.refl | apply LeO.none | apply LeO.ite | refine LeO.bind ?_ (fun _ => ?_))
set_option maxHeartbeats 8000000 in
theorem num_Text.calls (k : Nat) (a0 : Nat) (r : ByteArray) (w : World) (h : num_Text.f k a0 = some r) :
  Calls Tryd.prog 15 #[.float .f64 a0] w fun e w' => e = .returned (.string r) ∧ Below w.heap.size w w' := by
 have HB := am (Below.refl w.heap.size w)
 have H : ((num_Digits.f k a0).bind fun bt492 => (if bt492.2.2 = true then (num_Text.j0 k a0 bt492.1 bt492.2.1 (⟨#[45]⟩ : ByteArray)) else (num_Text.j0 k a0 bt492.1 bt492.2.1 (⟨#[]⟩ : ByteArray)))) = some r := h
 clear h
 replace H := bm H
 obtain ⟨⟨t492, t493, t494⟩, A20, H⟩ := H
 replace H : (if t494 = true then (num_Text.j0 k a0 t492 t493 (⟨#[45]⟩ : ByteArray)) else (num_Text.j0 k a0 t492 t493 (⟨#[]⟩ : ByteArray))) = some r := H
 have A2 := am A20
 clear A20
 have HC3 := am H
 clear H
 go_enter Tryd.func15, Tryd.ntmps15
 go_upto_if 13 with (first | (go_at_call 13; (with_reducible refine (num_Digits.calls k a0 t492 t493 t494 _ A2.out).mono ?_); rintro e w4 ⟨rfl, hb⟩; replace HB := lb HB hb))
 repeat (go_quiet (first | (go_at_call 13; (with_reducible refine (num_Digits.calls k a0 t492 t493 t494 _ A2.out).mono ?_); rintro e w4 ⟨rfl, hb⟩; replace HB := lb HB hb)); go_upto_if 13 with (first | (go_at_call 13; (with_reducible refine (num_Digits.calls k a0 t492 t493 t494 _ A2.out).mono ?_); rintro e w4 ⟨rfl, hb⟩; replace HB := lb HB hb)))
 (try simp only [Act.put, List.setIfInBounds_toArray, List.set_cons_zero, List.set_cons_succ])
 go_cut [6] (fun v6 wc => ∃ (kq : Nat) (x6_2 : ByteArray), v6 = .string x6_2 ∧ Aside0 (num_Text.j0 kq a0 t492 t493 x6_2 = some r) ∧ Aside0 (kq ≤ k) ∧ Aside0 (Below w.heap.size w wc))
 case first =>
  have H := HC3.out
  clear HC3
  by_cases c5 : t494 = true
  ·
   subst c5
   rw [if_pos rfl] at H
   have H' := am H
   clear H
   go_wp2
   repeat (go_quiet (fail); try go_wp2)
   go_meet
   case rel => exact ⟨_, ((⟨#[45]⟩ : ByteArray)), eqd, H', ol, ⟨lk HB⟩⟩
  replace c5 := Bool.eq_false_iff.mpr c5
  subst c5
  rw [if_neg (show ¬ (false = true) by decide)] at H
  have H' := am H
  clear H
  go_wp2
  repeat (go_quiet (fail); try go_wp2)
  go_meet
  case rel => exact ⟨_, ((⟨#[]⟩ : ByteArray)), eqd, H', ol, ⟨lk HB⟩⟩
 case rest =>
  clear HC3
  obtain ⟨kq, x6_2, rfl, HA, HJ2, HB⟩ := hcut
  cases kq with
  | zero => exact absurd HA.out (by simp [num_Text.j0])
  | succ kj2 =>
   have H := HA.out
   clear HA
   simp only [num_Text.j0] at H
   replace H := bm H
   obtain ⟨t495, A60, H⟩ := H
   have A6 := am A60
   clear A60
   by_cases c7 : t495 = true
   ·
    subst c7
    rw [if_pos rfl] at H
    obtain rfl := Option.some.inj H
    go_wp2_with (first | (go_at_call 43; (with_reducible refine (math_IsNaN.calls a0 true _ A6.out).mono ?_); rintro e w' ⟨rfl, ⟨nd, rfl⟩⟩; (try first | exact ⟨rfl, _, World.drewN_drewN _ _ _⟩ | exact ⟨rfl, _, Eq.trans (World.drewN_drewN _ _ _) (congrArg (World.drewN _) (Nat.add_assoc _ _ _))⟩)))
    repeat (go_quiet (first | (go_at_call 43; (with_reducible refine (math_IsNaN.calls a0 true _ A6.out).mono ?_); rintro e w' ⟨rfl, ⟨nd, rfl⟩⟩; (try first | exact ⟨rfl, _, World.drewN_drewN _ _ _⟩ | exact ⟨rfl, _, Eq.trans (World.drewN_drewN _ _ _) (congrArg (World.drewN _) (Nat.add_assoc _ _ _))⟩))); try go_wp2_with (first | (go_at_call 43; (with_reducible refine (math_IsNaN.calls a0 true _ A6.out).mono ?_); rintro e w' ⟨rfl, ⟨nd, rfl⟩⟩; (try first | exact ⟨rfl, _, World.drewN_drewN _ _ _⟩ | exact ⟨rfl, _, Eq.trans (World.drewN_drewN _ _ _) (congrArg (World.drewN _) (Nat.add_assoc _ _ _))⟩))))
    go_ret
    exact ex (lk HB)
   replace c7 := Bool.eq_false_iff.mpr c7
   subst c7
   rw [if_neg (show ¬ (false = true) by decide)] at H
   by_cases c8 : (FloatKind.f64.format.order a0 9218868437227405311 == some Ordering.gt) = true
   ·
    rw [if_pos c8] at H
    have c8b0 : (FloatKind.f64.format.order a0 9218868437227405311 == some Ordering.gt) = true := c8
    (try (have c8b1 : decide (FloatKind.f64.format.order a0 9218868437227405311 = some Ordering.gt) = true := by simpa using c8))
    (try (have c8b2 : (FloatKind.f64.format.order a0 9218868437227405311 == some Ordering.gt) = true := by simpa using c8))
    clear c8
    obtain rfl := Option.some.inj H
    go_wp2_with (first | (go_at_call 43; (with_reducible refine (math_IsNaN.calls a0 false _ A6.out).mono ?_); rintro e w' ⟨rfl, ⟨nd, rfl⟩⟩; (try first | exact ⟨rfl, _, World.drewN_drewN _ _ _⟩ | exact ⟨rfl, _, Eq.trans (World.drewN_drewN _ _ _) (congrArg (World.drewN _) (Nat.add_assoc _ _ _))⟩)))
    repeat (go_quiet (first | (go_at_call 43; (with_reducible refine (math_IsNaN.calls a0 false _ A6.out).mono ?_); rintro e w' ⟨rfl, ⟨nd, rfl⟩⟩; (try first | exact ⟨rfl, _, World.drewN_drewN _ _ _⟩ | exact ⟨rfl, _, Eq.trans (World.drewN_drewN _ _ _) (congrArg (World.drewN _) (Nat.add_assoc _ _ _))⟩))); try go_wp2_with (first | (go_at_call 43; (with_reducible refine (math_IsNaN.calls a0 false _ A6.out).mono ?_); rintro e w' ⟨rfl, ⟨nd, rfl⟩⟩; (try first | exact ⟨rfl, _, World.drewN_drewN _ _ _⟩ | exact ⟨rfl, _, Eq.trans (World.drewN_drewN _ _ _) (congrArg (World.drewN _) (Nat.add_assoc _ _ _))⟩))))
    go_ret
    exact ex (lk HB)
   rw [if_neg c8] at H
   have c8b0 : (FloatKind.f64.format.order a0 9218868437227405311 == some Ordering.gt) = false := by simpa using c8
   (try (have c8b1 : decide (FloatKind.f64.format.order a0 9218868437227405311 = some Ordering.gt) = false := by simpa using c8))
   (try (have c8b2 : (FloatKind.f64.format.order a0 9218868437227405311 == some Ordering.gt) = false := by simpa using c8))
   (try (have c8b3 : ¬ (FloatKind.f64.format.order a0 9218868437227405311 = some Ordering.gt) := by simpa using c8))
   clear c8
   by_cases c9 : (FloatKind.f64.format.order a0 18442240474082181119 == some Ordering.lt) = true
   ·
    rw [if_pos c9] at H
    have c9b0 : (FloatKind.f64.format.order a0 18442240474082181119 == some Ordering.lt) = true := c9
    (try (have c9b1 : decide (FloatKind.f64.format.order a0 18442240474082181119 = some Ordering.lt) = true := by simpa using c9))
    (try (have c9b2 : (FloatKind.f64.format.order a0 18442240474082181119 == some Ordering.lt) = true := by simpa using c9))
    clear c9
    obtain rfl := Option.some.inj H
    go_wp2_with (first | (go_at_call 43; (with_reducible refine (math_IsNaN.calls a0 false _ A6.out).mono ?_); rintro e w' ⟨rfl, ⟨nd, rfl⟩⟩; (try first | exact ⟨rfl, _, World.drewN_drewN _ _ _⟩ | exact ⟨rfl, _, Eq.trans (World.drewN_drewN _ _ _) (congrArg (World.drewN _) (Nat.add_assoc _ _ _))⟩)))
    repeat (go_quiet (first | (go_at_call 43; (with_reducible refine (math_IsNaN.calls a0 false _ A6.out).mono ?_); rintro e w' ⟨rfl, ⟨nd, rfl⟩⟩; (try first | exact ⟨rfl, _, World.drewN_drewN _ _ _⟩ | exact ⟨rfl, _, Eq.trans (World.drewN_drewN _ _ _) (congrArg (World.drewN _) (Nat.add_assoc _ _ _))⟩))); try go_wp2_with (first | (go_at_call 43; (with_reducible refine (math_IsNaN.calls a0 false _ A6.out).mono ?_); rintro e w' ⟨rfl, ⟨nd, rfl⟩⟩; (try first | exact ⟨rfl, _, World.drewN_drewN _ _ _⟩ | exact ⟨rfl, _, Eq.trans (World.drewN_drewN _ _ _) (congrArg (World.drewN _) (Nat.add_assoc _ _ _))⟩))))
    go_ret
    exact ex (lk HB)
   rw [if_neg c9] at H
   have c9b0 : (FloatKind.f64.format.order a0 18442240474082181119 == some Ordering.lt) = false := by simpa using c9
   (try (have c9b1 : decide (FloatKind.f64.format.order a0 18442240474082181119 = some Ordering.lt) = false := by simpa using c9))
   (try (have c9b2 : (FloatKind.f64.format.order a0 18442240474082181119 == some Ordering.lt) = false := by simpa using c9))
   (try (have c9b3 : ¬ (FloatKind.f64.format.order a0 18442240474082181119 = some Ordering.lt) := by simpa using c9))
   clear c9
   by_cases c10 : (FloatKind.f64.format.order a0 0 == some Ordering.eq) = true
   ·
    rw [if_pos c10] at H
    have c10b0 : (FloatKind.f64.format.order a0 0 == some Ordering.eq) = true := c10
    (try (have c10b1 : decide (FloatKind.f64.format.order a0 0 = some Ordering.eq) = true := by simpa using c10))
    (try (have c10b2 : (FloatKind.f64.format.order a0 0 == some Ordering.eq) = true := by simpa using c10))
    clear c10
    by_cases c11 : x6_2.size + 1 ≤ 9223372036854775807
    ·
     rw [if_pos c11] at H
     have c11b0 := eq_true c11
     have c11b1 := dt c11
     obtain ⟨y496, hy496⟩ : ∃ y_ : ByteArray, y_ = (x6_2 ++ (⟨#[48]⟩ : ByteArray)) := ⟨_, rfl⟩
     replace H : (some y496) = some r := by first | (rw [hy496]; exact H) | exact H
     have Ny496 := am hy496
     clear hy496
     obtain rfl := Option.some.inj H
     go_wp2_with (first | (go_at_call 43; (with_reducible refine (math_IsNaN.calls a0 false _ A6.out).mono ?_); rintro e w' ⟨rfl, ⟨nd, rfl⟩⟩; (try first | exact ⟨rfl, _, World.drewN_drewN _ _ _⟩ | exact ⟨rfl, _, Eq.trans (World.drewN_drewN _ _ _) (congrArg (World.drewN _) (Nat.add_assoc _ _ _))⟩); obtain ⟨hcs12, hcs12'⟩ := sc Ny496))
     repeat (go_quiet (first | (go_at_call 43; (with_reducible refine (math_IsNaN.calls a0 false _ A6.out).mono ?_); rintro e w' ⟨rfl, ⟨nd, rfl⟩⟩; (try first | exact ⟨rfl, _, World.drewN_drewN _ _ _⟩ | exact ⟨rfl, _, Eq.trans (World.drewN_drewN _ _ _) (congrArg (World.drewN _) (Nat.add_assoc _ _ _))⟩); obtain ⟨hcs12, hcs12'⟩ := sc Ny496)); try go_wp2_with (first | (go_at_call 43; (with_reducible refine (math_IsNaN.calls a0 false _ A6.out).mono ?_); rintro e w' ⟨rfl, ⟨nd, rfl⟩⟩; (try first | exact ⟨rfl, _, World.drewN_drewN _ _ _⟩ | exact ⟨rfl, _, Eq.trans (World.drewN_drewN _ _ _) (congrArg (World.drewN _) (Nat.add_assoc _ _ _))⟩); obtain ⟨hcs12, hcs12'⟩ := sc Ny496)))
     go_ret
     exact ex (lk HB)
    rw [if_neg c11] at H
    exact absurd H (by simp)
   rw [if_neg c10] at H
   have c10b0 : (FloatKind.f64.format.order a0 0 == some Ordering.eq) = false := by simpa using c10
   (try (have c10b1 : decide (FloatKind.f64.format.order a0 0 = some Ordering.eq) = false := by simpa using c10))
   (try (have c10b2 : (FloatKind.f64.format.order a0 0 == some Ordering.eq) = false := by simpa using c10))
   (try (have c10b3 : ¬ (FloatKind.f64.format.order a0 0 = some Ordering.eq) := by simpa using c10))
   clear c10
   have HC13 := am H
   clear H
   go_upto_region 13 with (first | (go_at_call 43; (with_reducible refine (math_IsNaN.calls a0 false _ A6.out).mono ?_); rintro e w' ⟨rfl, ⟨nd, rfl⟩⟩; (try first | exact ⟨rfl, _, World.drewN_drewN _ _ _⟩ | exact ⟨rfl, _, Eq.trans (World.drewN_drewN _ _ _) (congrArg (World.drewN _) (Nat.add_assoc _ _ _))⟩)))
   repeat (go_quiet (first | (go_at_call 43; (with_reducible refine (math_IsNaN.calls a0 false _ A6.out).mono ?_); rintro e w' ⟨rfl, ⟨nd, rfl⟩⟩; (try first | exact ⟨rfl, _, World.drewN_drewN _ _ _⟩ | exact ⟨rfl, _, Eq.trans (World.drewN_drewN _ _ _) (congrArg (World.drewN _) (Nat.add_assoc _ _ _))⟩))); go_upto_region 13 with (first | (go_at_call 43; (with_reducible refine (math_IsNaN.calls a0 false _ A6.out).mono ?_); rintro e w' ⟨rfl, ⟨nd, rfl⟩⟩; (try first | exact ⟨rfl, _, World.drewN_drewN _ _ _⟩ | exact ⟨rfl, _, Eq.trans (World.drewN_drewN _ _ _) (congrArg (World.drewN _) (Nat.add_assoc _ _ _))⟩))))
   (try simp only [Act.put, List.setIfInBounds_toArray, List.set_cons_zero, List.set_cons_succ])
   go_cut [28] (fun v28 wc => ∃ (kq : Nat) (x28_12 : Bool), v28 = .bool x28_12 ∧ Aside0 (num_Text.j1 kq t492 t493 x6_2 x28_12 = some r) ∧ Aside0 (kq ≤ kj2) ∧ Aside0 (Below w.heap.size w wc))
   case first =>
    have H := HC13.out
    clear HC13
    by_cases c14 : t493 < (-5)
    ·
     rw [if_pos c14] at H
     have c14b0 := dt c14
     clear c14
     (first | rw [c14b0] | (simp only [i64_w, i32_w]; rw [c14b0]) | skip)
     have H' := am H
     clear H
     go_wp2
     repeat (go_quiet (fail); try go_wp2)
     go_meet
     case rel => exact ⟨_, (true), eqd, H', ⟨by have := HJ2.out; first | omega | exact Nat.le_refl _⟩, ⟨lk HB⟩⟩
    rw [if_neg c14] at H
    have c14b0 := decide_eq_false c14
    clear c14
    (first | rw [c14b0] | (simp only [i64_w, i32_w]; rw [c14b0]) | skip)
    have H' := am H
    clear H
    go_wp2
    repeat (go_quiet (fail); try go_wp2)
    go_meet
    case rel => exact ⟨_, (decide (t493 > 21)), eqd, H', ⟨by have := HJ2.out; first | omega | exact Nat.le_refl _⟩, ⟨lk HB⟩⟩
   case rest =>
    clear HC13
    obtain ⟨kq, x28_12, rfl, HA, HJ12, HB⟩ := hcut
    cases kq with
    | zero => exact absurd HA.out (by simp [num_Text.j1])
    | succ kj12 =>
     have H := HA.out
     clear HA
     simp only [num_Text.j1] at H
     by_cases c15 : x28_12 = true
     ·
      subst c15
      rw [if_pos rfl] at H
      replace H := bm H
      obtain ⟨t497, A160, H⟩ := H
      have A16 := am A160
      clear A160
      by_cases c17 : x6_2.size + t497.size ≤ 9223372036854775807
      ·
       rw [if_pos c17] at H
       have c17b0 := eq_true c17
       have c17b1 := dt c17
       obtain ⟨y498, hy498⟩ : ∃ y_ : ByteArray, y_ = (x6_2 ++ t497) := ⟨_, rfl⟩
       replace H : (some y498) = some r := by first | (rw [hy498]; exact H) | exact H
       have Ny498 := am hy498
       clear hy498
       obtain rfl := Option.some.inj H
       go_wp2_with (first | (go_at_call 61; (with_reducible refine (num_scientific.calls kj12 t492 (wrap64 (t493 - 1)) t497 _ A16.out).mono ?_); rintro e w18 ⟨rfl, hb⟩; replace HB := lb HB hb; obtain ⟨hcs19, hcs19'⟩ := sc Ny498))
       repeat (go_quiet (first | (go_at_call 61; (with_reducible refine (num_scientific.calls kj12 t492 (wrap64 (t493 - 1)) t497 _ A16.out).mono ?_); rintro e w18 ⟨rfl, hb⟩; replace HB := lb HB hb; obtain ⟨hcs19, hcs19'⟩ := sc Ny498)); try go_wp2_with (first | (go_at_call 61; (with_reducible refine (num_scientific.calls kj12 t492 (wrap64 (t493 - 1)) t497 _ A16.out).mono ?_); rintro e w18 ⟨rfl, hb⟩; replace HB := lb HB hb; obtain ⟨hcs19, hcs19'⟩ := sc Ny498)))
       go_ret
       exact ex (lk HB)
      rw [if_neg c17] at H
      exact absurd H (by simp)
     replace c15 := Bool.eq_false_iff.mpr c15
     subst c15
     rw [if_neg (show ¬ (false = true) by decide)] at H
     by_cases c20 : t493 ≤ 0
     ·
      rw [if_pos c20] at H
      have c20b0 := dt c20
      clear c20
      by_cases c21 : x6_2.size + 2 ≤ 9223372036854775807
      ·
       rw [if_pos c21] at H
       have c21b0 := eq_true c21
       have c21b1 := dt c21
       obtain ⟨y499, Ny499, H⟩ := yb H
       replace H := bm H
       obtain ⟨t500, A220, H⟩ := H
       have A22 := am A220
       clear A220
       by_cases c23 : y499.size + t500.size ≤ 9223372036854775807
       ·
        rw [if_pos c23] at H
        have c23b0 := eq_true c23
        have c23b1 := dt c23
        obtain ⟨y501, Ny501, H⟩ := yb H
        by_cases c24 : y501.size + t492.size ≤ 9223372036854775807
        ·
         rw [if_pos c24] at H
         have c24b0 := eq_true c24
         have c24b1 := dt c24
         obtain ⟨y502, hy502⟩ : ∃ y_ : ByteArray, y_ = (y501 ++ t492) := ⟨_, rfl⟩
         replace H : (some y502) = some r := by first | (rw [hy502]; exact H) | exact H
         have Ny502 := am hy502
         clear hy502
         obtain rfl := Option.some.inj H
         obtain ⟨hcs25, hcs25'⟩ := sc Ny499
         go_wp2_with (first | (go_at_call 62; (with_reducible refine (Hd.strings_Repeat.calls (⟨#[48]⟩ : ByteArray) (wrap64 (-t493)) t500 _ A22.out).mono ?_); rintro e w26 ⟨rfl, hb⟩; replace HB := lb HB hb; obtain ⟨hcs27, hcs27'⟩ := sc Ny501; obtain ⟨hcs28, hcs28'⟩ := sc Ny502))
         repeat (go_quiet (first | (go_at_call 62; (with_reducible refine (Hd.strings_Repeat.calls (⟨#[48]⟩ : ByteArray) (wrap64 (-t493)) t500 _ A22.out).mono ?_); rintro e w26 ⟨rfl, hb⟩; replace HB := lb HB hb; obtain ⟨hcs27, hcs27'⟩ := sc Ny501; obtain ⟨hcs28, hcs28'⟩ := sc Ny502)); try go_wp2_with (first | (go_at_call 62; (with_reducible refine (Hd.strings_Repeat.calls (⟨#[48]⟩ : ByteArray) (wrap64 (-t493)) t500 _ A22.out).mono ?_); rintro e w26 ⟨rfl, hb⟩; replace HB := lb HB hb; obtain ⟨hcs27, hcs27'⟩ := sc Ny501; obtain ⟨hcs28, hcs28'⟩ := sc Ny502)))
         go_ret
         exact ex (lk HB)
        rw [if_neg c24] at H
        exact absurd H (by simp)
       rw [if_neg c23] at H
       exact absurd H (by simp)
      rw [if_neg c21] at H
      exact absurd H (by simp)
     rw [if_neg c20] at H
     have c20b0 := decide_eq_false c20
     clear c20
     by_cases c29 : t493 ≥ (t492.size : Int)
     ·
      rw [if_pos c29] at H
      have c29b0 : decide ((t492.size : Int) ≤ t493) = true := dt c29
      clear c29
      by_cases c30 : x6_2.size + t492.size ≤ 9223372036854775807
      ·
       rw [if_pos c30] at H
       have c30b0 := eq_true c30
       have c30b1 := dt c30
       obtain ⟨y503, Ny503, H⟩ := yb H
       replace H := bm H
       obtain ⟨t504, A310, H⟩ := H
       have A31 := am A310
       clear A310
       by_cases c32 : y503.size + t504.size ≤ 9223372036854775807
       ·
        rw [if_pos c32] at H
        have c32b0 := eq_true c32
        have c32b1 := dt c32
        obtain ⟨y505, hy505⟩ : ∃ y_ : ByteArray, y_ = (y503 ++ t504) := ⟨_, rfl⟩
        replace H : (some y505) = some r := by first | (rw [hy505]; exact H) | exact H
        have Ny505 := am hy505
        clear hy505
        obtain rfl := Option.some.inj H
        obtain ⟨hcs33, hcs33'⟩ := sc Ny503
        go_wp2_with (first | (go_at_call 62; (with_reducible refine (Hd.strings_Repeat.calls (⟨#[48]⟩ : ByteArray) (wrap64 (t493 - (t492.size : Int))) t504 _ A31.out).mono ?_); rintro e w34 ⟨rfl, hb⟩; replace HB := lb HB hb; obtain ⟨hcs35, hcs35'⟩ := sc Ny505))
        repeat (go_quiet (first | (go_at_call 62; (with_reducible refine (Hd.strings_Repeat.calls (⟨#[48]⟩ : ByteArray) (wrap64 (t493 - (t492.size : Int))) t504 _ A31.out).mono ?_); rintro e w34 ⟨rfl, hb⟩; replace HB := lb HB hb; obtain ⟨hcs35, hcs35'⟩ := sc Ny505)); try go_wp2_with (first | (go_at_call 62; (with_reducible refine (Hd.strings_Repeat.calls (⟨#[48]⟩ : ByteArray) (wrap64 (t493 - (t492.size : Int))) t504 _ A31.out).mono ?_); rintro e w34 ⟨rfl, hb⟩; replace HB := lb HB hb; obtain ⟨hcs35, hcs35'⟩ := sc Ny505)))
        go_ret
        exact ex (lk HB)
       rw [if_neg c32] at H
       exact absurd H (by simp)
      rw [if_neg c30] at H
      exact absurd H (by simp)
     rw [if_neg c29] at H
     have c29b0 : decide ((t492.size : Int) ≤ t493) = false := decide_eq_false c29
     clear c29
     by_cases c36 : 0 ≤ t493
     ·
      rw [if_pos c36] at H
      have c36b0 := eq_true c36
      have c36b1 := dt c36
      clear c36
      by_cases c37 : t493 ≤ (t492.size : Int)
      ·
       rw [if_pos c37] at H
       have c37b0 := eq_true c37
       have c37b1 := dt c37
       clear c37
       obtain ⟨y506, Ny506, H⟩ := yb H
       by_cases c38 : x6_2.size + y506.size ≤ 9223372036854775807
       ·
        rw [if_pos c38] at H
        have c38b0 := eq_true c38
        have c38b1 := dt c38
        obtain ⟨y507, Ny507, H⟩ := yb H
        by_cases c39 : y507.size + 1 ≤ 9223372036854775807
        ·
         rw [if_pos c39] at H
         have c39b0 := eq_true c39
         have c39b1 := dt c39
         obtain ⟨y508, Ny508, H⟩ := yb H
         have c40b0 := eq_true (od : 0 ≤ t493)
         have c41b0 := eq_true (od : t493 ≤ (t492.size : Int))
         obtain ⟨y509, Ny509, H⟩ := yb H
         by_cases c42 : y508.size + y509.size ≤ 9223372036854775807
         ·
          rw [if_pos c42] at H
          have c42b0 := eq_true c42
          have c42b1 := dt c42
          obtain ⟨y510, hy510⟩ : ∃ y_ : ByteArray, y_ = (y508 ++ y509) := ⟨_, rfl⟩
          replace H : (some y510) = some r := by first | (rw [hy510]; exact H) | exact H
          have Ny510 := am hy510
          clear hy510
          obtain rfl := Option.some.inj H
          have hcs43 := Hd.str_to (P := Tryd.prog) (k := .i64) Tryd.underlying9 (j := t493) (s := t492) (y := y506) oo oo Ny506.out
          obtain ⟨hcs44, hcs44'⟩ := sc Ny507
          obtain ⟨hcs45, hcs45'⟩ := sc Ny508
          have hcs46 := Hd.str_from (P := Tryd.prog) (k := .i64) Tryd.underlying9 (i := t493) (s := t492) (y := y509) oo oo Ny509.out
          obtain ⟨hcs47, hcs47'⟩ := sc Ny510
          go_wp2
          repeat (go_quiet (fail); try go_wp2)
          go_ret
          exact ex (lk HB)
         rw [if_neg c42] at H
         exact absurd H (by simp)
        rw [if_neg c39] at H
        exact absurd H (by simp)
       rw [if_neg c38] at H
       exact absurd H (by simp)
      rw [if_neg c37] at H
      exact absurd H (by simp)
     rw [if_neg c36] at H
     exact absurd H (by simp)
def w_wakes.f (k : Nat)  : Option (Bool) := (num_Parse.f k (⟨#[50, 46, 53, 101, 45, 49]⟩ : ByteArray)).bind fun bt617 => (if bt617.2 = 0 then (if (FloatKind.f64.format.order bt617.1 4598175219545276416 == some Ordering.eq) = true then ((num_Text.f k 4591870180066957722).bind fun t619 => (if t619.toList = ([48, 46, 49] : List UInt8) then ((num_DurationText.f k 90000).bind fun t620 => (some (t620.toList == ([49, 109, 51, 48, 115] : List UInt8)))) else (some false))) else (some false)) else (some false))
theorem w_wakes.mono : ∀ k, LeO (w_wakes.f k ) (w_wakes.f (k + 1) ) := by
 intro  k
 unfold w_wakes.f
 repeat' (with_reducible first | apply num_DurationText.mono | apply num_Parse.mono | apply num_Text.mono | apply LeO.refl | apply LeO.none | apply LeO.ite | refine LeO.bind ?_ (fun _ => ?_))
set_option maxHeartbeats 8000000 in
theorem w_wakes.calls (k : Nat)  (r : Bool) (w : World) (h : w_wakes.f k  = some r) :
  Calls Tryd.prog 17 #[] w fun e w' => e = .returned (.bool r) ∧ Below w.heap.size w w' := by
 have HB := am (Below.refl w.heap.size w)
 have H : ((num_Parse.f k (⟨#[50, 46, 53, 101, 45, 49]⟩ : ByteArray)).bind fun bt617 => (if bt617.2 = 0 then (if (FloatKind.f64.format.order bt617.1 4598175219545276416 == some Ordering.eq) = true then ((num_Text.f k 4591870180066957722).bind fun t619 => (if t619.toList = ([48, 46, 49] : List UInt8) then ((num_DurationText.f k 90000).bind fun t620 => (some (t620.toList == ([49, 109, 51, 48, 115] : List UInt8)))) else (some false))) else (some false)) else (some false))) = some r := h
 clear h
 replace H := bm H
 obtain ⟨⟨t617, t618⟩, A10, H⟩ := H
 replace H : (if t618 = 0 then (if (FloatKind.f64.format.order t617 4598175219545276416 == some Ordering.eq) = true then ((num_Text.f k 4591870180066957722).bind fun t619 => (if t619.toList = ([48, 46, 49] : List UInt8) then ((num_DurationText.f k 90000).bind fun t620 => (some (t620.toList == ([49, 109, 51, 48, 115] : List UInt8)))) else (some false))) else (some false)) else (some false)) = some r := H
 have A1 := am A10
 clear A10
 by_cases c2 : t618 = 0
 ·
  rw [if_pos c2] at H
  have c2b0 : (t618 == 0) = true := beq_iff_eq.mpr c2
  have c2b1 : (t618 != 0) = false := bne_eq_false_iff_eq.mpr c2
  clear c2
  by_cases c3 : (FloatKind.f64.format.order t617 4598175219545276416 == some Ordering.eq) = true
  ·
   rw [if_pos c3] at H
   have c3b0 : (FloatKind.f64.format.order t617 4598175219545276416 == some Ordering.eq) = true := c3
   (try (have c3b1 : decide (FloatKind.f64.format.order t617 4598175219545276416 = some Ordering.eq) = true := by simpa using c3))
   (try (have c3b2 : (FloatKind.f64.format.order t617 4598175219545276416 == some Ordering.eq) = true := by simpa using c3))
   clear c3
   replace H := bm H
   obtain ⟨t619, A40, H⟩ := H
   have A4 := am A40
   clear A40
   by_cases c5 : t619.toList = ([48, 46, 49] : List UInt8)
   ·
    rw [if_pos c5] at H
    have c5b0 : (t619.toList == ([48, 46, 49] : List UInt8)) = true := beq_iff_eq.mpr c5
    have c5b1 : (t619.toList != ([48, 46, 49] : List UInt8)) = false := bne_eq_false_iff_eq.mpr c5
    clear c5
    replace H := bm H
    obtain ⟨t620, A60, H⟩ := H
    have A6 := am A60
    clear A60
    obtain rfl := Option.some.inj H
    go_enter Tryd.func17, Tryd.ntmps17
    go_wp2_with (first | (refine gL (some 4) Tryd.func18 #[.string (⟨#[50, 46, 53, 101, 45, 49]⟩ : ByteArray)] ?_; (with_reducible refine (num_Parse.calls k (⟨#[50, 46, 53, 101, 45, 49]⟩ : ByteArray) t617 t618 _ A1.out).mono ?_); rintro e w7 ⟨rfl, hb⟩; refine ⟨_, rfl, ?_⟩; replace HB := lb HB hb) | (go_at_call 15; (with_reducible refine (num_Text.calls k 4591870180066957722 t619 _ A4.out).mono ?_); rintro e w8 ⟨rfl, hb⟩; replace HB := lb HB hb) | (go_at_call 38; (with_reducible refine (num_DurationText.calls k 90000 t620 _ A6.out).mono ?_); rintro e w9 ⟨rfl, hb⟩; replace HB := lb HB hb))
    go_ret
    exact ex (lk HB)
   rw [if_neg c5] at H
   have c5b0 : (t619.toList == ([48, 46, 49] : List UInt8)) = false := beq_eq_false_iff_ne.mpr c5
   have c5b1 : (t619.toList != ([48, 46, 49] : List UInt8)) = true := bne_iff_ne.mpr c5
   obtain rfl := Option.some.inj H
   go_enter Tryd.func17, Tryd.ntmps17
   go_wp2_with (first | (refine gL (some 4) Tryd.func18 #[.string (⟨#[50, 46, 53, 101, 45, 49]⟩ : ByteArray)] ?_; (with_reducible refine (num_Parse.calls k (⟨#[50, 46, 53, 101, 45, 49]⟩ : ByteArray) t617 t618 _ A1.out).mono ?_); rintro e w10 ⟨rfl, hb⟩; refine ⟨_, rfl, ?_⟩; replace HB := lb HB hb) | (go_at_call 15; (with_reducible refine (num_Text.calls k 4591870180066957722 t619 _ A4.out).mono ?_); rintro e w11 ⟨rfl, hb⟩; replace HB := lb HB hb))
   go_ret
   exact ex (lk HB)
  rw [if_neg c3] at H
  have c3b0 : (FloatKind.f64.format.order t617 4598175219545276416 == some Ordering.eq) = false := by simpa using c3
  (try (have c3b1 : decide (FloatKind.f64.format.order t617 4598175219545276416 = some Ordering.eq) = false := by simpa using c3))
  (try (have c3b2 : (FloatKind.f64.format.order t617 4598175219545276416 == some Ordering.eq) = false := by simpa using c3))
  (try (have c3b3 : ¬ (FloatKind.f64.format.order t617 4598175219545276416 = some Ordering.eq) := by simpa using c3))
  clear c3
  obtain rfl := Option.some.inj H
  go_enter Tryd.func17, Tryd.ntmps17
  go_wp2_with (first | (refine gL (some 4) Tryd.func18 #[.string (⟨#[50, 46, 53, 101, 45, 49]⟩ : ByteArray)] ?_; (with_reducible refine (num_Parse.calls k (⟨#[50, 46, 53, 101, 45, 49]⟩ : ByteArray) t617 t618 _ A1.out).mono ?_); rintro e w12 ⟨rfl, hb⟩; refine ⟨_, rfl, ?_⟩; replace HB := lb HB hb))
  go_ret
  exact ex (lk HB)
 rw [if_neg c2] at H
 have c2b0 : (t618 == 0) = false := beq_eq_false_iff_ne.mpr c2
 have c2b1 : (t618 != 0) = true := bne_iff_ne.mpr c2
 obtain rfl := Option.some.inj H
 go_enter Tryd.func17, Tryd.ntmps17
 go_wp2_with (first | (refine gL (some 4) Tryd.func18 #[.string (⟨#[50, 46, 53, 101, 45, 49]⟩ : ByteArray)] ?_; (with_reducible refine (num_Parse.calls k (⟨#[50, 46, 53, 101, 45, 49]⟩ : ByteArray) t617 t618 _ A1.out).mono ?_); rintro e w13 ⟨rfl, hb⟩; refine ⟨_, rfl, ?_⟩; replace HB := lb HB hb))
 go_ret
 exact ex (lk HB)
mutual
def w_NumText.l0 : Nat → List Int → Int → Option (Bool)
 | 0, _, _ => none
 | k + 1, x0, x3 => if x3 < (x0.length : Int) then (w_NumText.j1 k x0 x3 (decide (x3 < 3))) else (w_NumText.j1 k x0 x3 false)
def w_NumText.j1 : Nat → List Int → Int → Bool → Option (Bool)
 | 0, _, _, _ => none
 | k + 1, x0, x3, x18 => if x18 = true then (if 0 ≤ x3 then (if x3 < (x0.length : Int) then ((num_Digits.f k (((rd x0 x3) : Int).toNat)).bind fun bt623 => ((r_Digits.f k (((rd x0 x3) : Int).toNat)).bind fun bt626 => (if bt623.1.toList = bt626.1.toList then (if bt623.2.1 = bt626.2.1 then (if (bt623.2.2 != bt626.2.2) = true then (some false) else ((num_Text.f k (((rd x0 x3) : Int).toNat)).bind fun t629 => ((r_Text.f k (((rd x0 x3) : Int).toNat)).bind fun t630 => (if t629.toList = t630.toList then (w_NumText.l0 k x0 (wrap64 (x3 + 1))) else (some false))))) else (some false)) else (some false)))) else (none)) else (none)) else ((w_wakes.f k).bind fun t621 => (some t621))
end
def w_NumText.f (k : Nat) (l0 : List Int) : Option (Bool) := w_NumText.l0 k l0 0
theorem w_NumText.mono_l : ∀ k, (∀ y0 y1, LeO (w_NumText.l0 k y0 y1) (w_NumText.l0 (k + 1) y0 y1)) ∧ (∀ y0 y1 y2, LeO (w_NumText.j1 k y0 y1 y2) (w_NumText.j1 (k + 1) y0 y1 y2))
 | 0 => ⟨fun _ _ r h => by simp [w_NumText.l0] at h, fun _ _ _ r h => by simp [w_NumText.j1] at h⟩
 | k + 1 => by
  obtain ⟨ih0, ih1⟩ := w_NumText.mono_l k
  refine ⟨?_, ?_⟩ <;> intros <;> (first | unfold w_NumText.l0 | unfold w_NumText.j1) <;> repeat' (with_reducible first | apply ih0 | apply ih1 | apply num_Digits.mono | apply num_Text.mono | apply w_wakes.mono | apply r_Digits.mono | apply r_Text.mono | apply LeO.refl | apply LeO.none | apply LeO.ite | refine LeO.bind ?_ (fun _ => ?_))
theorem w_NumText.mono : ∀ a0 k, LeO (w_NumText.f k a0) (w_NumText.f (k + 1) a0) := by
 intro a0 k
 obtain ⟨ih0, ih1⟩ := w_NumText.mono_l k
 unfold w_NumText.f
 repeat' (with_reducible first | apply ih0 | apply ih1 | apply num_Digits.mono | apply num_Text.mono | apply w_wakes.mono | apply r_Digits.mono | apply r_Text.mono | apply LeO.refl | apply LeO.none | apply LeO.ite | refine LeO.bind ?_ (fun _ => ?_))
set_option maxHeartbeats 8000000 in
theorem w_NumText.calls (k : Nat) (A0 : Option Addr) (c0 : Nat) (l0 : List Int) (r : Bool) (w : World) (hr0 : Kd.C (Kd.int .u64) w A0 l0.length l0) (hc0 : l0.length ≤ c0) (h : w_NumText.f k l0 = some r) :
  Calls Tryd.prog 3 #[.slice A0 l0.length c0] w fun e w' => e = .returned (.bool r) ∧ Below w.heap.size w w' := by
 have HR0 := am hr0
 have HC0 := am hc0
 clear hr0 hc0
 have HB := am (Below.refl w.heap.size w)
 have H : (w_NumText.l0 k l0 0) = some r := h
 clear h
 have H' := am H
 clear H
 have hext0 := Hd.ext12
 go_enter Tryd.func3, Tryd.ntmps3
 go_wp2
 go_loopg [3] k (fun kq v3 w' => ∃ (x3_1 : Int), v3 = .int .i64 x3_1 ∧ Aside0 (w_NumText.l0 kq l0 x3_1 = some r) ∧ Aside0 (kq ≤ k) ∧ Aside0 (Below w.heap.size w w'))
 case atStart => exact ⟨(0), eqd, H', ⟨Nat.le_refl _⟩, ⟨lk HB⟩⟩
 case round =>
  clear H'
  obtain ⟨x3_1, rfl, HA, HK1, HB⟩ := hrel
  cases gk with
  | zero => exact absurd HA.out (by simp [w_NumText.l0])
  | succ k1 =>
   have H := HA.out
   clear HA
   simp only [w_NumText.l0] at H
   have HC2 := am H
   clear H
   go_upto_region 2 with (fail)
   go_cut [18] (fun v18 wc => ∃ (kq : Nat) (x18_1 : Bool), v18 = .bool x18_1 ∧ Aside0 (w_NumText.j1 kq l0 x3_1 x18_1 = some r) ∧ Aside0 (kq ≤ k1) ∧ Aside0 (Below w.heap.size w wc))
   case first =>
    have H := HC2.out
    clear HC2
    by_cases c3 : x3_1 < (l0.length : Int)
    ·
     rw [if_pos c3] at H
     have c3b0 := dt c3
     clear c3
     (first | rw [c3b0] | (simp only [i64_w, i32_w]; rw [c3b0]) | skip)
     have H' := am H
     clear H
     go_wp2
     go_meet
     case rel => exact ⟨_, (decide (x3_1 < 3)), eqd, H', ⟨by have := HK1.out; first | omega | exact Nat.le_refl _⟩, ⟨lk HB⟩⟩
    rw [if_neg c3] at H
    have c3b0 := decide_eq_false c3
    clear c3
    (first | rw [c3b0] | (simp only [i64_w, i32_w]; rw [c3b0]) | skip)
    have H' := am H
    clear H
    go_wp2
    go_meet
    case rel => exact ⟨_, (false), eqd, H', ⟨by have := HK1.out; first | omega | exact Nat.le_refl _⟩, ⟨lk HB⟩⟩
   case rest =>
    clear HC2
    obtain ⟨kq, x18_1, rfl, HA, HJ1, HB⟩ := hcut
    cases kq with
    | zero => exact absurd HA.out (by simp [w_NumText.j1])
    | succ kj1 =>
     have H := HA.out
     clear HA
     simp only [w_NumText.j1] at H
     by_cases c4 : x18_1 = true
     ·
      subst c4
      rw [if_pos rfl] at H
      by_cases c5 : 0 ≤ x3_1
      ·
       rw [if_pos c5] at H
       have c5b0 := dt c5
       clear c5
       by_cases c6 : x3_1 < (l0.length : Int)
       ·
        rw [if_pos c6] at H
        have c6b0 := dt c6
        clear c6
        replace H := bm H
        obtain ⟨⟨t623, t624, t625⟩, A70, H⟩ := H
        replace H : ((r_Digits.f kj1 (((rd l0 x3_1) : Int).toNat)).bind fun bt626 => (if t623.toList = bt626.1.toList then (if t624 = bt626.2.1 then (if (t625 != bt626.2.2) = true then (some false) else ((num_Text.f kj1 (((rd l0 x3_1) : Int).toNat)).bind fun t629 => ((r_Text.f kj1 (((rd l0 x3_1) : Int).toNat)).bind fun t630 => (if t629.toList = t630.toList then (w_NumText.l0 kj1 l0 (wrap64 (x3_1 + 1))) else (some false))))) else (some false)) else (some false))) = some r := H
        have A7 := am A70
        clear A70
        replace H := bm H
        obtain ⟨⟨t626, t627, t628⟩, A80, H⟩ := H
        replace H : (if t623.toList = t626.toList then (if t624 = t627 then (if (t625 != t628) = true then (some false) else ((num_Text.f kj1 (((rd l0 x3_1) : Int).toNat)).bind fun t629 => ((r_Text.f kj1 (((rd l0 x3_1) : Int).toNat)).bind fun t630 => (if t629.toList = t630.toList then (w_NumText.l0 kj1 l0 (wrap64 (x3_1 + 1))) else (some false))))) else (some false)) else (some false)) = some r := H
        have A8 := am A80
        clear A80
        by_cases c9 : t623.toList = t626.toList
        ·
         rw [if_pos c9] at H
         have c9b0 : (t623.toList == t626.toList) = true := beq_iff_eq.mpr c9
         have c9b1 : (t623.toList != t626.toList) = false := bne_eq_false_iff_eq.mpr c9
         clear c9
         by_cases c10 : t624 = t627
         ·
          rw [if_pos c10] at H
          have c10b0 : (t624 == t627) = true := beq_iff_eq.mpr c10
          have c10b1 : (t624 != t627) = false := bne_eq_false_iff_eq.mpr c10
          clear c10
          by_cases c11 : (t625 != t628) = true
          ·
           rw [if_pos c11] at H
           have c11b0 : (t625 != t628) = true := c11
           (try (have c11b1 : decide (t625 = t628) = false := by simpa using c11))
           (try (have c11b2 : (t625 == t628) = false := by simpa using c11))
           (try (have c11b3 : ¬ (t625 = t628) := by simpa using c11))
           clear c11
           obtain rfl := Option.some.inj H
           have p622 : 0 ≤ (x3_1 : Int) := od
           have q622 : x3_1 < (l0.length : Int) := od
           obtain ⟨ad622, e622, hx622_0⟩ := Kd.at_int HR0.out x3_1 p622 q622
           cases e622
           replace hx622_0 := (HB.out.cell (World.block_lt_of_cell? w _ hx622_0)).trans hx622_0
           replace p622 := eq_true p622
           replace q622 := eq_true q622
           go_wp2_with (first | (refine gL (some 28) Tryd.func13 #[.float .f64 (((rd l0 x3_1) : Int).toNat)] ?_; (with_reducible refine (num_Digits.calls kj1 (((rd l0 x3_1) : Int).toNat) t623 t624 t625 _ A7.out).mono ?_); rintro e w12 ⟨rfl, hb⟩; refine ⟨_, rfl, ?_⟩; replace HB := lb HB hb) | (refine gL (some 34) Tryd.func14 #[.float .f64 (((rd l0 x3_1) : Int).toNat)] ?_; (with_reducible refine (r_Digits.calls kj1 (((rd l0 x3_1) : Int).toNat) t626 t627 t628 _ A8.out).mono ?_); rintro e w13 ⟨rfl, hb⟩; refine ⟨_, rfl, ?_⟩; replace HB := lb HB hb))
           go_ret
           exact ex (lk HB)
          rw [if_neg c11] at H
          have c11b0 : (t625 != t628) = false := by simpa using c11
          (try (have c11b1 : decide (t625 = t628) = true := by simpa using c11))
          (try (have c11b2 : (t625 == t628) = true := by simpa using c11))
          clear c11
          replace H := bm H
          obtain ⟨t629, A140, H⟩ := H
          have A14 := am A140
          clear A140
          replace H := bm H
          obtain ⟨t630, A150, H⟩ := H
          have A15 := am A150
          clear A150
          by_cases c16 : t629.toList = t630.toList
          ·
           rw [if_pos c16] at H
           have c16b0 : (t629.toList == t630.toList) = true := beq_iff_eq.mpr c16
           have c16b1 : (t629.toList != t630.toList) = false := bne_eq_false_iff_eq.mpr c16
           clear c16
           have H' := am H
           clear H
           have p622 : 0 ≤ (x3_1 : Int) := od
           have q622 : x3_1 < (l0.length : Int) := od
           obtain ⟨ad622, e622, hx622_0⟩ := Kd.at_int HR0.out x3_1 p622 q622
           cases e622
           replace hx622_0 := (HB.out.cell (World.block_lt_of_cell? w _ hx622_0)).trans hx622_0
           replace p622 := eq_true p622
           replace q622 := eq_true q622
           go_wp2_with (first | (refine gL (some 28) Tryd.func13 #[.float .f64 (((rd l0 x3_1) : Int).toNat)] ?_; (with_reducible refine (num_Digits.calls kj1 (((rd l0 x3_1) : Int).toNat) t623 t624 t625 _ A7.out).mono ?_); rintro e w17 ⟨rfl, hb⟩; refine ⟨_, rfl, ?_⟩; replace HB := lb HB hb) | (refine gL (some 34) Tryd.func14 #[.float .f64 (((rd l0 x3_1) : Int).toNat)] ?_; (with_reducible refine (r_Digits.calls kj1 (((rd l0 x3_1) : Int).toNat) t626 t627 t628 _ A8.out).mono ?_); rintro e w18 ⟨rfl, hb⟩; refine ⟨_, rfl, ?_⟩; replace HB := lb HB hb) | (go_at_call 15; (with_reducible refine (num_Text.calls kj1 (((rd l0 x3_1) : Int).toNat) t629 _ A14.out).mono ?_); rintro e w19 ⟨rfl, hb⟩; replace HB := lb HB hb) | (go_at_call 16; (with_reducible refine (r_Text.calls kj1 (((rd l0 x3_1) : Int).toNat) t630 _ A15.out).mono ?_); rintro e w20 ⟨rfl, hb⟩; replace HB := lb HB hb))
           go_roundg kj1
           case measure => have := HK1.out; have := HJ1.out; omega
           case rel => exact ⟨(wrap64 (x3_1 + 1)), eqd, H', ⟨by have := HK1.out; have := HJ1.out; omega⟩, ⟨lk HB⟩⟩
          rw [if_neg c16] at H
          have c16b0 : (t629.toList == t630.toList) = false := beq_eq_false_iff_ne.mpr c16
          have c16b1 : (t629.toList != t630.toList) = true := bne_iff_ne.mpr c16
          obtain rfl := Option.some.inj H
          have p622 : 0 ≤ (x3_1 : Int) := od
          have q622 : x3_1 < (l0.length : Int) := od
          obtain ⟨ad622, e622, hx622_0⟩ := Kd.at_int HR0.out x3_1 p622 q622
          cases e622
          replace hx622_0 := (HB.out.cell (World.block_lt_of_cell? w _ hx622_0)).trans hx622_0
          replace p622 := eq_true p622
          replace q622 := eq_true q622
          go_wp2_with (first | (refine gL (some 28) Tryd.func13 #[.float .f64 (((rd l0 x3_1) : Int).toNat)] ?_; (with_reducible refine (num_Digits.calls kj1 (((rd l0 x3_1) : Int).toNat) t623 t624 t625 _ A7.out).mono ?_); rintro e w21 ⟨rfl, hb⟩; refine ⟨_, rfl, ?_⟩; replace HB := lb HB hb) | (refine gL (some 34) Tryd.func14 #[.float .f64 (((rd l0 x3_1) : Int).toNat)] ?_; (with_reducible refine (r_Digits.calls kj1 (((rd l0 x3_1) : Int).toNat) t626 t627 t628 _ A8.out).mono ?_); rintro e w22 ⟨rfl, hb⟩; refine ⟨_, rfl, ?_⟩; replace HB := lb HB hb) | (go_at_call 15; (with_reducible refine (num_Text.calls kj1 (((rd l0 x3_1) : Int).toNat) t629 _ A14.out).mono ?_); rintro e w23 ⟨rfl, hb⟩; replace HB := lb HB hb) | (go_at_call 16; (with_reducible refine (r_Text.calls kj1 (((rd l0 x3_1) : Int).toNat) t630 _ A15.out).mono ?_); rintro e w24 ⟨rfl, hb⟩; replace HB := lb HB hb))
          go_ret
          exact ex (lk HB)
         rw [if_neg c10] at H
         have c10b0 : (t624 == t627) = false := beq_eq_false_iff_ne.mpr c10
         have c10b1 : (t624 != t627) = true := bne_iff_ne.mpr c10
         obtain rfl := Option.some.inj H
         have p622 : 0 ≤ (x3_1 : Int) := od
         have q622 : x3_1 < (l0.length : Int) := od
         obtain ⟨ad622, e622, hx622_0⟩ := Kd.at_int HR0.out x3_1 p622 q622
         cases e622
         replace hx622_0 := (HB.out.cell (World.block_lt_of_cell? w _ hx622_0)).trans hx622_0
         replace p622 := eq_true p622
         replace q622 := eq_true q622
         go_wp2_with (first | (refine gL (some 28) Tryd.func13 #[.float .f64 (((rd l0 x3_1) : Int).toNat)] ?_; (with_reducible refine (num_Digits.calls kj1 (((rd l0 x3_1) : Int).toNat) t623 t624 t625 _ A7.out).mono ?_); rintro e w25 ⟨rfl, hb⟩; refine ⟨_, rfl, ?_⟩; replace HB := lb HB hb) | (refine gL (some 34) Tryd.func14 #[.float .f64 (((rd l0 x3_1) : Int).toNat)] ?_; (with_reducible refine (r_Digits.calls kj1 (((rd l0 x3_1) : Int).toNat) t626 t627 t628 _ A8.out).mono ?_); rintro e w26 ⟨rfl, hb⟩; refine ⟨_, rfl, ?_⟩; replace HB := lb HB hb))
         go_ret
         exact ex (lk HB)
        rw [if_neg c9] at H
        have c9b0 : (t623.toList == t626.toList) = false := beq_eq_false_iff_ne.mpr c9
        have c9b1 : (t623.toList != t626.toList) = true := bne_iff_ne.mpr c9
        obtain rfl := Option.some.inj H
        have p622 : 0 ≤ (x3_1 : Int) := od
        have q622 : x3_1 < (l0.length : Int) := od
        obtain ⟨ad622, e622, hx622_0⟩ := Kd.at_int HR0.out x3_1 p622 q622
        cases e622
        replace hx622_0 := (HB.out.cell (World.block_lt_of_cell? w _ hx622_0)).trans hx622_0
        replace p622 := eq_true p622
        replace q622 := eq_true q622
        go_wp2_with (first | (refine gL (some 28) Tryd.func13 #[.float .f64 (((rd l0 x3_1) : Int).toNat)] ?_; (with_reducible refine (num_Digits.calls kj1 (((rd l0 x3_1) : Int).toNat) t623 t624 t625 _ A7.out).mono ?_); rintro e w27 ⟨rfl, hb⟩; refine ⟨_, rfl, ?_⟩; replace HB := lb HB hb) | (refine gL (some 34) Tryd.func14 #[.float .f64 (((rd l0 x3_1) : Int).toNat)] ?_; (with_reducible refine (r_Digits.calls kj1 (((rd l0 x3_1) : Int).toNat) t626 t627 t628 _ A8.out).mono ?_); rintro e w28 ⟨rfl, hb⟩; refine ⟨_, rfl, ?_⟩; replace HB := lb HB hb))
        go_ret
        exact ex (lk HB)
       rw [if_neg c6] at H
       exact absurd H (by simp)
      rw [if_neg c5] at H
      exact absurd H (by simp)
     replace c4 := Bool.eq_false_iff.mpr c4
     subst c4
     rw [if_neg (show ¬ (false = true) by decide)] at H
     replace H := bm H
     obtain ⟨t621, A290, H⟩ := H
     replace H : (some t621) = some r := H
     have A29 := am A290
     clear A290
     obtain rfl := Option.some.inj H
     go_wp2_with (first | (refine gL (some 58) Tryd.func17 #[] ?_; (with_reducible refine (w_wakes.calls kj1  t621 _ A29.out).mono ?_); rintro e w30 ⟨rfl, hb⟩; refine ⟨_, rfl, ?_⟩; replace HB := lb HB hb))
     go_ret
     exact ex (lk HB)
def w_NumText.Pure : Prop := ∀ (l0 : List Int), l0.length ≤ maxLen → l0.length * 8 ≤ 140737488351232 → (∀ x ∈ l0, (Lit.int .u64 x).wf = true) → ∃ k, w_NumText.f k l0 = some true
theorem w_NumText.walk (P : w_NumText.Pure) (a0 : Option Addr) (len0 cap0 : Nat) (z0 : List Int) (w : World) (w0 : (a0 = none ∧ len0 = 0 ∧ cap0 = 0 ∧ z0 = []) ∨ ∃ x, a0 = some x ∧ len0 ≤ cap0 ∧ cap0 ≤ maxLen ∧ z0.length = cap0 ∧ (∀ i, i < z0.length → w.cell? (x.add i) = some (.int .u64 (z0.getD i 0))) ∧ ∀ n ∈ z0, (Lit.int .u64 n).wf = true) (y0 : len0 * 8 ≤ 140737488351232) :
  Calls Tryd.prog 3 #[.slice a0 len0 cap0] w fun e w' => e = .returned (.bool true) ∧ Below w.heap.size w w' := by
 obtain ⟨l0, rfl, hr0, hm0, hw0, hc0⟩ := ReadsInt.ofRowC w0
 obtain ⟨k, h⟩ := P l0 hm0 y0 hw0
 refine (w_NumText.calls k _ _ l0 true w (Kd.C_of_reads (d := (0 : Int)) (h1 := fun _ => rfl) hr0) hc0 h).mono ?_
 rintro e w' ⟨rfl, hd⟩
 exact ⟨rfl, hd⟩
end Go.Proofs.YtjlnfnfdibfniaaDoor.F

