/- NumShortest: no text of fewer digits is read as the float: the digits cut by one, and those one greater, are read as others. For all lists of words. -/
import Derived.Test.YtjlnfnfdibfniaaDoorCShort5
import Derived.Laws.Strings
import Derived.KernelRfl
import Derived.Test.YtjlnfnfdibfniaaDoorRows
import Derived.Test.YtjlnfnfdibfniaaDoorCards
import Derived.Test.YtjlnfnfdibfniaaDoorTie
import Derived.WalkKit
import Derived.ProofKit
import Derived.OpenShut
import Derived.ShutString
import Derived.ChangeOld
import Derived.Below
import Derived.SizedLaws
import Derived.Lay
import Derived.LaidOnce
import Derived.SevenTiedAt
import Derived.ChangeSlices
import Derived.SliceStrings
namespace Go.Proofs.YtjlnfnfdibfniaaDoor.Pl
open F Hd Go.RowKit Go.Proofs.YtjlnfnfdibfniaaDoorW.PrintWords Go.Proofs.YtjlnfnfdibfniaaDoorW.PrintMore
theorem wr64 (n : Int) (h0 : 0 ≤ n) (h1 : n < 2 ^ 64) : IntKind.u64.wrap n = n := by rw [IntKind.wrap_u64]; omega
theorem srung_sign (K : Nat) (neg : Bool) (hK : K < 9223372036854775808) : srung (K + signBit neg) = if neg = true then -(K : Int) else (K : Int) := by
 unfold srung signBit
 have e63 : (2 : Nat) ^ 63 = 9223372036854775808 := by decide
 rw [e63]
 cases neg with
 | true =>
  rw [if_pos rfl, if_pos rfl]
  have h1 : (K + 9223372036854775808) / 9223372036854775808 % 2 = 1 := by omega
  have h2 : (K + 9223372036854775808) % 9223372036854775808 = K := by omega
  rw [h1, h2]; rfl
 | false =>
  rw [if_neg Bool.false_ne_true, if_neg Bool.false_ne_true, Nat.add_zero]
  have h1 : K / 9223372036854775808 % 2 = 0 := by omega
  have h2 : K % 9223372036854775808 = K := by omega
  rw [h1, h2]; rfl
theorem isNum_sign (K : Nat) (neg : Bool) (hK : K ≤ INF) : isNum (K + signBit neg) := by
 have hI : INF = 9218868437227405312 := rfl
 unfold isNum signBit
 have e63 : (2 : Nat) ^ 63 = 9223372036854775808 := by decide
 have e52 : 2047 * (2 : Nat) ^ 52 = 9218868437227405312 := by decide
 rw [e63, e52]
 cases neg with
 | true => rw [if_pos rfl]; omega
 | false => rw [if_neg Bool.false_ne_true]; omega
theorem signbit_f (K : Nat) (neg : Bool) (hK : K < 9223372036854775808) : math_Signbit.f (K + signBit neg) = some neg := by
 unfold math_Signbit.f signBit
 cases neg with
 | true =>
  rw [if_pos rfl]
  congr 1
  refine decide_eq_true ?_
  unfold wrap64; omega
 | false =>
  rw [if_neg Bool.false_ne_true]
  congr 1
  refine decide_eq_false ?_
  unfold wrap64; omega
theorem abs_f (K : Nat) (neg : Bool) (hK : K < 9223372036854775808) : math_Abs.f (K + signBit neg) = some K := by
 unfold math_Abs.f
 have hlt : K + signBit neg < 18446744073709551616 := by unfold signBit; split <;> omega
 have h := u64_andNot_nat (K + signBit neg) 9223372036854775808 hlt (by decide)
 have e : ((9223372036854775808 : Nat) : Int) = 9223372036854775808 := rfl
 rw [e] at h
 rw [h, Int.toNat_natCast]
 have e2 : (18446744073709551615 - 9223372036854775808 : Nat) = 2 ^ 63 - 1 := by decide
 rw [e2, Nat.and_two_pow_sub_one_eq_mod]
 congr 1
 unfold signBit
 have e63 : (2 : Nat) ^ 63 = 9223372036854775808 := by decide
 rw [e63]
 split <;> omega
theorem nan_no {x : Nat} (h : isNum x) : math_IsNaN.f x = some false := by
 unfold math_IsNaN.f
 have : (FloatKind.f64.format.order x x == some Ordering.eq) = true := eq_iff.2 ⟨h, h, rfl⟩
 rw [bne, this]; rfl
theorem inf_no (K : Nat) (neg : Bool) (hK : K < INF) : math_IsInf.f (K + signBit neg) 0 = some false := by
 have hI : INF = 9218868437227405312 := rfl
 unfold math_IsInf.f
 rw [if_pos rfl, abs_f K neg (by omega), Option.bind_some]
 congr 1
 rw [Bool.eq_false_iff]
 intro h
 obtain ⟨_, _, h3⟩ := gt_iff.1 h
 have h0 : srung 9218868437227405311 = 9218868437227405311 := rfl
 have h1 := srung_sign K false (by omega)
 rw [show K + signBit false = K from rfl, if_neg Bool.false_ne_true] at h1
 rw [h0, h1] at h3
 omega
theorem zero_no (K : Nat) (neg : Bool) (h0 : 0 < K) (hK : K ≤ INF) : (FloatKind.f64.format.order (K + signBit neg) 0 == some Ordering.eq) = false := by
 have hI : INF = 9218868437227405312 := rfl
 rw [Bool.eq_false_iff]
 intro h
 obtain ⟨_, _, h3⟩ := eq_iff.1 h
 have h1 := srung_sign K neg (by omega)
 have h2 : srung 0 = 0 := rfl
 rw [h1, h2] at h3
 split at h3 <;> omega
theorem parts_f (K : Nat) (neg : Bool) (h : K < INF) : ∃ m E : Nat, num_parts.f (K + signBit neg) = some ((m : Int), (E : Int) - 1074) ∧ m < 9007199254740992 ∧ (E = 0 ∨ 4503599627370496 ≤ m) ∧ K = E * 4503599627370496 + m ∧ E ≤ 2045 := by
 have hI : INF = 9218868437227405312 := rfl
 obtain ⟨X, hX⟩ : ∃ X, X = K + signBit neg := ⟨_, rfl⟩
 have hX2 : X = K ∨ X = K + 9223372036854775808 := by rw [hX]; unfold signBit; split <;> omega
 rw [← hX]
 have e1 : Go.bits .and .u64 ((X : Int) / 4503599627370496) 2047 = ((K / 4503599627370496 : Nat) : Int) := by
  have := bits_mask .u64 64 (by decide) wr64 11 (by decide) ((X : Int) / 4503599627370496) (by omega) (by omega)
  have e : (2 : Int) ^ 11 = 2048 := by decide
  rw [e] at this
  rw [show (2047 : Int) = 2048 - 1 by decide, this]; omega
 have e2 : Go.bits .and .u64 (X : Int) 4503599627370495 = ((K % 4503599627370496 : Nat) : Int) := by
  have := bits_mask .u64 64 (by decide) wr64 52 (by decide) (X : Int) (by omega) (by omega)
  have e : (2 : Int) ^ 52 = 4503599627370496 := by decide
  rw [e] at this
  rw [show (4503599627370495 : Int) = 4503599627370496 - 1 by decide, this]; omega
 have e3 : Go.bits .or .u64 ((K % 4503599627370496 : Nat) : Int) 4503599627370496 = ((4503599627370496 + K % 4503599627370496 : Nat) : Int) := by
  have h := (bits_nat .u64 64 (by decide) wr64 (K % 4503599627370496) 4503599627370496 (by omega) (by omega)).2
  have e : ((4503599627370496 : Nat) : Int) = 4503599627370496 := rfl
  rw [e] at h
  rw [h, Nat.or_comm]
  have h2 := Nat.two_pow_add_eq_or_of_lt (i := 52) (b := K % 4503599627370496) (by omega) 1
  rw [Nat.mul_one] at h2
  have e5 : (2 : Nat) ^ 52 = 4503599627370496 := by decide
  rw [e5] at h2
  rw [← h2]
 unfold num_parts.f
 rw [e1, e2, e3, w64 (n := ((K / 4503599627370496 : Nat) : Int)) (by omega) (by omega), w64 (n := ((K / 4503599627370496 : Nat) : Int) + -1074) (by omega) (by omega), w64 (n := ((K / 4503599627370496 : Nat) : Int) + -1074 - 1) (by omega) (by omega)]
 by_cases h0 : K / 4503599627370496 = 0
 ·
  rw [if_pos (by omega)]
  refine ⟨K % 4503599627370496, 0, rfl, by omega, .inl rfl, by omega, by omega⟩
 ·
  rw [if_neg (by omega)]
  refine ⟨4503599627370496 + K % 4503599627370496, K / 4503599627370496 - 1, ?_, by omega, .inr (by omega), by omega, by omega⟩
  congr 2
  omega
theorem Sc.more_n {T K p q r s b a : Nat} (h : Sc T K p q r s b a) (n : Nat) : Sc T K p (q + n) r (s * 10 ^ n) b a := by
 induction n with
 | zero => rw [Nat.pow_zero, Nat.mul_one]; exact h
 | succ n ih =>
  have := ih.more
  rwa [show s * 10 ^ n * 10 = s * 10 ^ (n + 1) by rw [Nat.pow_succ]; exact Nat.mul_assoc .., show q + n + 1 = q + (n + 1) by omega] at this
theorem Sc.less_n {T K p q r s b a : Nat} (h : Sc T K p q r s b a) (n : Nat) : Sc T K (p + n) q (r * 10 ^ n) s (b * 10 ^ n) (a * 10 ^ n) := by
 induction n with
 | zero => rw [Nat.pow_zero, Nat.mul_one, Nat.mul_one, Nat.mul_one]; exact h
 | succ n ih =>
  have := ih.less
  rwa [show r * 10 ^ n * 10 = r * 10 ^ (n + 1) by rw [Nat.pow_succ]; exact Nat.mul_assoc .., show b * 10 ^ n * 10 = b * 10 ^ (n + 1) by rw [Nat.pow_succ]; exact Nat.mul_assoc .., show a * 10 ^ n * 10 = a * 10 ^ (n + 1) by rw [Nat.pow_succ]; exact Nat.mul_assoc .., show p + n + 1 = p + (n + 1) by omega] at this
theorem ten_two (n k : Nat) (h : 4 * n ≤ k) : 10 ^ n ≤ 2 ^ k := by
 refine Nat.le_trans (Nat.pow_le_pow_left (show 10 ≤ 2 ^ 4 by decide) n) ?_
 rw [← Nat.pow_mul]
 exact Nat.pow_le_pow_right (by decide) h
theorem dig_j3 (K m r s b a : Nat) (neg : Bool) (hr : r < 2 ^ 1100) (ha : a ≤ r) (hs : s < 2 ^ 1100) (hKm : K % 2 = m % 2) (hm : m < 9007199254740992) (hsc : Sc (2 ^ 1074) K 0 0 r s b a) :
  ∃ J p q r' s' b' a', DigAt K (decide (K % 2 = 0)) J p q r' s' b' a' ∧ p ≤ 10000 ∧ q ≤ 10000 ∧
   Runs (fun k => num_Digits.j3 k neg (m : Int) (L b) (L r) (L s) (L a)) (strOfNums (ints (dg J r' s' (adj r' s' b' a' J (decide (K % 2 = 0))))), (q : Int) - p, neg) := by
 have hr0 : 0 < r := by have := hsc.hbr; omega
 have hs0 := hsc.hs
 obtain ⟨x, ex, x1, x2, x3⟩ := size_f r (few2 hr (by decide))
 obtain ⟨y, ey, y1, y2, y3⟩ := size_f s (few2 hs (by decide))
 obtain ⟨x2, x4⟩ := x2 hr0
 obtain ⟨y2, y4⟩ := y2 hs0
 have hx : x ≤ 1100 := by
  rcases Nat.lt_or_ge 1100 x with c | c
  ·
   have := Nat.pow_le_pow_right (n := 2) (by decide) (show 1100 ≤ x - 1 by omega)
   exact absurd (Nat.lt_of_lt_of_le hr (Nat.le_trans this x4)) (Nat.lt_irrefl _)
  ·
   exact c
 have hy : y ≤ 1100 := by
  rcases Nat.lt_or_ge 1100 y with c | c
  ·
   have := Nat.pow_le_pow_right (n := 2) (by decide) (show 1100 ≤ y - 1 by omega)
   exact absurd (Nat.lt_of_lt_of_le hs (Nat.le_trans this y4)) (Nat.lt_irrefl _)
  ·
   exact c
 obtain ⟨A, B, g, ga, gb, gg, g0, g1⟩ := guess_ok ((x : Int) - y - 1) (by omega) (by omega)
 have hev : ((Int.tmod (m : Int) 2) == 0) = decide (K % 2 = 0) := by
  have e : Int.tmod (m : Int) 2 = ((m % 2 : Nat) : Int) := by rw [Int.tmod_eq_emod_of_nonneg (by omega)]; omega
  rw [e]
  by_cases c : K % 2 = 0
  ·
   rw [decide_eq_true c, beq_iff_eq]; omega
  ·
   rw [decide_eq_false c, beq_eq_false_iff_ne]; omega
 have p10 : ∀ n : Nat, n ≤ 400 → 10 ^ n ≤ 2 ^ 1600 := fun n hn => ten_two n 1600 (by omega)
 have up10 : ∀ z n : Nat, z < 2 ^ 1100 → n ≤ 400 → z * 10 ^ n < 2 ^ 2700 := by
  intro z n hz hn
  have h1 := p10 n hn
  rw [pow_join (a := 1100) (b := 1600) (c := 2700) rfl]
  have h0 : 0 < 2 ^ 1600 := Nat.two_pow_pos 1600
  generalize 2 ^ 1600 = Z at *
  generalize 2 ^ 1100 = Y at *
  exact Nat.lt_of_le_of_lt (Nat.mul_le_mul_left z h1) (Nat.mul_lt_mul_of_pos_right hz h0)
 have grow : ∀ z k l : Nat, z < 2 ^ k → k ≤ l → z < 2 ^ l := fun z k l h1 h2 => Nat.lt_of_lt_of_le h1 (Nat.pow_le_pow_right (by decide) h2)
 obtain ⟨S, hS⟩ : ∃ S, S = 2701 := ⟨_, rfl⟩
 have hsz : ∀ (n c : Nat), (∀ r, num_nat_size.f (L n) = some r ↔ r = (c : Int)) → num_nat_size.f (L n) = some (c : Int) := fun n c h => (h _).2 rfl
 have two : ∀ z w : Nat, z < 2 ^ 2700 → w ≤ z → z + w < 2 ^ S := by
  intro z w h1 h2
  rw [hS, pow_join (a := 2700) (b := 1) (c := 2701) rfl, Nat.pow_one]
  generalize 2 ^ 2700 = Z at *
  omega
 by_cases hg : g ≥ 0
 ·
  obtain ⟨n, rfl⟩ := Int.eq_ofNat_of_zero_le hg
  have hn : n ≤ 400 := by omega
  have hsn := up10 s n hs hn
  obtain ⟨J, p', q', r', s', b', a', d1, d2, d3, d4⟩ := dig_core K (decide (K % 2 = 0)) neg 0 (0 + n) r (s * 10 ^ n) b a S (by omega) (two r a (grow r 1100 2700 hr (by decide)) ha) (grow _ 2700 (S + 4) hsn (by omega)) (by omega) (by omega) (hsc.more_n n)
  refine ⟨J, p', q', r', s', b', a', d1, d2, d3, Runs.suc ?_⟩
  simp only [num_Digits.j3, hsz r x ex, hsz s y ey, Option.bind_some]
  rw [w64 (n := (x : Int) - y) (by omega) (by omega), w64 (n := (x : Int) - y - 1) (by omega) (by omega), ga, hev]
  refine Runs.bind (Runs.pure _) (Runs.bind (gb ▸ Runs.pure _) (Runs.bind (gg ▸ Runs.pure _) (Runs.yes hg (Runs.bind (tens_f s n (few2 hsn (by decide)) (by omega)) (Runs.suc ?_)))))
  simp only [num_Digits.j4]
  rw [show ((0 + n : Nat) : Int) - ((0 : Nat) : Int) = (n : Int) by omega] at d4
  exact d4
 ·
  obtain ⟨n, hn⟩ : ∃ n : Nat, (n : Int) = -g := ⟨(-g).toNat, by omega⟩
  have hn4 : n ≤ 400 := by omega
  have hrn := up10 r n hr hn4
  have hb2 := hsc.hbr
  have hbn := up10 b n (Nat.lt_trans hb2 hr) hn4
  have han := up10 a n (Nat.lt_of_le_of_lt ha hr) hn4
  obtain ⟨J, p', q', r', s', b', a', d1, d2, d3, d4⟩ := dig_core K (decide (K % 2 = 0)) neg (0 + n) 0 (r * 10 ^ n) s (b * 10 ^ n) (a * 10 ^ n) S (by omega) (two _ _ hrn (Nat.mul_le_mul_right _ ha)) (grow s 1100 (S + 4) hs (by omega)) (by omega) (by omega) (hsc.less_n n)
  refine ⟨J, p', q', r', s', b', a', d1, d2, d3, Runs.suc ?_⟩
  simp only [num_Digits.j3, hsz r x ex, hsz s y ey, Option.bind_some]
  rw [w64 (n := (x : Int) - y) (by omega) (by omega), w64 (n := (x : Int) - y - 1) (by omega) (by omega), ga, hev]
  refine Runs.bind (Runs.pure _) (Runs.bind (gb ▸ Runs.pure _) (Runs.bind (gg ▸ Runs.pure _) (Runs.no hg ?_)))
  show Runs (fun k => (num_nat_tens.f k (L r) (wrap64 (-g))).bind fun t274 => (num_nat_tens.f k (L b) (wrap64 (-g))).bind fun t277 => (num_nat_tens.f k (L a) (wrap64 (-g))).bind fun t280 => num_Digits.j4 k neg t277 g t274 (L s) t280 (decide (K % 2 = 0))) _
  rw [w64 (n := -g) (by omega) (by omega), ← hn]
  refine (Runs.bind (tens_f r n (few2 hrn (by decide)) (by omega)) (Runs.bind (tens_f b n (few2 hbn (by decide)) (by omega)) (Runs.bind (tens_f a n (few2 han (by decide)) (by omega)) (Runs.suc ?_))))
  simp only [num_Digits.j4]
  rw [show ((0 : Nat) : Int) - ((0 + n : Nat) : Int) = g by omega] at d4
  exact d4
theorem lt_two (z M : Nat) (h : z ≤ 4) (hM : 3 ≤ M) : z < 2 ^ M :=
 Nat.lt_of_le_of_lt h (Nat.lt_of_lt_of_le (show 4 < 2 ^ 3 by decide) (Nat.pow_le_pow_right (by decide) hM))
theorem grow_two (z k M : Nat) (h : z < 2 ^ k) (hM : k ≤ M) : z < 2 ^ M := Nat.lt_of_lt_of_le h (Nat.pow_le_pow_right (by decide) hM)
theorem small_two (z n k M : Nat) (hz : z < 2 ^ k) (h : n + k ≤ M) : z * 2 ^ n < 2 ^ M := by
 have h1 : z * 2 ^ n < 2 ^ k * 2 ^ n := Nat.mul_lt_mul_of_pos_right hz (Nat.two_pow_pos n)
 rw [← Nat.pow_add] at h1
 exact Nat.lt_of_lt_of_le h1 (Nat.pow_le_pow_right (by decide) (by omega))
theorem digits_num (K : Nat) (neg : Bool) (h0 : 0 < K) (hK : K < INF) :
  ∃ J p q r s b a, DigAt K (decide (K % 2 = 0)) J p q r s b a ∧ p ≤ 10000 ∧ q ≤ 10000 ∧
   Runs (fun k => num_Digits.f k (K + signBit neg)) (strOfNums (ints (dg J r s (adj r s b a J (decide (K % 2 = 0))))), (q : Int) - p, neg) := by
 have hI : INF = 9218868437227405312 := rfl
 obtain ⟨m, E, hp, hm, hEm, hKE, hE⟩ := parts_f K neg hK
 have hpar : K % 2 = m % 2 := by omega
 have hj2 : ∀ r1 s1 a1 : Nat, r1 < 2 ^ 56 → s1 ≤ 4 → 1 ≤ s1 → 1 ≤ a1 → a1 ≤ 2 → a1 ≤ r1 → r1 = (if m = 4503599627370496 ∧ 0 < E then 4 * m else 2 * m) → s1 = (if m = 4503599627370496 ∧ 0 < E then 4 else 2) → a1 = (if m = 4503599627370496 ∧ 0 < E then 2 else 1) →
   ∃ J p q r s b a, DigAt K (decide (K % 2 = 0)) J p q r s b a ∧ p ≤ 10000 ∧ q ≤ 10000 ∧
    Runs (fun k => num_Digits.j2 k neg (m : Int) ((E : Int) - 1074) (L 1) (L r1) (L s1) (L a1)) (strOfNums (ints (dg J r s (adj r s b a J (decide (K % 2 = 0))))), (q : Int) - p, neg) := by
  intro r1 s1 a1 hr1 hs1 hs0 ha0 ha1 har er es ea
  have small2 := fun z n k (hz : z < 2 ^ k) (h : n + k ≤ 1100) => small_two z n k 1100 hz h
  have fewS : ∀ z : Nat, z < 2 ^ 60 → Few z := fun z hz => few2 hz (by decide)
  by_cases he : (E : Int) - 1074 ≥ 0
  ·
   obtain ⟨n, hn⟩ : ∃ n : Nat, (n : Int) = (E : Int) - 1074 := ⟨((E : Int) - 1074).toNat, by omega⟩
   have hsc := start_sc (2 ^ 1074) K m E (Nat.two_pow_pos 1074) h0 hm hEm hKE n 0 (pow_two (a := n) (b := 1074) (c := E) (d := 0) (by omega))
   rw [← er, ← es, ← ea] at hsc
   rw [Nat.pow_zero, Nat.mul_one] at hsc
   obtain ⟨J, p, q, r, s, b, a, d1, d2, d3, d4⟩ := dig_j3 K m (r1 * 2 ^ n) s1 (1 * 2 ^ n) (a1 * 2 ^ n) neg (small2 r1 n 56 hr1 (by omega)) (Nat.mul_le_mul_right _ har) (lt_two s1 1100 hs1 (by decide)) hpar hm hsc
   refine ⟨J, p, q, r, s, b, a, d1, d2, d3, Runs.suc ?_⟩
   simp only [num_Digits.j2]
   rw [← hn]
   exact Runs.yes (by omega) (Runs.bind (up_f r1 n (fewS _ (by omega)) (by omega)) (Runs.bind (up_f 1 n (fewS _ (by omega)) (by omega)) (Runs.bind (up_f a1 n (fewS _ (by omega)) (by omega)) d4)))
  ·
   obtain ⟨n, hn⟩ : ∃ n : Nat, (n : Int) = -((E : Int) - 1074) := ⟨(-((E : Int) - 1074)).toNat, by omega⟩
   have hsc := start_sc (2 ^ 1074) K m E (Nat.two_pow_pos 1074) h0 hm hEm hKE 0 n (pow_two (a := 0) (b := 1074) (c := E) (d := n) (by omega))
   rw [← er, ← es, ← ea] at hsc
   rw [Nat.pow_zero, Nat.mul_one, Nat.mul_one, Nat.mul_one] at hsc
   obtain ⟨J, p, q, r, s, b, a, d1, d2, d3, d4⟩ := dig_j3 K m r1 (s1 * 2 ^ n) 1 a1 neg (grow_two r1 56 1100 hr1 (by decide)) har (small2 s1 n 3 (by omega) (by omega)) hpar hm hsc
   refine ⟨J, p, q, r, s, b, a, d1, d2, d3, Runs.suc ?_⟩
   simp only [num_Digits.j2]
   rw [w64 (by omega) (by omega), ← hn]
   exact Runs.no he (Runs.bind (up_f s1 n (fewS _ (by omega)) (by omega)) d4)
 have hm0 : 0 < m := by omega
 have hall : ∃ J p q r s b a, DigAt K (decide (K % 2 = 0)) J p q r s b a ∧ p ≤ 10000 ∧ q ≤ 10000 ∧
   Runs (fun k => num_Digits.j0 k (K + signBit neg) neg false) (strOfNums (ints (dg J r s (adj r s b a J (decide (K % 2 = 0))))), (q : Int) - p, neg) := by
  have pre : ∀ R, Runs (fun k => if (m : Int) = 4503599627370496 then (num_Digits.j1 k neg (m : Int) ((E : Int) - 1074) (L 1) (decide ((E : Int) - 1074 > (-1074))) (L (2 * m)) (L 2) (L 1)) else (num_Digits.j1 k neg (m : Int) ((E : Int) - 1074) (L 1) false (L (2 * m)) (L 2) (L 1))) R → Runs (fun k => num_Digits.j0 k (K + signBit neg) neg false) R := by
   intro R h
   refine Runs.suc ?_
   simp only [num_Digits.j0]
   rw [hp]
   refine Runs.no (by decide) (Runs.bind (Runs.pure _) ?_)
   show Runs (fun k => (num_of.f k (IntKind.u64.wrap (2 * (m : Int)))).bind _) R
   rw [u64w (by omega) (by omega), show 2 * (m : Int) = ((2 * m : Nat) : Int) by omega]
   exact Runs.bind (of_f (2 * m) (by omega)) (Runs.bind (of_f 2 (by decide)) (Runs.bind (of_f 1 (by decide)) (Runs.bind (of_f 1 (by decide)) h)))
  by_cases c : m = 4503599627370496 ∧ 0 < E
  ·
   obtain ⟨J, p, q, r, s, b, a, d1, d2, d3, d4⟩ := hj2 (4 * m) 4 2 (by omega) (by omega) (by omega) (by omega) (by omega) (by omega) (by rw [if_pos c]) (by rw [if_pos c]) (by rw [if_pos c])
   refine ⟨J, p, q, r, s, b, a, d1, d2, d3, pre _ (Runs.yes (by omega) (Runs.suc ?_))⟩
   simp only [num_Digits.j1]
   rw [u64w (by omega) (by omega), show 4 * (m : Int) = ((4 * m : Nat) : Int) by omega]
   refine Runs.yes (decide_eq_true (by omega)) ?_
   exact Runs.bind (of_f (4 * m) (by omega)) (Runs.bind (of_f 4 (by decide)) (Runs.bind (of_f 2 (by decide)) d4))
  ·
   obtain ⟨J, p, q, r, s, b, a, d1, d2, d3, d4⟩ := hj2 (2 * m) 2 1 (by omega) (by omega) (by omega) (by omega) (by omega) (by omega) (by rw [if_neg c]) (by rw [if_neg c]) (by rw [if_neg c])
   have j1 : Runs (fun k => num_Digits.j1 k neg (m : Int) ((E : Int) - 1074) (L 1) false (L (2 * m)) (L 2) (L 1)) (strOfNums (ints (dg J r s (adj r s b a J (decide (K % 2 = 0))))), (q : Int) - p, neg) := by
    refine Runs.suc ?_
    simp only [num_Digits.j1]
    exact Runs.no (by decide) d4
   refine ⟨J, p, q, r, s, b, a, d1, d2, d3, pre _ ?_⟩
   by_cases c2 : m = 4503599627370496
   ·
    refine Runs.yes (by omega) ?_
    rw [decide_eq_false (show ¬ ((E : Int) - 1074 > -1074) by omega)]
    exact j1
   ·
    exact Runs.no (by omega) j1
 obtain ⟨J, p, q, r, s, b, a, d1, d2, d3, d4⟩ := hall
 refine ⟨J, p, q, r, s, b, a, d1, d2, d3, ?_⟩
 simp only [num_Digits.f]
 rw [signbit_f K neg (by omega), zero_no K neg h0 (by omega), nan_no (isNum_sign K neg (by omega)), inf_no K neg hK]
 exact Runs.bind (Runs.pure _) (Runs.no Bool.false_ne_true (Runs.bind (Runs.pure _) (Runs.no Bool.false_ne_true (Runs.bind (Runs.pure _) d4))))
end Go.Proofs.YtjlnfnfdibfniaaDoor.Pl
namespace Go.Proofs.YtjlnfnfdibfniaaDoor.Pl
open F Hd Go.RowKit Go.Proofs.YtjlnfnfdibfniaaDoorW.PrintWords Go.Proofs.YtjlnfnfdibfniaaDoorW.PrintMore
theorem near_bits {N D a b q t m rest E r : Nat} (h1 : q * (D * 2 ^ a) ≤ N * 2 ^ b) (h2 : N * 2 ^ b < (q + 1) * (D * 2 ^ a)) (ht : 1 ≤ t) (hE : E + b = a + t)
  (hq : q = 2 ^ t * m + rest) (hrest : rest < 2 ^ t) (hm : m < 9007199254740992) (hEm : E = 0 ∨ 4503599627370496 ≤ m)
  (hr : r = 1 ∧ (2 ^ (t - 1) < rest ∨ rest = 2 ^ (t - 1) ∧ (q * (D * 2 ^ a) < N * 2 ^ b ∨ m % 2 = 1)) ∨ r = 0 ∧ (rest < 2 ^ (t - 1) ∨ rest = 2 ^ (t - 1) ∧ q * (D * 2 ^ a) = N * 2 ^ b ∧ m % 2 = 0)) :
  IsNear N D (min (E * 4503599627370496 + m + r) INF) := by
 have hPQ : 2 ^ E * 2 ^ b = 2 ^ a * 2 ^ t := by rw [← Nat.pow_add, ← Nat.pow_add, hE]
 have hT : 2 ^ t = 2 * 2 ^ (t - 1) := by rw [← Nat.pow_succ']; congr 1; omega
 have e0 := rung_of hEm hm
 have e1 := rung_next hEm hm
 have hQ : 0 < 2 ^ b := Nat.two_pow_pos b
 have hpar : (E * 4503599627370496 + m) % 2 = m % 2 := by omega
 have emid : mid (E * 4503599627370496 + m) * D * 2 ^ b = 2 * (2 ^ t * m * (D * 2 ^ a)) + 2 * (2 ^ (t - 1) * (D * 2 ^ a)) := by
  unfold mid
  rw [e0, e1]
  generalize 2 ^ E = P at *
  generalize 2 ^ b = Q at *
  generalize 2 ^ a = A at *
  generalize 2 ^ t = T at *
  generalize 2 ^ (t - 1) = h at *
  grind
 have elow : m * 2 ^ E * D * 2 ^ b = 2 ^ t * m * (D * 2 ^ a) := by
  generalize 2 ^ E = P at *
  generalize 2 ^ b = Q at *
  generalize 2 ^ a = A at *
  generalize 2 ^ t = T at *
  grind
 have ehigh : (m + 1) * 2 ^ E * D * 2 ^ b = 2 ^ t * m * (D * 2 ^ a) + 2 ^ t * (D * 2 ^ a) := by
  generalize 2 ^ E = P at *
  generalize 2 ^ b = Q at *
  generalize 2 ^ a = A at *
  generalize 2 ^ t = T at *
  grind
 have k1 : q * (D * 2 ^ a) = 2 ^ t * m * (D * 2 ^ a) + rest * (D * 2 ^ a) := by rw [hq, Nat.add_mul]
 have k2 : (q + 1) * (D * 2 ^ a) = q * (D * 2 ^ a) + D * 2 ^ a := by rw [Nat.add_mul, Nat.one_mul]
 have k3 : rest * (D * 2 ^ a) + D * 2 ^ a ≤ 2 ^ t * (D * 2 ^ a) := by
  have := Nat.mul_le_mul_right (D * 2 ^ a) (show rest + 1 ≤ 2 ^ t from hrest)
  rwa [Nat.add_mul, Nat.one_mul] at this
 have k4 : ∀ x y : Nat, x < y → x * (D * 2 ^ a) + D * 2 ^ a ≤ y * (D * 2 ^ a) := by
  intro x y h
  have := Nat.mul_le_mul_right (D * 2 ^ a) (show x + 1 ≤ y from h)
  rwa [Nat.add_mul, Nat.one_mul] at this
 have k5 := k4 rest (2 ^ (t - 1))
 have k6 := k4 (2 ^ (t - 1)) rest
 rw [k2, k1] at h2
 rw [k1] at h1 hr
 have hA : 0 < D * 2 ^ a := by omega
 generalize 2 ^ t * m * (D * 2 ^ a) = U at *
 generalize hR : rest * (D * 2 ^ a) = R at *
 generalize hH : 2 ^ (t - 1) * (D * 2 ^ a) = H at *
 generalize 2 ^ t * (D * 2 ^ a) = TT at *
 generalize D * 2 ^ a = A at *
 have eRH : rest = 2 ^ (t - 1) → R = H := fun h => by rw [← hR, ← hH, h]
 refine near_of ?_ ?_ ?_
 ·
  rw [e0]
  refine Nat.le_of_mul_le_mul_right (c := 2 ^ b) ?_ hQ
  rw [elow]; omega
 ·
  rw [e1]
  refine Nat.lt_of_mul_lt_mul_right (a := 2 ^ b) ?_
  rw [ehigh]; omega
 ·
  have lt1 : ∀ x y : Nat, x * 2 ^ b < y * 2 ^ b → x < y := fun x y h => Nat.lt_of_mul_lt_mul_right (a := 2 ^ b) h
  have eq1 : ∀ x y : Nat, x * 2 ^ b = y * 2 ^ b → x = y := fun x y h => Nat.eq_of_mul_eq_mul_right hQ h
  have e2 : 2 * N * 2 ^ b = 2 * (N * 2 ^ b) := Nat.mul_assoc ..
  rw [hpar]
  rcases hr with ⟨rfl, h⟩ | ⟨rfl, h⟩
  ·
   refine .inr ⟨rfl, ?_⟩
   rcases h with h | ⟨h, h'⟩
   ·
    refine .inl (lt1 _ _ ?_)
    rw [emid, e2]; have := k6 h; omega
   ·
    have := eRH h
    rcases h' with h' | h'
    ·
     refine .inl (lt1 _ _ ?_)
     rw [emid, e2]; omega
    ·
     rcases Nat.lt_or_ge (U + R) (N * 2 ^ b) with c | c
     ·
      refine .inl (lt1 _ _ ?_)
      rw [emid, e2]; omega
     ·
      refine .inr ⟨eq1 _ _ ?_, h'⟩
      rw [emid, e2]; omega
  ·
   refine .inl ⟨rfl, ?_⟩
   rcases h with h | ⟨h, h', h''⟩
   ·
    refine .inl (lt1 _ _ ?_)
    rw [emid, e2]; have := k5 h; omega
   ·
    have := eRH h
    refine .inr ⟨eq1 _ _ ?_, h''⟩
    rw [emid, e2]; omega
theorem wraps_u64 (n : Int) (h0 : 0 ≤ n) (h1 : n < 2 ^ 64) : IntKind.u64.wrap n = n := by rw [IntKind.wrap_u64]; omega
theorem near_j2 (M : Nat) (E : Nat) (x : Int) (hx : x = (E : Int) - 1074) (hE : E ≤ 1000000) (hM : M < 9007199254740992) (hEM : E = 0 ∨ 4503599627370496 ≤ M) :
  Runs (fun k => num_nearest.j2 k x (M : Int)) ((min (E * 4503599627370496 + M) INF : Nat) : Int) := by
 refine Runs.suc ?_
 simp only [num_nearest.j2]
 have hI : INF = 9218868437227405312 := rfl
 by_cases h1 : x > 971
 ·
  refine Runs.yes h1 ((Runs.pure _).of ?_)
  omega
 ·
  refine Runs.no h1 ?_
  by_cases h2 : M < 4503599627370496
  ·
   refine Runs.yes (by omega) ((Runs.pure _).of ?_)
   omega
  ·
   refine Runs.no (by omega) ((Runs.pure _).of ?_)
   have e1 : Go.bits .and .u64 (M : Int) 4503599627370495 = ((M - 4503599627370496 : Nat) : Int) := by
    have := bits_mask .u64 64 (by decide) wraps_u64 52 (by decide) (M : Int) (by omega) (by omega)
    have e : (2 : Int) ^ 52 = 4503599627370496 := by decide
    rw [e] at this
    rw [show (4503599627370495 : Int) = 4503599627370496 - 1 by decide, this]; omega
   rw [e1, w64 (n := x - -1074) (by omega) (by omega), w64 (by omega) (by omega), u64w (n := x - -1074 + 1) (by omega) (by omega), u64w (by omega) (by omega)]
   have e52 : (2 : Int) ^ 52 = 4503599627370496 := by decide
   have e64 : (2 : Int) ^ 64 = 18446744073709551616 := by decide
   rw [bits_join .u64 64 (by decide) wraps_u64 52 _ _ (by omega) (by rw [e52]; omega) (by rw [e64]; omega) (by omega) (by rw [e52]; omega) (by rw [e64]; omega)]
   omega
theorem near_j1 (M : Nat) (E t : Nat) (x : Int) (hx : x + t = (E : Int) - 1074) (_ht : t ≤ 100000) (hE : E ≤ 100000) (hM : M ≤ 9007199254740992) (hEM : E = 0 ∨ 4503599627370496 ≤ M) :
  Runs (fun k => num_nearest.j1 k x (t : Int) (M : Int)) ((min (E * 4503599627370496 + M) INF : Nat) : Int) := by
 refine Runs.suc ?_
 simp only [num_nearest.j1]
 rw [w64 (n := x + t) (by omega) (by omega), w64 (by omega) (by omega)]
 by_cases h1 : M = 9007199254740992
 ·
  refine Runs.yes (by omega) ?_
  refine (near_j2 4503599627370496 (E + 1) _ (by omega) (by omega) (by omega) (by omega)).of ?_
  omega
 ·
  refine Runs.no (by omega) ?_
  exact near_j2 M E _ hx (by omega) (by omega) hEM
theorem near_j0 (m r : Nat) (E t : Nat) (x : Int) (hx : x + t = (E : Int) - 1074) (ht : t ≤ 100000) (hE : E ≤ 100000) (hM : m < 9007199254740992) (hEM : E = 0 ∨ 4503599627370496 ≤ m) (f : Bool) (hf : r = if f = true then 1 else 0) :
  Runs (fun k => num_nearest.j0 k x (t : Int) (m : Int) f) ((min (E * 4503599627370496 + m + r) INF : Nat) : Int) := by
 refine Runs.suc ?_
 simp only [num_nearest.j0]
 rw [u64w (by omega) (by omega)]
 cases f with
 | true =>
  rw [if_pos rfl] at hf
  refine Runs.yes rfl ?_
  have := near_j1 (m + 1) E t x hx ht hE (by omega) (by omega)
  rw [hf, Nat.add_assoc]; exact this
 | false =>
  rw [if_neg Bool.false_ne_true] at hf
  refine Runs.no Bool.false_ne_true ?_
  rw [hf, Nat.add_zero]
  exact near_j1 m E t x hx ht hE (by omega) hEM
theorem nearest_f (q : Nat) (e : Int) (more : Bool) (N D a b : Nat) (hq0 : 2 ^ 54 ≤ q) (hq1 : q < 2 ^ 60) (he : (a : Int) - b = e + 1074) (ha : a ≤ 50000) (hb : b ≤ 50000)
  (h1 : q * (D * 2 ^ a) ≤ N * 2 ^ b) (h2 : N * 2 ^ b < (q + 1) * (D * 2 ^ a)) (hm : more = decide (q * (D * 2 ^ a) < N * 2 ^ b)) :
  ∃ K : Nat, IsNear N D K ∧ Runs (fun k => num_nearest.f k (q : Int) e more) (K : Int) := by
 obtain ⟨g1, g2⟩ := bitLen_spec 64 q (by omega)
 obtain ⟨g2, g3⟩ := g2 (by omega)
 obtain ⟨s, hs⟩ : ∃ s, s = Lib.bitLenAux 64 q := ⟨_, rfl⟩
 rw [← hs] at g1 g2 g3
 have hs0 : 55 ≤ s := by
  rcases Nat.lt_or_ge s 55 with c | c
  ·
   have := Nat.pow_le_pow_right (n := 2) (by decide) (show s ≤ 54 by omega); omega
  ·
   exact c
 have hs1 : s ≤ 60 := by
  rcases Nat.lt_or_ge 60 s with c | c
  ·
   have := Nat.pow_le_pow_right (n := 2) (by decide) (show 60 ≤ s - 1 by omega); omega
  ·
   exact c
 obtain ⟨t, ht⟩ : ∃ t : Nat, (t : Int) = mx ((s : Int) - 53) (-1074 - e) := ⟨(mx ((s : Int) - 53) (-1074 - e)).toNat, by unfold mx; split <;> omega⟩
 have hmx := ht
 unfold mx at hmx
 obtain ⟨E, hE⟩ : ∃ E : Nat, E + b = a + t := ⟨a + t - b, by split at hmx <;> omega⟩
 have ht1 : s ≤ 53 + t := by split at hmx <;> omega
 have hEt : E = 0 ∧ s < 53 + t ∨ s = 53 + t := by split at hmx <;> omega
 have ht2 : 2 ≤ t := by omega
 have ht3 : t ≤ 60000 := by split at hmx <;> omega
 have hl : Lib.bitLen q = s := hs.symm
 have hT : 0 < 2 ^ t := Nat.two_pow_pos t
 have hdm : q = 2 ^ t * (q / 2 ^ t) + q % 2 ^ t := (Nat.div_add_mod q (2 ^ t)).symm
 have hrl : q % 2 ^ t < 2 ^ t := Nat.mod_lt _ hT
 have hm53 : q / 2 ^ t < 9007199254740992 := by
  refine Nat.div_lt_of_lt_mul ?_
  have := Nat.pow_le_pow_right (n := 2) (by decide) ht1
  rw [Nat.pow_add, show (2 : Nat) ^ 53 = 9007199254740992 by decide] at this
  rw [Nat.mul_comm]; omega
 have hEm : E = 0 ∨ 4503599627370496 ≤ q / 2 ^ t := by
  rcases hEt with c | c
  ·
   exact .inl c.1
  ·
   refine .inr ((Nat.le_div_iff_mul_le hT).2 ?_)
   rw [show (4503599627370496 : Nat) = 2 ^ 52 by decide, ← Nat.pow_add, show 52 + t = s - 1 by omega]
   exact g3
 have hx : e + t = (E : Int) - 1074 := by omega
 have core := fun r hr => near_bits (r := r) h1 h2 (by omega) hE hdm hrl hm53 hEm hr
 have mod2 : ((q / 2 ^ t : Nat) : Int).tmod 2 = ((q / 2 ^ t % 2 : Nat) : Int) := by rw [Int.tmod_eq_emod_of_nonneg (Int.natCast_nonneg _)]; exact (Int.natCast_emod ..).symm
 simp only [num_nearest.f]
 have eL : bits_Len64.f (q : Int) = some (s : Int) := by
  unfold bits_Len64.f
  rw [if_pos (by omega), Int.toNat_natCast, hl]
 rw [eL]
 simp only [Option.bind_some]
 rw [w64 (n := (s : Int) - 52) (by omega) (by omega), w64 (n := (s : Int) - 52 - 1) (by omega) (by omega), w64 (n := -1074 - e) (by omega) (by omega), show (s : Int) - 52 - 1 = (s : Int) - 53 by omega, ← ht]
 by_cases hbig : t > 63
 ·
  refine ⟨_, core 0 (.inr ⟨rfl, ?_⟩), ?_⟩
  ·
   have hqs : q < 2 ^ 60 := hq1
   have : 2 ^ 60 ≤ 2 ^ (t - 1) := Nat.pow_le_pow_right (by decide) (by omega)
   left
   exact Nat.lt_of_le_of_lt (Nat.mod_le _ _) (by omega)
  ·
   refine Runs.yes (by omega) ((Runs.pure _).of ?_)
   have : q / 2 ^ t = 0 := by
    refine Nat.div_eq_of_lt ?_
    have : 2 ^ 60 ≤ 2 ^ t := Nat.pow_le_pow_right (by decide) (by omega)
    omega
   rw [this]
   have : E = 0 := by omega
   subst this
   rfl
 ·
  have ht63 : t ≤ 63 := by omega
  have hT64 : 2 ^ t ≤ 2 ^ 63 := Nat.pow_le_pow_right (by decide) ht63
  have hTh : 2 ^ (t - 1) ≤ 2 ^ 63 := Nat.pow_le_pow_right (by decide) (by omega)
  rw [w64 (n := (t : Int) - 1) (by omega) (by omega), show (t : Int) - 1 = ((t - 1 : Nat) : Int) by omega]
  have sh1 : ∀ j : Nat, j ≤ 63 → shl .u64 1 (j : Int) = ((2 ^ j : Nat) : Int) := by
   intro j hj
   unfold shl
   have e : min (j : Int).toNat IntKind.u64.bits = j := by rw [Int.toNat_natCast]; show min j 64 = j; omega
   rw [e, Int.one_mul]
   have e2 : (2 : Int) ^ j = ((2 ^ j : Nat) : Int) := by simp
   have := Nat.pow_le_pow_right (n := 2) (by decide) hj
   rw [e2]
   generalize 2 ^ j = z at *
   exact u64w (by omega) (by omega)
  have shr1 : shr .u64 (q : Int) (t : Int) = ((q / 2 ^ t : Nat) : Int) := by
   unfold shr
   have e : min (t : Int).toNat IntKind.u64.bits = t := by rw [Int.toNat_natCast]; show min t 64 = t; omega
   rw [e]; simp
  have msk : Go.bits .and .u64 (q : Int) (((2 ^ t : Nat) : Int) - 1) = ((q % 2 ^ t : Nat) : Int) := by
   have := bits_mask .u64 64 (by decide) wraps_u64 t (by omega) (q : Int) (by omega) (by omega)
   have e : ((2 : Int) ^ t) = ((2 ^ t : Nat) : Int) := by simp
   rw [e] at this
   rw [this]; exact (Int.natCast_emod ..).symm
  rw [sh1 t ht63, sh1 (t - 1) (by omega), shr1, u64w (n := ((2 ^ t : Nat) : Int) - 1) (by omega) (by omega), msk]
  have hE5 : E ≤ 100000 := by omega
  have j0 := fun r f hf => near_j0 (q / 2 ^ t) r E t e hx (by omega) hE5 hm53 hEm f hf
  rw [mod2]
  by_cases c1 : 2 ^ (t - 1) < q % 2 ^ t
  ·
   refine ⟨_, core 1 (.inl ⟨rfl, .inl c1⟩), ?_⟩
   exact Runs.no (by omega) (Runs.yes (by omega) (Runs.yes (by omega) (Runs.yes (by omega) (j0 1 true rfl))))
  ·
   by_cases c2 : q % 2 ^ t = 2 ^ (t - 1)
   ·
    cases hmore : more with
    | true =>
     rw [hmore] at hm
     have := of_decide_eq_true hm.symm
     refine ⟨_, core 1 (.inl ⟨rfl, .inr ⟨c2, .inl this⟩⟩), ?_⟩
     exact Runs.no (by omega) (Runs.yes (by omega) (Runs.yes (by omega) (Runs.no (by omega) (Runs.yes (by omega) (Runs.yes rfl (j0 1 true rfl))))))
    | false =>
     rw [hmore] at hm
     have := of_decide_eq_false hm.symm
     by_cases c3 : q / 2 ^ t % 2 = 1
     ·
      refine ⟨_, core 1 (.inl ⟨rfl, .inr ⟨c2, .inr c3⟩⟩), ?_⟩
      refine Runs.no (by omega) (Runs.yes (by omega) (Runs.yes (by omega) (Runs.no (by omega) (Runs.yes (by omega) (Runs.no Bool.false_ne_true (j0 1 _ ?_))))))
      rw [c3]; rfl
     ·
      refine ⟨_, core 0 (.inr ⟨rfl, .inr ⟨c2, by omega, by omega⟩⟩), ?_⟩
      refine Runs.no (by omega) (Runs.yes (by omega) (Runs.yes (by omega) (Runs.no (by omega) (Runs.yes (by omega) (Runs.no Bool.false_ne_true (j0 0 _ ?_))))))
      rw [show q / 2 ^ t % 2 = 0 by omega]; rfl
   ·
    refine ⟨_, core 0 (.inr ⟨rfl, .inl (by omega)⟩), ?_⟩
    exact Runs.no (by omega) (Runs.yes (by omega) (Runs.yes (by omega) (Runs.no (by omega) (Runs.no (by omega) (j0 0 false rfl)))))
end Go.Proofs.YtjlnfnfdibfniaaDoor.Pl
namespace Go.Proofs.YtjlnfnfdibfniaaDoor.Pl
open F Hd Go.RowKit Go.Proofs.YtjlnfnfdibfniaaDoorW.PrintWords Go.Proofs.YtjlnfnfdibfniaaDoorW.PrintMore
theorem extract_upto (s : ByteArray) (i : Nat) : (s.extract 0 i).data.toList = s.data.toList.take i := by
 rw [ByteArray.data_extract, Array.toList_extract]; simp
theorem extract_from (s : ByteArray) (a : Nat) : (s.extract a s.size).data.toList = s.data.toList.drop a := by
 rw [ByteArray.data_extract, Array.toList_extract]
 have : s.size = s.data.toList.length := by rw [Array.length_toList]; rfl
 rw [List.extract_eq_take_drop, this, List.take_of_length_le (by rw [List.length_drop]; omega)]
theorem len_data (s : ByteArray) : s.data.toList.length = s.size := by rw [Array.length_toList]; rfl
theorem bytes_ext {a b : ByteArray} (h : a.data.toList = b.data.toList) : a = b := by
 cases a; cases b; simp at h; simp [h]
theorem bt_get (s : ByteArray) (i : Nat) (h : i < s.data.toList.length) : bt s (i : Int) = (s.data.toList[i].toNat : Int) := by
 have h' : i < s.size := by rw [← len_data]; exact h
 unfold bt
 simp only [Int.toNat_natCast]
 rw [dif_pos h']
 simp [ByteArray.getElem_eq_getElem_data]
theorem digit_f (c : UInt8) : num_digit.f (c.toNat : Int) = some (isDig c) := by
 unfold num_digit.f isDig
 by_cases h : 48 ≤ c.toNat
 ·
  rw [if_pos (by omega)]
  have : decide ((c.toNat : Int) ≤ 57) = decide (c.toNat ≤ 57) := decide_eq_decide.2 (by omega)
  simp [h, this]
 ·
  rw [if_neg (by omega)]; simp [h]
theorem run_l0 (s : ByteArray) (hs : s.size ≤ 140737488351232) : ∀ (d i : Nat), i + d = s.data.toList.length → ∀ k, d < k → num_run.l0 k s (i : Int) = some (((i + ((s.data.toList.drop i).takeWhile isDig).length : Nat)) : Int) := by
 intro d
 induction d with
 | zero =>
  intro i hi k hk
  obtain ⟨k, rfl⟩ : ∃ k', k = k' + 1 := ⟨k - 1, by omega⟩
  rw [num_run.l0, if_neg (by rw [← len_data]; omega), List.drop_of_length_le (by omega)]
  simp
 | succ d ih =>
  intro i hi k hk
  obtain ⟨k, rfl⟩ : ∃ k', k = k' + 1 := ⟨k - 1, by omega⟩
  have hl : i < s.data.toList.length := by omega
  rw [num_run.l0, if_pos (by rw [← len_data]; omega), if_pos (by omega), bt_get s i hl, digit_f, Option.bind_some, List.drop_eq_getElem_cons hl, List.takeWhile_cons]
  have hlen := len_data s
  cases hd : isDig s.data.toList[i] with
  | true =>
   have hw : wrap64 ((i : Int) + 1) = ((i + 1 : Nat) : Int) := by rw [w64 (by omega) (by omega)]; omega
   rw [if_pos rfl, if_pos rfl, hw, ih (i + 1) (by omega) k (by omega), List.length_cons]
   congr 1; omega
  | false => rw [if_neg (by decide), if_neg (by decide)]; simp
theorem run_f (s : ByteArray) (hs : s.size ≤ 140737488351232) (k : Nat) (hk : s.size < k) : num_run.f k s = some ((s.data.toList.takeWhile isDig).length : Int) := by
 unfold num_run.f
 have := run_l0 s hs s.data.toList.length 0 (by omega) k (by rw [len_data]; exact hk)
 simpa using this
theorem takeWhile_all (l : List UInt8) : (l.takeWhile isDig).length = l.length ↔ ∀ c ∈ l, isDig c = true := by
 induction l with
 | nil => simp
 | cons a l ih =>
  rw [List.takeWhile_cons]
  cases h : isDig a with
  | true => simp [ih, h]
  | false => simp [h]
theorem sub48 (c : UInt8) (h : isDig c = true) : ((c.toNat : Int) - 48) % 256 = ((c.toNat - 48 : Nat) : Int) ∧ c.toNat - 48 ≤ 9 := by
 simp only [isDig, Bool.and_eq_true, decide_eq_true_eq] at h
 omega
end Go.Proofs.YtjlnfnfdibfniaaDoor.Pl
namespace Go.Proofs.YtjlnfnfdibfniaaDoor.Pl
open F Hd Go.RowKit Go.Proofs.YtjlnfnfdibfniaaDoorW.PrintWords Go.Proofs.YtjlnfnfdibfniaaDoorW.PrintMore
theorem few_two {n m : Nat} (h : n < 2 ^ m) (hm : m ≤ 31000000) : Few n := by
 refine few_of (s := m / 32 + 1) (Nat.lt_of_lt_of_le h ?_) (by omega)
 rw [show (4294967296 : Nat) = 2 ^ 32 by decide, ← Nat.pow_mul]
 exact Nat.pow_le_pow_right (by decide) (by omega)
theorem L_len (r : Nat) : decide ((0 : Nat) < (L r).length) = decide (0 < r) := by
 rcases Nat.eq_zero_or_pos r with h | h
 ·
  rw [h, L_zero]; rfl
 ·
  obtain ⟨l, x, e, _, _⟩ := lim_last (B := 4294967296) (by decide) r h
  have : 0 < (L r).length := by unfold L; rw [e]; simp
  rw [decide_eq_true this, decide_eq_true h]
theorem bits_l1 (s : Nat) (x7 : Int) (hs : Few (s * 2 ^ 58)) (K : Int) : ∀ j : Nat, j ≤ 58 → ∀ r q : Nat, Few r → r < s * 2 ^ j → q % 2 ^ j = 0 → q + 2 ^ j ≤ 2 ^ 58 →
  Runs (fun k => num_nearest.f k ((q + r / s : Nat) : Int) (wrap64 (-x7)) (decide (0 < r % s))) K → Runs (fun k => num_decimal_bits.l1 k (L r) (L s) x7 (q : Int) ((j : Int) - 1)) K := by
 intro j
 induction j with
 | zero =>
  intro _ r q hr hlt _ _ hK
  rw [Nat.pow_zero, Nat.mul_one] at hlt
  rw [Nat.div_eq_of_lt hlt, Nat.mod_eq_of_lt hlt, Nat.add_zero] at hK
  refine Runs.suc ?_
  simp only [num_decimal_bits.l1]
  refine Runs.no (by omega) ?_
  have e : decide ((0 : Int) < ((L r).length : Int)) = decide (0 < r) := by
   rw [← L_len r]; exact decide_eq_decide.2 (by omega)
  simp only [L_len]
  exact Runs.bind hK (Runs.pure _)
 | succ j ih =>
  intro hj r q hr hlt hq hqb hK
  refine Runs.suc ?_
  simp only [num_decimal_bits.l1]
  rw [show ((j + 1 : Nat) : Int) - 1 = (j : Int) by omega, w64 (n := (j : Int) - 1) (by omega) (by omega)]
  have hp : 2 ^ (j + 1) = 2 * 2 ^ j := by rw [Nat.pow_succ, Nat.mul_comm]
  have hp58 : 2 ^ (j + 1) ≤ 2 ^ 58 := Nat.pow_le_pow_right (by decide) hj
  have hst : s * 2 ^ j ≤ s * 2 ^ 58 := Nat.mul_le_mul_left _ (by omega)
  have hs1 : Few s := few_mono (Nat.le_mul_of_pos_right s (Nat.two_pow_pos 58)) hs
  refine Runs.yes (by omega) (Runs.bind (up_f s j hs1 (by omega)) (Runs.bind (against_f r (s * 2 ^ j) hr) ?_))
  have hq2 : q % 2 ^ j = 0 := by
   have h1 : 2 ^ j ∣ 2 ^ (j + 1) := ⟨2, by rw [hp]; exact Nat.mul_comm ..⟩
   exact Nat.mod_eq_zero_of_dvd (Nat.dvd_trans h1 (Nat.dvd_of_mod_eq_zero hq))
  by_cases hc : s * 2 ^ j ≤ r
  ·
   refine Runs.yes (by unfold cmpN; rw [if_neg (by omega)]; split <;> omega) (Runs.bind (less_f r (s * 2 ^ j) hr hc) ?_)
   refine Runs.yes (by omega) ?_
   have hsh : shl .u64 1 (j : Int) = ((2 ^ j : Nat) : Int) := by
    unfold shl
    have e : min (j : Int).toNat IntKind.u64.bits = j := by rw [Int.toNat_natCast]; show min j 64 = j; omega
    rw [e, Int.one_mul]
    have e2 : (2 : Int) ^ j = ((2 ^ j : Nat) : Int) := by simp
    rw [e2]
    generalize 2 ^ j = z at *
    exact u64w (by omega) (by omega)
   have hor : Go.bits .or .u64 (q : Int) ((2 ^ j : Nat) : Int) = ((q + 2 ^ j : Nat) : Int) := by
    have e64 : (2 : Int) ^ 64 = 18446744073709551616 := by decide
    have ej : ((2 : Int) ^ (j + 1)) = ((2 ^ (j + 1) : Nat) : Int) := by simp
    have hlt2 : 2 ^ j < 2 ^ (j + 1) := by have := Nat.two_pow_pos j; omega
    rw [bits_join .u64 64 (by decide) wraps_u64 (j + 1) (q : Int) _ (by omega) (by rw [ej, ← Int.natCast_emod, hq]; rfl) (by rw [e64]; omega) (Int.natCast_nonneg _) (by rw [ej]; exact Int.ofNat_lt.2 hlt2) (by rw [e64]; generalize 2 ^ j = z at *; omega)]
    exact (Int.natCast_add ..).symm
   rw [hsh, hor]
   have hs0 : 0 < s := by
    rcases Nat.eq_zero_or_pos s with h | h
    ·
     rw [h] at hlt; simp at hlt
    ·
     exact h
   have e1 : r = r - s * 2 ^ j + s * 2 ^ j := by omega
   have hdiv : r / s = (r - s * 2 ^ j) / s + 2 ^ j := by
    rw [e1, Nat.add_mul_div_left _ _ hs0, ← e1]
   have hmod : r % s = (r - s * 2 ^ j) % s := by
    rw [e1, Nat.add_mul_mod_self_left, ← e1]
   have hlt3 : r - s * 2 ^ j < s * 2 ^ j := by
    rw [hp, show s * (2 * 2 ^ j) = 2 * (s * 2 ^ j) by rw [Nat.mul_left_comm]] at hlt
    omega
   refine ih (by omega) (r - s * 2 ^ j) (q + 2 ^ j) (few_mono (Nat.sub_le ..) hr) hlt3 ?_ (by omega) ?_
   ·
    rw [Nat.add_mod, hq2, Nat.mod_self]; simp
   ·
    rw [← hmod, Nat.add_assoc, Nat.add_comm (2 ^ j), ← hdiv]; exact hK
  ·
   refine Runs.no (by unfold cmpN; rw [if_pos (by omega)]; omega) ?_
   exact ih (by omega) r q hr (by omega) hq2 (by omega) hK
theorem eq_aux1 (x s T Q : Nat) : x * (s * (T * Q)) = x * (s * Q) * T := by grind
theorem eq_aux2 (y r T : Nat) : y * (r * T * 1) = y * r * T := by grind
theorem eq_aux3 (y r T Q : Nat) : y * (r * T * Q) = y * (r * Q) * T := by grind
theorem bits_j2 (r s S : Nat) (hr0 : 0 < r) (hs0 : 0 < s) (hr : r < 2 ^ S) (hs : s < 2 ^ S) (hS : S ≤ 20000) :
  ∃ K : Nat, IsNear (r * 2 ^ 1074) s K ∧ Runs (fun k => num_decimal_bits.j2 k (L r) (L s)) (K : Int) := by
 obtain ⟨a, ea, a1, a2, a3⟩ := size_f r (few_two hr (by omega))
 obtain ⟨b, eb, b1, b2, b3⟩ := size_f s (few_two hs (by omega))
 obtain ⟨a2, a4⟩ := a2 hr0
 obtain ⟨b2, b4⟩ := b2 hs0
 have haS : a ≤ S := by
  rcases Nat.lt_or_ge S a with c | c
  ·
   have := Nat.pow_le_pow_right (n := 2) (by decide) (show S ≤ a - 1 by omega); omega
  ·
   exact c
 have hbS : b ≤ S := by
  rcases Nat.lt_or_ge S b with c | c
  ·
   have := Nat.pow_le_pow_right (n := 2) (by decide) (show S ≤ b - 1 by omega); omega
  ·
   exact c
 have main : ∀ (r1 s1 A B : Nat) (sh : Int), (A : Int) - B = 1074 - sh → A ≤ 50000 → B ≤ 50000 → -30000 ≤ sh → sh ≤ 30000 → (∃ S2, r1 < 2 ^ S2 ∧ s1 < 2 ^ S2 ∧ S2 ≤ 60000) → s1 * 2 ^ 55 ≤ r1 → r1 < s1 * 2 ^ 57 → (∀ x y : Nat, x * s1 ≤ y * r1 ↔ x * (s * 2 ^ A) ≤ y * (r * 2 ^ 1074 * 2 ^ B)) → (∀ x y : Nat, x * s1 < y * r1 ↔ x * (s * 2 ^ A) < y * (r * 2 ^ 1074 * 2 ^ B)) →
   ∃ K : Nat, IsNear (r * 2 ^ 1074) s K ∧ Runs (fun k => num_decimal_bits.j3 k (L r1) (L s1) sh) (K : Int) := by
  intro r1 s1 A B sh hAB hA hB hsh0 hsh1 hS2 hlo hhi hle hlt
  obtain ⟨S2, hr1, hs1, hS2⟩ := hS2
  have hs10 : 0 < s1 := by
   rcases Nat.eq_zero_or_pos s1 with h | h
   ·
    rw [h] at hhi; simp at hhi
   ·
    exact h
  have hq0 : 2 ^ 55 ≤ r1 / s1 := (Nat.le_div_iff_mul_le hs10).2 (by rw [Nat.mul_comm]; exact hlo)
  have hq1 : r1 / s1 < 2 ^ 57 := Nat.div_lt_of_lt_mul hhi
  have hdm := Nat.div_add_mod r1 s1
  have hml := Nat.mod_lt r1 hs10
  have c1 : r1 / s1 * (s * 2 ^ A) ≤ r * 2 ^ 1074 * 2 ^ B := by
   have := (hle (r1 / s1) 1).1 (by rw [Nat.one_mul]; exact Nat.div_mul_le_self ..)
   rwa [Nat.one_mul] at this
  have c2 : r * 2 ^ 1074 * 2 ^ B < (r1 / s1 + 1) * (s * 2 ^ A) := by
   have h : ¬ (r1 / s1 + 1) * s1 ≤ 1 * r1 := by
    rw [Nat.one_mul, Nat.add_mul, Nat.one_mul, Nat.mul_comm (r1 / s1)]; omega
   have := Nat.lt_of_not_le (fun g => h ((hle (r1 / s1 + 1) 1).2 g))
   rwa [Nat.one_mul] at this
  have c3 : decide (0 < r1 % s1) = decide (r1 / s1 * (s * 2 ^ A) < r * 2 ^ 1074 * 2 ^ B) := by
   have h := hlt (r1 / s1) 1
   rw [Nat.one_mul, Nat.one_mul] at h
   refine decide_eq_decide.2 (Iff.trans ?_ h)
   rw [Nat.mul_comm (r1 / s1)]; omega
  obtain ⟨K, hK, hrun⟩ := nearest_f (r1 / s1) (-sh) (decide (0 < r1 % s1)) (r * 2 ^ 1074) s A B (by omega) (by omega) (by omega) hA hB c1 c2 c3
  refine ⟨K, hK, Runs.suc ?_⟩
  simp only [num_decimal_bits.j3]
  have hfr : Few r1 := few_two hr1 (by omega)
  have hfs : Few (s1 * 2 ^ 58) := few_two (m := S2 + 58) (by rw [Nat.pow_add]; exact Nat.mul_lt_mul_of_pos_right hs1 (Nat.two_pow_pos 58)) (by omega)
  have hhi2 : r1 < s1 * 2 ^ 58 := Nat.lt_of_lt_of_le hhi (Nat.mul_le_mul_left _ (by decide))
  refine bits_l1 s1 sh hfs (K : Int) 58 (Nat.le_refl _) r1 0 hfr hhi2 (Nat.zero_mod _) (by decide) ?_
  rw [Nat.zero_add, w64 (by omega) (by omega)]
  exact hrun
 have hsz : ∀ (n c : Nat), (∀ r, num_nat_size.f (L n) = some r ↔ r = (c : Int)) → num_nat_size.f (L n) = some (c : Int) := fun n c h => (h _).2 rfl
 have e1 := hsz r a ea
 have e2 := hsz s b eb
 have hsh : wrap64 (56 - (wrap64 ((a : Int) - (b : Int)))) = 56 - ((a : Int) - b) := by rw [w64 (n := (a : Int) - b) (by omega) (by omega), w64 (by omega) (by omega)]
 have ha1 : 2 ^ a = 2 * 2 ^ (a - 1) := by rw [← Nat.pow_succ']; congr 1; omega
 have hb1 : 2 ^ b = 2 * 2 ^ (b - 1) := by rw [← Nat.pow_succ']; congr 1; omega
 by_cases hc : (a : Int) - b ≤ 56
 ·
  obtain ⟨n, hn⟩ : ∃ n : Nat, (n : Int) = 56 - ((a : Int) - b) := ⟨(56 - ((a : Int) - b)).toNat, by omega⟩
  have hr1 : r * 2 ^ n < 2 ^ (S + S + 100) := by
   have h1 : r * 2 ^ n < 2 ^ S * 2 ^ n := Nat.mul_lt_mul_of_pos_right hr (Nat.two_pow_pos n)
   rw [← Nat.pow_add] at h1
   exact Nat.lt_of_lt_of_le h1 (Nat.pow_le_pow_right (by decide) (by omega))
  have hs1 : s < 2 ^ (S + S + 100) := Nat.lt_of_lt_of_le hs (Nat.pow_le_pow_right (by decide) (by omega))
  have hlo : s * 2 ^ 55 ≤ r * 2 ^ n := by
   have h1 : s * 2 ^ 55 ≤ 2 ^ b * 2 ^ 55 := Nat.mul_le_mul_right _ (Nat.le_of_lt b1)
   have h2 : 2 ^ (a - 1) * 2 ^ n ≤ r * 2 ^ n := Nat.mul_le_mul_right _ a4
   rw [← Nat.pow_add] at h1 h2
   rw [show b + 55 = a - 1 + n by omega] at h1
   exact Nat.le_trans h1 h2
  have hhi : r * 2 ^ n < s * 2 ^ 57 := by
   have h1 : r * 2 ^ n < 2 ^ a * 2 ^ n := Nat.mul_lt_mul_of_pos_right a1 (Nat.two_pow_pos n)
   have h2 : 2 ^ (b - 1) * 2 ^ 57 ≤ s * 2 ^ 57 := Nat.mul_le_mul_right _ b4
   rw [← Nat.pow_add] at h1 h2
   rw [show a + n = b - 1 + 57 by omega] at h1
   exact Nat.lt_of_lt_of_le h1 h2
  have hT : 0 < 2 ^ 1074 := Nat.two_pow_pos 1074
  have eq1 : ∀ x y : Nat, x * (s * 2 ^ 1074) = x * s * 2 ^ 1074 ∧ y * (r * 2 ^ 1074 * 2 ^ n) = y * (r * 2 ^ n) * 2 ^ 1074 := by
   intro x y
   generalize 2 ^ 1074 = T
   exact ⟨(Nat.mul_assoc ..).symm, eq_aux3 y r T (2 ^ n)⟩
  obtain ⟨K, hK, hrun⟩ := main (r * 2 ^ n) s 1074 n (n : Int) (by omega) (by decide) (by omega) (by omega) (by omega) ⟨_, hr1, hs1, by omega⟩ hlo hhi
   (fun x y => by rw [(eq1 x y).1, (eq1 x y).2]; exact ⟨fun h => Nat.mul_le_mul_right _ h, fun h => Nat.le_of_mul_le_mul_right h hT⟩)
   (fun x y => by rw [(eq1 x y).1, (eq1 x y).2]; exact ⟨fun h => Nat.mul_lt_mul_of_pos_right h hT, fun h => Nat.lt_of_mul_lt_mul_right h⟩)
  refine ⟨K, hK, Runs.suc ?_⟩
  simp only [num_decimal_bits.j2, e1, e2, Option.bind_some]
  rw [hsh, ← hn]
  exact Runs.yes (by omega) (Runs.bind (up_f r n (few_two hr (by omega)) (by omega)) hrun)
 ·
  obtain ⟨n, hn⟩ : ∃ n : Nat, (n : Int) = ((a : Int) - b) - 56 := ⟨(((a : Int) - b) - 56).toNat, by omega⟩
  have hr1 : r < 2 ^ (S + S + 100) := Nat.lt_of_lt_of_le hr (Nat.pow_le_pow_right (by decide) (by omega))
  have hs1 : s * 2 ^ n < 2 ^ (S + S + 100) := by
   have h1 : s * 2 ^ n < 2 ^ S * 2 ^ n := Nat.mul_lt_mul_of_pos_right hs (Nat.two_pow_pos n)
   rw [← Nat.pow_add] at h1
   exact Nat.lt_of_lt_of_le h1 (Nat.pow_le_pow_right (by decide) (by omega))
  have hlo : s * 2 ^ n * 2 ^ 55 ≤ r := by
   have h1 : s * (2 ^ n * 2 ^ 55) ≤ 2 ^ b * (2 ^ n * 2 ^ 55) := Nat.mul_le_mul_right _ (Nat.le_of_lt b1)
   rw [← Nat.mul_assoc, ← Nat.pow_add, ← Nat.pow_add] at h1
   rw [show b + (n + 55) = a - 1 by omega] at h1
   exact Nat.le_trans h1 a4
  have hhi : r < s * 2 ^ n * 2 ^ 57 := by
   have h2 : 2 ^ (b - 1) * (2 ^ n * 2 ^ 57) ≤ s * (2 ^ n * 2 ^ 57) := Nat.mul_le_mul_right _ b4
   rw [← Nat.mul_assoc s, ← Nat.pow_add, ← Nat.pow_add] at h2
   rw [show b - 1 + (n + 57) = a by omega] at h2
   exact Nat.lt_of_lt_of_le a1 h2
  have hT : 0 < 2 ^ 1074 := Nat.two_pow_pos 1074
  have eq1 : ∀ x y : Nat, x * (s * 2 ^ (1074 + n)) = x * (s * 2 ^ n) * 2 ^ 1074 ∧ y * (r * 2 ^ 1074 * 2 ^ 0) = y * r * 2 ^ 1074 := by
   intro x y
   rw [Nat.pow_add 2 1074 n, Nat.pow_zero]
   generalize 2 ^ 1074 = T
   exact ⟨eq_aux1 x s T (2 ^ n), eq_aux2 y r T⟩
  obtain ⟨K, hK, hrun⟩ := main r (s * 2 ^ n) (1074 + n) 0 (-(n : Int)) (by omega) (by omega) (by omega) (by omega) (by omega) ⟨_, hr1, hs1, by omega⟩ hlo hhi
   (fun x y => by rw [(eq1 x y).1, (eq1 x y).2]; exact ⟨fun h => Nat.mul_le_mul_right _ h, fun h => Nat.le_of_mul_le_mul_right h hT⟩)
   (fun x y => by rw [(eq1 x y).1, (eq1 x y).2]; exact ⟨fun h => Nat.mul_lt_mul_of_pos_right h hT, fun h => Nat.lt_of_mul_lt_mul_right h⟩)
  refine ⟨K, hK, Runs.suc ?_⟩
  simp only [num_decimal_bits.j2, e1, e2, Option.bind_some]
  rw [hsh, show 56 - ((a : Int) - b) = -(n : Int) by omega]
  refine Runs.no (by omega) ?_
  rw [w64 (n := - -(n : Int)) (by omega) (by omega), Int.neg_neg]
  exact Runs.bind (up_f s n (few_two hs (by omega)) (by omega)) hrun
end Go.Proofs.YtjlnfnfdibfniaaDoor.Pl
namespace Go.Proofs.YtjlnfnfdibfniaaDoor.Pl
open F Hd Go.RowKit Go.Proofs.YtjlnfnfdibfniaaDoorW.PrintWords Go.Proofs.YtjlnfnfdibfniaaDoorW.PrintMore
def mk (l : List UInt8) : ByteArray := ⟨l.toArray⟩
theorem mk_data (l : List UInt8) : (mk l).data.toList = l := by simp [mk]
theorem mk_size (l : List UInt8) : (mk l).size = l.length := by rw [← len_data, mk_data]
theorem mk_list (l : List UInt8) : (mk l).toList = l := by rw [ByteArray.toList_eq, mk_data]
theorem mk_upto (l : List UInt8) (i : Nat) : (mk l).extract 0 i = mk (l.take i) := bytes_ext (by rw [extract_upto, mk_data, mk_data])
theorem mk_from (l : List UInt8) (i : Nat) : (mk l).extract i l.length = mk (l.drop i) := bytes_ext (by rw [← mk_size l, extract_from, mk_data, mk_data])
theorem mk_part (l : List UInt8) (i j : Nat) : (mk l).extract i j = mk ((l.drop i).take (j - i)) := bytes_ext (by
 rw [ByteArray.data_extract, Array.toList_extract, List.extract_eq_take_drop, mk_data, mk_data])
theorem mk_append (a b : List UInt8) : mk a ++ mk b = mk (a ++ b) := bytes_ext (by rw [mk_data]; simp [ByteArray.data_append, mk])
theorem mk_bt (l : List UInt8) (i : Nat) (h : i < l.length) : bt (mk l) (i : Int) = (l[i].toNat : Int) := by
 rw [bt_get (mk l) i (by rw [mk_data]; exact h)]; simp [mk_data]
theorem mk_bt0 (c : UInt8) (r : List UInt8) : bt (mk (c :: r)) 0 = (c.toNat : Int) := mk_bt (c :: r) 0 (by simp)
theorem val_append (a b : List UInt8) : val (a ++ b) = val a * 10 ^ b.length + val b := by
 induction b using snoc_ind with
 | h0 => simp [val]
 | h1 l c ih =>
  rw [← List.append_assoc, val_snoc, val_snoc, ih, List.length_append, List.length_singleton, Nat.pow_succ]
  grind
theorem val_cons_le (c : UInt8) (r : List UInt8) (h : 49 ≤ c.toNat) : 10 ^ r.length ≤ val (c :: r) := by
 have := val_append [c] r
 rw [List.singleton_append] at this
 rw [this]
 have h1 : 1 ≤ val [c] := by simp [val]; omega
 have := Nat.mul_le_mul_right (10 ^ r.length) h1
 omega
theorem pow10_lt (n : Nat) : 10 ^ n < 2 ^ (4 * n + 1) := by
 have : 10 ^ n ≤ 16 ^ n := Nat.pow_le_pow_left (by decide) n
 have e : (16 : Nat) ^ n = 2 ^ (4 * n) := by rw [Nat.pow_mul]
 have := Nat.two_pow_pos (4 * n)
 rw [Nat.pow_succ]; omega
theorem bits_end (v : Nat) (x : Int) (n : Nat) (hv0 : 0 < v) (hv : v < 10 ^ n) (hn : n ≤ 1000) (h1 : -330 ≤ (n : Int) + x) (h2 : (n : Int) + x ≤ 310) (sz : Int) (s : ByteArray) (_hsz : sz = (s.size : Int)) :
  ∃ K : Nat, DecNear v x K ∧ Runs (fun k => num_decimal_bits.l0 k (L v) sz sz s x) (K : Int) := by
 obtain ⟨S, hS⟩ : ∃ S, S = 6001 := ⟨_, rfl⟩
 have l1 : v * 10 ^ x.toNat < 2 ^ S := by
  have h3 : v * 10 ^ x.toNat < 10 ^ n * 10 ^ x.toNat := Nat.mul_lt_mul_of_pos_right hv (Nat.pow_pos (by decide))
  rw [← Nat.pow_add] at h3
  have h4 := pow10_lt (n + x.toNat)
  have h5 : 2 ^ (4 * (n + x.toNat) + 1) ≤ 2 ^ S := Nat.pow_le_pow_right (by decide) (by omega)
  exact Nat.lt_of_lt_of_le (Nat.lt_trans h3 h4) h5
 have l2 : 10 ^ (-x).toNat < 2 ^ S := by
  have h4 := pow10_lt (-x).toNat
  have h5 : 2 ^ (4 * (-x).toNat + 1) ≤ 2 ^ S := Nat.pow_le_pow_right (by decide) (by omega)
  exact Nat.lt_of_lt_of_le h4 h5
 obtain ⟨K, hK, hrun⟩ := bits_j2 (v * 10 ^ x.toNat) (10 ^ (-x).toNat) S (Nat.mul_pos hv0 (Nat.pow_pos (by decide))) (Nat.pow_pos (by decide)) l1 l2 (by omega)
 refine ⟨K, hK, Runs.suc ?_⟩
 simp only [num_decimal_bits.l0]
 refine Runs.no (by omega) (Runs.bind (of_f 1 (by decide)) ?_)
 by_cases hx : x ≥ 0
 ·
  refine Runs.yes hx ?_
  have e : (-x).toNat = 0 := by omega
  rw [e, Nat.pow_zero] at hrun
  have ex : x = (x.toNat : Int) := by omega
  rw [ex]
  have := tens_f v x.toNat (few_two l1 (by omega)) (by omega)
  refine Runs.bind this ?_
  exact hrun
 ·
  refine Runs.no hx ?_
  have e : x.toNat = 0 := by omega
  rw [e, Nat.pow_zero, Nat.mul_one] at hrun
  rw [w64 (by omega) (by omega)]
  have ex : -x = ((-x).toNat : Int) := by omega
  rw [ex]
  have := tens_f 1 (-x).toNat (by rw [Nat.one_mul]; exact few_two l2 (by omega)) (by omega)
  rw [Nat.one_mul] at this
  exact Runs.bind this hrun
theorem bits_l0 (l : List UInt8) (hd : ∀ c ∈ l, isDig c = true) (hlen : l.length ≤ 1000) (x : Int) (K : Int) (hK : Runs (fun k => num_decimal_bits.l0 k (L (val l)) (l.length : Int) (l.length : Int) (mk l) x) K) :
  ∀ d i, i + d = l.length → Runs (fun k => num_decimal_bits.l0 k (L (val (l.take i))) (l.length : Int) (i : Int) (mk l) x) K := by
 intro d
 induction d with
 | zero =>
  intro i hi
  obtain rfl : i = l.length := by omega
  rw [List.take_length]; exact hK
 | succ d ih =>
  intro i hi
  have hil : i < l.length := by omega
  refine Runs.suc ?_
  simp only [num_decimal_bits.l0]
  obtain ⟨e1, e2⟩ := sub48 l[i] (hd _ (List.getElem_mem hil))
  rw [mk_size, mk_bt l i hil, e1, w64 (by omega) (by omega)]
  have hv := val_lt (l.take i) (fun c hc => hd c (List.mem_of_mem_take hc))
  rw [List.length_take, Nat.min_eq_left (by omega)] at hv
  have hf : Few (val (l.take i)) := few_two (Nat.lt_trans hv (pow10_lt i)) (by omega)
  refine Runs.yes (by omega) (Runs.yes (by omega) (Runs.yes (by omega) (Runs.bind (times_f _ 10 (l[i].toNat - 48) hf (by decide) (by omega)) ?_)))
  have := ih (i + 1) (by omega)
  rw [List.take_succ_eq_append_getElem hil, val_snoc, Nat.mul_comm] at this
  exact this
theorem bits_f (l : List UInt8) (x : Int) (hd : ∀ c ∈ l, isDig c = true) (hz : ∀ c r, l = c :: r → 49 ≤ c.toNat) (hlen : l.length ≤ 1000) (hx0 : -1000000 ≤ x) (hx1 : x ≤ 1000000) :
  ∃ K : Nat, DecNear (val l) x K ∧ Runs (fun k => num_decimal_bits.f k (mk l) x) (K : Int) := by
 simp only [num_decimal_bits.f]
 rw [mk_list, mk_size, w64 (by omega) (by omega)]
 have hv := val_lt l hd
 rcases l with _ | ⟨c, r⟩
 ·
  refine ⟨0, ?_, Runs.yes rfl (Runs.suc ?_)⟩
  ·
   show IsNear (0 * _ * _) _ 0
   rw [none_aux]
   exact near_none (Nat.pow_pos (by decide))
  ·
   simp only [num_decimal_bits.j0]
   exact Runs.yes trivial (Runs.pure _)
 ·
  have hv0 := val_cons_le c r (hz c r rfl)
  have hp : 0 < 10 ^ r.length := Nat.pow_pos (by decide)
  have hl : (c :: r).length = r.length + 1 := rfl
  by_cases h1 : ((c :: r).length : Int) + x < -330
  ·
   refine ⟨0, dec_zero_small hv (by omega), Runs.no (by simp) (Runs.suc ?_)⟩
   simp only [num_decimal_bits.j0]
   exact Runs.yes (decide_eq_true h1) (Runs.pure _)
  ·
   by_cases h2 : ((c :: r).length : Int) + x > 310
   ·
    refine ⟨INF, dec_inf_great hv0 (by omega), Runs.no (by simp) (Runs.suc ?_)⟩
    simp only [num_decimal_bits.j0]
    exact Runs.no (by simpa using h1) (Runs.yes h2 (Runs.pure _))
   ·
    obtain ⟨K, hK, hrun⟩ := bits_end (val (c :: r)) x (c :: r).length (by omega) hv hlen (by omega) (by omega) ((c :: r).length : Int) (mk (c :: r)) (by rw [mk_size])
    refine ⟨K, hK, Runs.no (by simp) (Runs.suc ?_)⟩
    simp only [num_decimal_bits.j0]
    refine Runs.no (by simpa using h1) (Runs.no h2 ?_)
    rw [mk_size]
    have := bits_l0 (c :: r) hd hlen x (K : Int) hrun (c :: r).length 0 (by omega)
    rw [List.take_zero] at this
    rw [← L_zero]
    exact this
end Go.Proofs.YtjlnfnfdibfniaaDoor.Pl
namespace Go.Proofs.YtjlnfnfdibfniaaDoor.Pl
open F Hd Go.RowKit Go.Proofs.YtjlnfnfdibfniaaDoorW.PrintWords Go.Proofs.YtjlnfnfdibfniaaDoorW.PrintMore
theorem quo_rem (r s i : Nat) : r * 10 ^ i / s * s + rem r s i = r * 10 ^ i := by
 unfold rem
 rw [Nat.mul_comm]; exact Nat.div_add_mod ..
theorem dn_iff {K : Nat} {ev : Bool} {r s b a i : Nat} (hK : 0 < K) (ha : 0 < a) : dn r s b i ev = true ↔ RdK K ev i (r * 10 ^ i / s) r s b a := by
 have h := quo_rem r s i
 have hp : 0 < 10 ^ i := Nat.pow_pos (by decide)
 have h1 : 0 < 10 ^ i * a := Nat.mul_pos hp ha
 unfold dn dnB RdK
 rw [Bool.or_eq_true, decide_eq_true_eq, Bool.and_eq_true, decide_eq_true_eq, Nat.mul_add, Nat.mul_comm b, Nat.mul_comm (10 ^ i) r]
 generalize r * 10 ^ i / s * s = u at *
 generalize rem r s i = v at *
 generalize 10 ^ i * b = w at *
 generalize 10 ^ i * a = z at *
 constructor
 ·
  rintro (g | ⟨g, g2⟩)
  ·
   exact ⟨.inl (by omega), .inl (by omega), hK⟩
  ·
   exact ⟨.inr ⟨by omega, g2⟩, .inl (by omega), hK⟩
 ·
  rintro ⟨g | ⟨g, g2⟩, _, _⟩
  ·
   exact .inl (by omega)
  ·
   exact .inr ⟨by omega, g2⟩
theorem up_iff {K : Nat} {ev : Bool} {r s b a i : Nat} (hK : 0 < K) (hs : 0 < s) : up r s a i ev = true ↔ RdK K ev i (r * 10 ^ i / s + 1) r s b a := by
 have h := quo_rem r s i
 have hv : rem r s i < s := Nat.mod_lt _ hs
 unfold up upB RdK
 rw [Bool.or_eq_true, decide_eq_true_eq, Bool.and_eq_true, decide_eq_true_eq, Nat.mul_add, Nat.mul_comm a, Nat.mul_comm (10 ^ i) r, Nat.add_mul, Nat.one_mul]
 generalize r * 10 ^ i / s * s = u at *
 generalize rem r s i = v at *
 generalize 10 ^ i * b = w at *
 generalize 10 ^ i * a = z at *
 constructor
 ·
  rintro (g | ⟨g, g2⟩)
  ·
   exact ⟨.inl (by omega), .inl (by omega), hK⟩
  ·
   exact ⟨.inl (by omega), .inr ⟨by omega, g2⟩, hK⟩
 ·
  rintro ⟨_, g | ⟨g, g2⟩, _⟩
  ·
   exact .inl (by omega)
  ·
   exact .inr ⟨by omega, g2⟩
theorem RdK.ten {K : Nat} {ev : Bool} {r s b a i N : Nat} : RdK K ev (i + 1) (N * 10) r s b a ↔ RdK K ev i N r s b a := by
 unfold RdK
 rw [Nat.pow_succ]
 have e1 : 10 ^ i * 10 * r = 10 * (10 ^ i * r) := by grind
 have e2 : N * 10 * s = 10 * (N * s) := by grind
 have e3 : 10 ^ i * 10 * b = 10 * (10 ^ i * b) := by grind
 have e4 : 10 ^ i * 10 * (r + a) = 10 * (10 ^ i * (r + a)) := by grind
 rw [e1, e2, e3, e4]
 constructor
 ·
  rintro ⟨g1 | ⟨g1, g2⟩, g3 | ⟨g3, g4⟩, g5⟩
  ·
   exact ⟨.inl (by omega), .inl (by omega), g5⟩
  ·
   exact ⟨.inl (by omega), .inr ⟨by omega, g4⟩, g5⟩
  ·
   exact ⟨.inr ⟨by omega, g2⟩, .inl (by omega), g5⟩
  ·
   exact ⟨.inr ⟨by omega, g2⟩, .inr ⟨by omega, g4⟩, g5⟩
 ·
  rintro ⟨g1 | ⟨g1, g2⟩, g3 | ⟨g3, g4⟩, g5⟩
  ·
   exact ⟨.inl (by omega), .inl (by omega), g5⟩
  ·
   exact ⟨.inl (by omega), .inr ⟨by omega, g4⟩, g5⟩
  ·
   exact ⟨.inr ⟨by omega, g2⟩, .inl (by omega), g5⟩
  ·
   exact ⟨.inr ⟨by omega, g2⟩, .inr ⟨by omega, g4⟩, g5⟩
theorem quo_tenth (r s i : Nat) : r * 10 ^ (i + 1) / s / 10 = r * 10 ^ i / s := by
 rw [Nat.div_div_eq_div_mul, Nat.pow_succ, ← Nat.mul_assoc, Nat.mul_div_mul_right _ _ (by decide)]
theorem DigAt.adj_le {K : Nat} {ev : Bool} {J p q r s b a : Nat} (_h : DigAt K ev J p q r s b a) : adj r s b a J ev ≤ 1 := by
 unfold adj
 cases adjB (rem r s J) s (r * 10 ^ J / s) (dn r s b J ev) (up r s a J ev) <;> simp
theorem adj_up {r s b a J : Nat} {ev : Bool} (h : adj r s b a J ev = 1) : up r s a J ev = true := by
 unfold adj adjB at h
 cases hu : up r s a J ev with
 | true => rfl
 | false => rw [hu] at h; simp at h
theorem adj_down {r s b a J : Nat} {ev : Bool} (h : adj r s b a J ev = 0) (hy : dn r s b J ev = true ∨ up r s a J ev = true) : dn r s b J ev = true := by
 unfold adj adjB at h
 cases hd : dn r s b J ev with
 | true => rfl
 | false =>
  rw [hd] at h hy
  have hu : up r s a J ev = true := by rcases hy with g | g; cases g; exact g
  rw [hu] at h
  simp at h
theorem DigAt.read {K : Nat} {ev : Bool} {J p q r s b a : Nat} (h : DigAt K ev J p q r s b a) (hK : 0 < K) : RdK K ev J (r * 10 ^ J / s + adj r s b a J ev) r s b a := by
 have h1 := h.adj_le
 rcases (by omega : adj r s b a J ev = 0 ∨ adj r s b a J ev = 1) with c | c
 ·
  rw [c, Nat.add_zero]
  exact (dn_iff hK h.sc.ha).1 (adj_down c h.yes)
 ·
  rw [c]
  exact (up_iff hK h.sc.hs).1 (adj_up c)
theorem DigAt.none {K : Nat} {ev : Bool} {J p q r s b a : Nat} (h : DigAt K ev J p q r s b a) (hK : 0 < K) (i : Nat) (h1 : 1 ≤ i) (h2 : i < J) : ¬ RdK K ev i (r * 10 ^ i / s) r s b a ∧ ¬ RdK K ev i (r * 10 ^ i / s + 1) r s b a := by
 obtain ⟨g1, g2⟩ := h.no i h1 h2
 constructor
 ·
  intro g; rw [(dn_iff hK h.sc.ha).2 g] at g1; cases g1
 ·
  intro g; rw [(up_iff hK h.sc.hs).2 g] at g2; cases g2
theorem DigAt.carry {K : Nat} {ev : Bool} {J p q r s b a : Nat} (h : DigAt K ev J p q r s b a) (hK : 0 < K) : r * 10 ^ J / s % 10 + adj r s b a J ev ≤ 9 := by
 have h1 := h.adj_le
 have hm : r * 10 ^ J / s % 10 < 10 := Nat.mod_lt _ (by decide)
 rcases (by omega : adj r s b a J ev = 0 ∨ adj r s b a J ev = 1) with c | c
 ·
  omega
 ·
  rcases (by omega : r * 10 ^ J / s % 10 ≤ 8 ∨ r * 10 ^ J / s % 10 = 9) with d | d
  ·
   omega
  ·
   exfalso
   have hr := h.read hK
   rw [c] at hr
   obtain ⟨i, rfl⟩ : ∃ i, J = i + 1 := ⟨J - 1, by have := h.pos; omega⟩
   have ht := quo_tenth r s i
   have he : r * 10 ^ (i + 1) / s + 1 = (r * 10 ^ i / s + 1) * 10 := by omega
   rw [he, RdK.ten] at hr
   rcases Nat.eq_zero_or_pos i with hi | hi
   ·
    subst hi
    have h0 : r * 10 ^ 0 / s = 0 := by rw [Nat.pow_zero, Nat.mul_one]; exact Nat.div_eq_of_lt h.lt
    rw [h0] at hr
    obtain ⟨_, g, _⟩ := hr
    rw [Nat.pow_zero] at g
    rcases h.top with t | ⟨t, t2⟩
    ·
     rcases g with g | ⟨g, _⟩ <;> omega
    ·
     rcases g with g | ⟨_, g⟩
     ·
      omega
     ·
      rw [t2] at g; cases g
   ·
    exact (h.none hK i hi (by omega)).2 hr
def byt (l : List Nat) : List UInt8 := l.map (fun q => UInt8.ofNat (48 + q))
theorem quo_split (r s J : Nat) (hs : 0 < s) : r * 10 ^ (J + 1) / s = r * 10 / s * 10 ^ J + (r * 10 % s) * 10 ^ J / s := by
 have h1 : r * 10 ^ (J + 1) = (r * 10 % s) * 10 ^ J + s * (r * 10 / s * 10 ^ J) := by
  have := Nat.mod_add_div (r * 10) s
  rw [Nat.pow_succ]
  generalize r * 10 % s = u at *
  generalize r * 10 / s = v at *
  have h2 : r * (10 ^ J * 10) = (r * 10) * 10 ^ J := by grind
  rw [h2, ← this]; grind
 rw [h1, Nat.add_mul_div_left _ _ hs, Nat.add_comm]
theorem byt_len (l : List Nat) : (byt l).length = l.length := by unfold byt; simp
theorem val_byt1 (d : Nat) (h : d ≤ 9) : val [UInt8.ofNat (48 + d)] = d ∧ isDig (UInt8.ofNat (48 + d)) = true := by
 have := dig_of d (by omega)
 constructor
 ·
  unfold val
  simp only [List.foldl_cons, List.foldl_nil]
  omega
 ·
  simp only [isDig, Bool.and_eq_true, decide_eq_true_eq]; omega
theorem dg_len (s e : Nat) : ∀ J r, (dg J r s e).length = J := by
 intro J
 induction J with
 | zero => intro r; rfl
 | succ J ih =>
  intro r
  rw [dg]
  split
  ·
   rename_i h; subst h; rfl
  ·
   rw [List.length_cons, ih]
theorem dg_spec (s e : Nat) (hs : 0 < s) : ∀ J r, 1 ≤ J → r < s → r * 10 ^ J / s % 10 + e ≤ 9 → val (byt (dg J r s e)) = r * 10 ^ J / s + e ∧ (∀ c ∈ byt (dg J r s e), isDig c = true) ∧ (∀ d ∈ dg J r s e, d ≤ 9) := by
 intro J
 induction J with
 | zero => intro r h; omega
 | succ J ih =>
  intro r _ hr hc
  have hq : r * 10 / s ≤ 9 := by
   have : r * 10 / s < 10 := Nat.div_lt_of_lt_mul (by omega)
   omega
  rcases Nat.eq_zero_or_pos J with hJ | hJ
  ·
   subst hJ
   rw [dg, if_pos rfl]
   rw [Nat.zero_add, Nat.pow_one] at hc ⊢
   have hq2 : r * 10 / s + e ≤ 9 := by omega
   obtain ⟨v1, v2⟩ := val_byt1 _ hq2
   refine ⟨v1, ?_, ?_⟩
   ·
    intro c hc
    have : c = UInt8.ofNat (48 + (r * 10 / s + e)) := by simpa [byt] using hc
    rw [this]; exact v2
   ·
    intro d hd; rw [List.mem_singleton.1 hd]; exact hq2
  ·
   rw [dg, if_neg (by omega)]
   have hml : r * 10 % s < s := Nat.mod_lt _ hs
   have hqs := quo_succ r s J hs hJ
   obtain ⟨g1, g2, g3⟩ := ih (r * 10 % s) hJ hml (by rw [← hqs]; exact hc)
   obtain ⟨v1, v2⟩ := val_byt1 _ hq
   refine ⟨?_, ?_, ?_⟩
   ·
    have e1 : byt (r * 10 / s :: dg J (r * 10 % s) s e) = [UInt8.ofNat (48 + r * 10 / s)] ++ byt (dg J (r * 10 % s) s e) := rfl
    rw [e1, val_append, v1, g1, byt_len, dg_len, quo_split r s J hs, Nat.add_assoc]
   ·
    intro c hc
    rcases List.mem_cons.1 hc with rfl | hc
    ·
     exact v2
    ·
     exact g2 c hc
   ·
    intro d hd
    rcases List.mem_cons.1 hd with rfl | hd
    ·
     exact hq
    ·
     exact g3 d hd
theorem dg_take (s e : Nat) : ∀ J r, 1 ≤ J → (dg (J + 1) r s e).take J = dg J r s 0 := by
 intro J
 induction J with
 | zero => intro r h; omega
 | succ J ih =>
  intro r _
  rw [dg, if_neg (by omega), List.take_succ_cons]
  rcases Nat.eq_zero_or_pos J with hJ | hJ
  ·
   subst hJ
   rw [dg, if_pos rfl, Nat.add_zero]; rfl
  ·
   rw [ih _ hJ]
   conv => rhs; rw [dg, if_neg (by omega)]
theorem str_ints (l : List Nat) : strOfNums (ints l) = mk (byt l) := by
 refine bytes_ext ?_
 rw [mk_data]
 unfold strOfNums ints byt
 rw [List.map_map]
 show (List.map _ l).toArray.toList = _
 rw [List.toList_toArray]
 refine List.map_congr_left (fun d _ => ?_)
 simp only [Function.comp, Int.toNat_natCast]
theorem Sc.ratio {T K p q r s b a m E : Nat} (h : Sc T K p q r s b a) (hm : m < 9007199254740992) (hEm : E = 0 ∨ 4503599627370496 ≤ m) (hKE : K = E * 4503599627370496 + m) : r = 2 * m * a := by
 have r0 : rungVal K = m * 2 ^ E := by rw [hKE]; exact rung_of hEm hm
 have r1 : rungVal (K + 1) = (m + 1) * 2 ^ E := by rw [hKE]; exact rung_next hEm hm
 have hmid : mid K = (2 * m + 1) * 2 ^ E := by unfold mid; rw [r0, r1]; grind
 have hv := h.hv
 have hu := h.hu
 rw [r0] at hv
 rw [hmid] at hu
 have hp : 0 < 10 ^ q * T := Nat.mul_pos (Nat.pow_pos (by decide)) h.hT
 have e1 : 2 * a * (10 ^ q * T) = 2 ^ E * 10 ^ p * s := by
  have : 2 * (r + a) * 10 ^ q * T = 2 * (r * 10 ^ q * T) + 2 * a * (10 ^ q * T) := by grind
  rw [this, hv] at hu
  have h2 : (2 * m + 1) * 2 ^ E * 10 ^ p * s = 2 * (m * 2 ^ E * 10 ^ p * s) + 2 ^ E * 10 ^ p * s := by grind
  rw [h2] at hu
  omega
 have e2 : r * (10 ^ q * T) = 2 * m * a * (10 ^ q * T) := by
  have : r * (10 ^ q * T) = m * (2 ^ E * 10 ^ p * s) := by
   rw [← Nat.mul_assoc, hv]; grind
  rw [this, ← e1]; grind
 exact Nat.eq_of_mul_eq_mul_right hp e2
theorem split_K (K : Nat) (h : K < INF) : ∃ m E : Nat, m < 9007199254740992 ∧ (E = 0 ∨ 4503599627370496 ≤ m) ∧ K = E * 4503599627370496 + m := by
 obtain ⟨m, E, _, h1, h2, h3, _⟩ := parts_f K false h
 exact ⟨m, E, h1, h2, h3⟩
theorem DigAt.short {K : Nat} {ev : Bool} {J p q r s b a : Nat} (h : DigAt K ev J p q r s b a) (hK : K < INF) : J ≤ 18 := by
 rcases h.first with h1 | ⟨h1, _⟩
 ·
  obtain ⟨m, E, g1, g2, g3⟩ := split_K K hK
  have hr := h.sc.ratio g1 g2 g3
  have hle : s ≤ r * 10 := by
   rcases Nat.lt_or_ge (r * 10) s with c | c
   ·
    exact absurd (Nat.div_eq_of_lt c) h1
   ·
    exact c
  rcases Nat.lt_or_ge 18 J with c | c
  ·
   exfalso
   have hno := (h.no 18 (by omega) c).2
   unfold up upB at hno
   rw [Bool.or_eq_false_iff] at hno
   have hno := of_decide_eq_false hno.1
   apply hno
   have ha := h.sc.ha
   have e : 2 * m * a ≤ 18014398509481984 * a := Nat.mul_le_mul_right a (by omega)
   have e2 : (10 : Nat) ^ 18 = 1000000000000000000 := by decide
   rw [e2, hr] at *
   omega
  ·
   exact c
 ·
  omega
structure Short (K : Nat) (ds : List UInt8) (x : Int) : Prop where
 dig : ∀ c ∈ ds, isDig c = true
 pos : 1 ≤ ds.length
 len : ds.length ≤ 18
 near : DecNear (val ds) (x - ds.length) K
 cut : 2 ≤ ds.length → ¬ DecNear (val (ds.take (ds.length - 1))) (x - (ds.length - 1 : Nat)) K ∧ ¬ DecNear (val (ds.take (ds.length - 1)) + 1) (x - (ds.length - 1 : Nat)) K
 lo : -10000 ≤ x
 hi : x ≤ 10000
theorem short_num (K : Nat) (neg : Bool) (h0 : 0 < K) (hK : K < INF) : ∃ ds x, Short K ds x ∧ Runs (fun k => num_Digits.f k (K + signBit neg)) (mk ds, x, neg) := by
 obtain ⟨J, p, q, r, s, b, a, h, hp, hq, hrun⟩ := digits_num K neg h0 hK
 have hJ := h.short hK
 have hc := h.carry h0
 have hr := h.read h0
 have hpos := h.pos
 obtain ⟨g1, g2, g3⟩ := dg_spec s (adj r s b a J (decide (K % 2 = 0))) h.sc.hs J r hpos h.lt hc
 have hl : (byt (dg J r s (adj r s b a J (decide (K % 2 = 0))))).length = J := by rw [byt_len, dg_len]
 rw [str_ints] at hrun
 refine ⟨_, _, ⟨g2, by omega, by omega, ?_, ?_, by omega, by omega⟩, hrun⟩
 ·
  rw [g1, hl]
  exact (dec_iff h.sc h0 hK J _ _ rfl).2 hr
 ·
  rw [hl]
  intro h2
  obtain ⟨i, rfl⟩ : ∃ i, J = i + 1 := ⟨J - 1, by omega⟩
  rw [Nat.add_sub_cancel]
  have hi : 1 ≤ i := by omega
  have htk : (byt (dg (i + 1) r s (adj r s b a (i + 1) (decide (K % 2 = 0))))).take i = byt (dg i r s 0) := by
   unfold byt
   rw [← List.map_take, dg_take s _ i r hi]
  have hm9 : r * 10 ^ i / s % 10 + 0 ≤ 9 := by omega
  obtain ⟨v1, _, _⟩ := dg_spec s 0 h.sc.hs i r hi h.lt hm9
  rw [htk, v1, Nat.add_zero]
  obtain ⟨n1, n2⟩ := h.none h0 i hi (by omega)
  exact ⟨fun g => n1 ((dec_iff h.sc h0 hK i _ _ rfl).1 g), fun g => n2 ((dec_iff h.sc h0 hK i _ _ rfl).1 g)⟩
end Go.Proofs.YtjlnfnfdibfniaaDoor.Pl
namespace Go.Proofs.YtjlnfnfdibfniaaDoor.Pl
theorem IsNear.congr {N D N' D' K : Nat} (hD : 0 < D) (hD' : 0 < D') (he : N * D' = N' * D) (h : IsNear N D K) : IsNear N' D' K := by
 have e1 : ∀ m : Nat, m * D < 2 * N ↔ m * D' < 2 * N' := by
  intro m
  rw [← Nat.mul_lt_mul_right (a := D') hD', ← Nat.mul_lt_mul_right (a := D) hD (b := m * D')]
  have h1 : 2 * N * D' = 2 * N' * D := by rw [Nat.mul_assoc, he, Nat.mul_assoc]
  have h2 : m * D * D' = m * D' * D := Nat.mul_right_comm ..
  rw [h1, h2]
 have e2 : ∀ m : Nat, 2 * N < m * D ↔ 2 * N' < m * D' := by
  intro m
  rw [← Nat.mul_lt_mul_right (a := D') hD', ← Nat.mul_lt_mul_right (a := D) hD (b := 2 * N')]
  have h1 : 2 * N * D' = 2 * N' * D := by rw [Nat.mul_assoc, he, Nat.mul_assoc]
  have h2 : m * D * D' = m * D' * D := Nat.mul_right_comm ..
  rw [h1, h2]
 have e3 : ∀ m : Nat, m * D = 2 * N → m * D' = 2 * N' := by
  intro m hm
  have a := e1 m
  have b := e2 m
  omega
 refine ⟨h.le, fun h0 => ?_, fun hK => ?_⟩
 ·
  rcases h.lo h0 with g | ⟨g, g2⟩
  ·
   exact .inl ((e1 _).1 g)
  ·
   exact .inr ⟨e3 _ g, g2⟩
 ·
  rcases h.hi hK with g | ⟨g, g2⟩
  ·
   exact .inl ((e2 _).1 g)
  ·
   exact .inr ⟨(e3 _ g.symm).symm, g2⟩
theorem shift_aux (v A B C D T : Nat) (h : A * D = B * C) : v * A * T * D = v * B * T * C := by
 have e1 : v * A * T * D = v * T * (A * D) := by grind
 rw [e1, h]; grind
theorem DecNear.shift {v : Nat} {y : Int} {K : Nat} (j : Nat) (h : DecNear v (y + j) K) : DecNear (v * 10 ^ j) y K := by
 unfold DecNear at h ⊢
 refine h.congr (Nat.pow_pos (by decide)) (Nat.pow_pos (by decide)) ?_
 rw [Nat.mul_assoc v (10 ^ j)]
 refine shift_aux _ _ _ _ _ _ ?_
 rw [← Nat.pow_add, ← Nat.pow_add, ← Nat.pow_add]
 congr 1
 omega
theorem DecNear.mono' {v v' : Nat} {x : Int} {K K' : Nat} (h : DecNear v x K) (h' : DecNear v' x K') (hv : v ≤ v') : K ≤ K' := by
 unfold DecNear at h h'
 refine IsNear.mono (Nat.pow_pos (by decide)) (Nat.pow_pos (by decide)) h h' ?_
 exact Nat.mul_le_mul_right _ (Nat.mul_le_mul_right _ (Nat.mul_le_mul_right _ hv))
end Go.Proofs.YtjlnfnfdibfniaaDoor.Pl
namespace Go.Proofs.YtjlnfnfdibfniaaDoor.Pl
open F Hd Go.RowKit Go.Proofs.YtjlnfnfdibfniaaDoorW.PrintWords Go.Proofs.YtjlnfnfdibfniaaDoorW.PrintMore
def zs (l : List UInt8) : List UInt8 := l.dropWhile (fun c => c == 48)
theorem trimByte (l : List UInt8) : Runs (fun k => strings_trimLeftByte.l0 k (mk l) 48) (mk (zs l)) := by
 induction l with
 | nil =>
  refine Runs.suc ?_
  simp only [strings_trimLeftByte.l0]
  exact Runs.no (by rw [mk_size]; simp) (Runs.pure _)
 | cons c r ih =>
  refine Runs.suc ?_
  simp only [strings_trimLeftByte.l0]
  rw [mk_size, mk_bt0, mk_from]
  have hl : (c :: r).length = r.length + 1 := rfl
  refine Runs.yes (by omega) (Runs.yes (by omega) ?_)
  by_cases h : c.toNat = 48
  ·
   have hc : c = 48 := UInt8.toNat_inj.1 h
   refine Runs.yes (by omega) (Runs.yes (by omega) ?_)
   have : zs (c :: r) = zs r := by unfold zs; rw [hc]; rfl
   rw [this]; exact ih
  ·
   refine Runs.no (by omega) ((Runs.pure _).of ?_)
   have hc : (c == 48) = false := by
    rw [beq_eq_false_iff_ne]; intro e; rw [e] at h; exact h rfl
   unfold zs
   rw [List.dropWhile_cons, hc]; rfl
theorem trim_left (l : List UInt8) : Runs (fun k => strings_TrimLeft.f k (mk l) (⟨#[48]⟩ : ByteArray)) (mk (zs l)) := by
 simp only [strings_TrimLeft.f]
 rw [mk_list]
 have h48 : bt (⟨#[48]⟩ : ByteArray) 0 = 48 := rfl
 have hs : ((⟨#[48]⟩ : ByteArray).size : Int) = 1 := rfl
 by_cases h : l = []
 ·
  refine Runs.yes h (Runs.suc ?_)
  simp only [strings_TrimLeft.j0]
  refine Runs.yes trivial ((Runs.pure _).of ?_)
  rw [h]; rfl
 ·
  have hb : ((⟨#[48]⟩ : ByteArray).toList == ([] : List UInt8)) = false := by rw [ByteArray.toList_eq]; rfl
  refine Runs.no h (Runs.suc ?_)
  simp only [strings_TrimLeft.j0]
  rw [hb, h48, hs]
  refine Runs.no Bool.false_ne_true (Runs.yes rfl (Runs.yes (by decide) (Runs.suc ?_)))
  simp only [strings_TrimLeft.j1]
  rw [h48, hs]
  refine Runs.yes (by decide) (Runs.yes (by decide) ?_)
  simp only [strings_trimLeftByte.f]
  exact Runs.bind (trimByte l) (Runs.pure _)
theorem run_mk (l : List UInt8) (h : l.length ≤ 1000) : Runs (fun k => num_run.f k (mk l)) ((l.takeWhile isDig).length : Int) := by
 refine ⟨l.length + 1, fun k hk => ?_⟩
 have := run_f (mk l) (by rw [mk_size]; omega) k (by rw [mk_size]; omega)
 rwa [mk_data] at this
theorem exp_l0 (l : List UInt8) (hd : ∀ c ∈ l, isDig c = true) (hl : l.length ≤ 1000) (x6 x : Int) (hx6 : x6 = 1 ∨ x6 = -1) (hx : -1000 ≤ x) (hx' : x ≤ 1000) (ds : ByteArray) :
  ∀ d i, i + d = l.length → Runs (fun k => num_read.l0 k (mk l) x6 (min (val (l.take i)) 100000 : Nat) (l.length : Int) (i : Int) ds x) (ds, x + x6 * (min (val l) 100000 : Nat), true) := by
 intro d
 induction d with
 | zero =>
  intro i hi
  obtain rfl : i = l.length := by omega
  refine Runs.suc ?_
  simp only [num_read.l0]
  rw [List.take_length]
  refine Runs.no (by omega) ((Runs.pure _).of ?_)
  rcases hx6 with rfl | rfl
  ·
   rw [w64 (n := 1 * _) (by omega) (by omega), w64 (by omega) (by omega)]
  ·
   rw [w64 (n := -1 * _) (by omega) (by omega), w64 (by omega) (by omega)]
 | succ d ih =>
  intro i hi
  have hil : i < l.length := by omega
  refine Runs.suc ?_
  simp only [num_read.l0]
  obtain ⟨e1, e2⟩ := sub48 l[i] (hd _ (List.getElem_mem hil))
  rw [mk_size, mk_bt l i hil, e1, w64 (n := (i : Int) + 1) (by omega) (by omega)]
  refine Runs.yes (by omega) (Runs.yes (by omega) (Runs.yes (by omega) ?_))
  have e3 : mn (wrap64 (wrap64 (10 * ((min (val (l.take i)) 100000 : Nat) : Int)) + ((l[i].toNat - 48 : Nat) : Int))) 100000 = ((min (val (l.take (i + 1))) 100000 : Nat) : Int) := by
   rw [List.take_succ_eq_append_getElem hil, val_snoc]
   generalize val (l.take i) = v at *
   generalize l[i].toNat - 48 = w at *
   rw [w64 (n := 10 * _) (by omega) (by omega), w64 (by omega) (by omega)]
   unfold mn
   split <;> omega
  rw [e3]
  exact ih (i + 1) (by omega)
def ReadOut (o : Option (List UInt8 × Int)) (g : Nat → Option (ByteArray × Int × Bool)) : Prop :=
 match o with
 | none => ∃ a b, Runs g (a, b, false)
 | some (ds, x) => ∃ x', Ext x x' ∧ -200000 ≤ x' ∧ x' ≤ 200000 ∧ Runs g (mk (zs ds), x', true)
theorem ReadOut.suc {o : Option (List UInt8 × Int)} {g : Nat → Option (ByteArray × Int × Bool)} (h : ReadOut o (fun k => g (k + 1))) : ReadOut o g := by
 unfold ReadOut at h ⊢
 split
 ·
  obtain ⟨a, b, h⟩ := h
  exact ⟨a, b, h.suc⟩
 ·
  obtain ⟨x', h1, h2, h3, h⟩ := h
  exact ⟨x', h1, h2, h3, h.suc⟩
theorem ReadOut.yes {o : Option (List UInt8 × Int)} {c : Prop} [Decidable c] {A B : Nat → Option (ByteArray × Int × Bool)} (hc : c) (h : ReadOut o A) : ReadOut o (fun k => if c then A k else B k) := by
 have : (fun k => if c then A k else B k) = A := funext fun k => if_pos hc
 rw [this]; exact h
theorem ReadOut.no {o : Option (List UInt8 × Int)} {c : Prop} [Decidable c] {A B : Nat → Option (ByteArray × Int × Bool)} (hc : ¬ c) (h : ReadOut o B) : ReadOut o (fun k => if c then A k else B k) := by
 have : (fun k => if c then A k else B k) = B := funext fun k => if_neg hc
 rw [this]; exact h
theorem ReadOut.bind {α : Type} {o : Option (List UInt8 × Int)} {g : Nat → Option α} {h : Nat → α → Option (ByteArray × Int × Bool)} {a : α} (hg : Runs g a) (hh : ReadOut o (fun k => h k a)) : ReadOut o (fun k => (g k).bind (h k)) := by
 unfold ReadOut at hh ⊢
 split
 ·
  obtain ⟨x, y, hh⟩ := hh
  exact ⟨x, y, Runs.bind hg hh⟩
 ·
  obtain ⟨x', h1, h2, h3, hh⟩ := hh
  exact ⟨x', h1, h2, h3, Runs.bind hg hh⟩
theorem allDig_iff (l : List UInt8) : allDig l = true ↔ ∀ c ∈ l, isDig c = true := by unfold allDig; rw [List.all_eq_true]
theorem read_j3 (ds r : List UInt8) (neg : Bool) (x : Int) (hr : r.length ≤ 1000) (hx : -1000 ≤ x) (hx' : x ≤ 1000) :
  ReadOut ((if r = [] ∨ allDig r = false then none else some (if neg = true then -(val r : Int) else (val r : Int))).map (fun e => (ds, x + e))) (fun k => num_read.j3 k (mk r) (if neg = true then -1 else 1) (mk (zs ds)) x) := by
 refine ReadOut.suc ?_
 simp only [num_read.j3]
 rw [mk_list, mk_size]
 by_cases h : r = []
 ·
  rw [if_pos (show r = [] ∨ allDig r = false from .inl h)]
  refine ReadOut.yes h (ReadOut.suc ?_)
  simp only [num_read.j4]
  exact ⟨_, _, Runs.yes trivial (Runs.pure _)⟩
 ·
  refine ReadOut.no h (ReadOut.bind (run_mk r hr) (ReadOut.suc ?_))
  simp only [num_read.j4]
  cases hd : allDig r with
  | false =>
   rw [if_pos (show r = [] ∨ false = false from .inr rfl)]
   refine ReadOut.yes ?_ ⟨_, _, Runs.pure _⟩
   rw [bne_iff_ne]
   intro e
   have e' : (r.takeWhile isDig).length = r.length := by omega
   have := (allDig_iff r).2 ((takeWhile_all r).1 e')
   rw [hd] at this; cases this
  | true =>
   rw [if_neg (show ¬ (r = [] ∨ true = false) from fun h' => h'.elim h (fun h'' => by cases h''))]
   have hall := (allDig_iff r).1 hd
   have e' := (takeWhile_all r).2 hall
   refine ReadOut.no ?_ ?_
   ·
    rw [e']; simp
   ·
    rw [mk_size]
    have := exp_l0 r hall hr (if neg = true then -1 else 1) x (by split <;> simp) hx hx' (mk (zs ds)) r.length 0 (by omega)
    rw [List.take_zero] at this
    refine ⟨_, ?_, ?_, ?_, this⟩
    ·
     cases neg with
     | true =>
      rw [if_pos rfl, if_pos rfl]
      unfold Ext
      generalize val r = v
      omega
     | false =>
      rw [if_neg Bool.false_ne_true, if_neg Bool.false_ne_true]
      unfold Ext
      generalize val r = v
      omega
    ·
     generalize val r = v
     split <;> omega
    ·
     generalize val r = v
     split <;> omega
theorem read_j1 (ds r : List UInt8) (x : Int) (hr : r.length ≤ 1000) (hx : -1000 ≤ x) (hx' : x ≤ 1000) (c : UInt8) :
  ReadOut ((expOf r).map (fun e => (ds, x + e))) (fun k => num_read.j1 k (mk (c :: r)) false (mk (zs ds)) x) := by
 refine ReadOut.suc ?_
 simp only [num_read.j1]
 rw [mk_size, mk_from]
 have hl : (c :: r).length = r.length + 1 := rfl
 refine ReadOut.no (by decide) (ReadOut.yes (by omega) (ReadOut.bind (Runs.pure _) ?_))
 show ReadOut _ (fun k => if (mk r).toList = [] then _ else _)
 rw [mk_list]
 unfold expOf
 rcases r with _ | ⟨a, r⟩
 ·
  refine ReadOut.yes rfl (ReadOut.suc ?_)
  simp only [num_read.j2]
  refine ReadOut.no (by decide) ?_
  exact read_j3 ds [] false x hr hx hx'
 ·
  show ReadOut _ (fun k => if a :: r = [] then _ else if 0 < ((mk (a :: r)).size : Int) then if bt (mk (a :: r)) 0 = 43 then num_read.j2 k (mk (a :: r)) 1 true (mk (zs ds)) x else num_read.j2 k (mk (a :: r)) 1 (bt (mk (a :: r)) 0 == 45) (mk (zs ds)) x else none)
  rw [mk_size, mk_bt0]
  have hl2 : (a :: r).length = r.length + 1 := rfl
  refine ReadOut.no (by simp) (ReadOut.yes (by omega) ?_)
  by_cases h45 : a.toNat = 45
  ·
   have es : sgn (a :: r) = (true, r) := by unfold sgn; simp only; rw [if_pos h45]
   rw [es]
   refine ReadOut.no (by omega) (ReadOut.suc ?_)
   simp only [num_read.j2]
   rw [mk_size, mk_bt0, mk_from]
   refine ReadOut.yes (by rw [h45]; rfl) (ReadOut.yes (by omega) (ReadOut.yes (by omega) (ReadOut.yes (by omega) ?_)))
   exact read_j3 ds r true x (by omega) hx hx'
  ·
   by_cases h43 : a.toNat = 43
   ·
    have es : sgn (a :: r) = (false, r) := by unfold sgn; simp only; rw [if_neg h45, if_pos h43]
    rw [es]
    refine ReadOut.yes (by omega) (ReadOut.suc ?_)
    simp only [num_read.j2]
    rw [mk_size, mk_bt0, mk_from]
    refine ReadOut.yes trivial (ReadOut.yes (by omega) (ReadOut.no (by omega) (ReadOut.yes (by omega) ?_)))
    exact read_j3 ds r false x (by omega) hx hx'
   ·
    have es : sgn (a :: r) = (false, a :: r) := by unfold sgn; simp only; rw [if_neg h45, if_neg h43]
    rw [es]
    refine ReadOut.no (by omega) (ReadOut.suc ?_)
    simp only [num_read.j2]
    have hb : (((a.toNat : Int)) == 45) = false := by rw [beq_eq_false_iff_ne]; omega
    rw [hb]
    refine ReadOut.no (by decide) ?_
    exact read_j3 ds (a :: r) false x hr hx hx'
theorem read_j0 (ds m : List UInt8) (x : Int) (hm : m.length ≤ 1000) (hx : -1000 ≤ x) (hx' : x ≤ 1000) :
  ReadOut (tailOf ds x m) (fun k => num_read.j0 k (mk m) (mk ds) x) := by
 refine ReadOut.suc ?_
 simp only [num_read.j0]
 rw [mk_list, mk_list, mk_size]
 unfold tailOf
 by_cases h : ds = []
 ·
  rw [if_pos h]
  exact ⟨_, _, Runs.yes h (Runs.pure _)⟩
 ·
  rw [if_neg h]
  refine ReadOut.no h (ReadOut.bind (trim_left ds) ?_)
  rcases m with _ | ⟨c, r⟩
  ·
   refine ⟨x, .inl rfl, by omega, by omega, Runs.yes rfl (Runs.pure _)⟩
  ·
   have hl : (c :: r).length = r.length + 1 := rfl
   rw [mk_bt0]
   refine ReadOut.no (by simp) (ReadOut.yes (by omega) ?_)
   simp only
   by_cases h1 : c.toNat = 101
   ·
    rw [if_pos (show c.toNat = 101 ∨ c.toNat = 69 from .inl h1)]
    exact ReadOut.yes (by omega) (read_j1 ds r x (by omega) hx hx' c)
   ·
    refine ReadOut.no (by omega) ?_
    by_cases h2 : c.toNat = 69
    ·
     rw [if_pos (show c.toNat = 101 ∨ c.toNat = 69 from .inr h2)]
     have hb : (((c.toNat : Int)) != 69) = false := by rw [h2]; rfl
     rw [hb]
     exact read_j1 ds r x (by omega) hx hx' c
    ·
     rw [if_neg (show ¬ (c.toNat = 101 ∨ c.toNat = 69) by omega)]
     have hb : (((c.toNat : Int)) != 69) = true := by rw [bne_iff_ne]; omega
     rw [hb]
     refine ReadOut.suc ?_
     simp only [num_read.j1]
     exact ⟨_, _, Runs.yes trivial (Runs.pure _)⟩
theorem tw_len (l : List UInt8) : (l.takeWhile isDig).length ≤ l.length := by
 induction l with
 | nil => simp
 | cons a l ih => rw [List.takeWhile_cons]; split <;> simp <;> omega
theorem prefix_dot (c : UInt8) (r : List UInt8) : strings_HasPrefix.f (mk (c :: r)) (⟨#[46]⟩ : ByteArray) = some (decide (c.toNat = 46)) := by
 unfold strings_HasPrefix.f stringslite_HasPrefix.f
 have hone : (⟨#[46]⟩ : ByteArray).size = 1 := rfl
 have hol : (⟨#[46]⟩ : ByteArray).toList = [46] := by rw [ByteArray.toList_eq]
 have hl : (c :: r).length = r.length + 1 := rfl
 rw [hone, mk_size, hol]
 rw [if_pos (by omega), if_pos (by decide), if_pos (by omega)]
 have e : ((1 : Nat) : Int).toNat = 1 := rfl
 rw [e, mk_upto, mk_list, Option.bind_some]
 congr 1
 show (([c] : List UInt8) == [46]) = _
 by_cases h : c.toNat = 46
 ·
  have hc : c = 46 := UInt8.toNat_inj.1 h
  rw [decide_eq_true h, hc]; rfl
 ·
  rw [decide_eq_false h]
  rw [beq_eq_false_iff_ne]
  intro e; injection e with e; rw [e] at h; exact h rfl
theorem prefix_dot_nil : strings_HasPrefix.f (mk []) (⟨#[46]⟩ : ByteArray) = some false := by
 unfold strings_HasPrefix.f stringslite_HasPrefix.f
 have hone : (⟨#[46]⟩ : ByteArray).size = 1 := rfl
 rw [hone, mk_size, if_neg (by decide)]; rfl
theorem read_f (l : List UInt8) (hl : l.length ≤ 900) : ReadOut (dspec l) (fun k => num_read.f k (mk l)) := by
 simp only [num_read.f]
 have ht := tw_len l
 refine ReadOut.bind (run_mk l (by omega)) ?_
 rw [mk_size, Int.toNat_natCast, mk_upto, mk_from]
 refine ReadOut.yes (by omega) (ReadOut.yes (by omega) (ReadOut.bind (Runs.pure _) (ReadOut.bind (Runs.pure _) ?_)))
 have hd1 : (digs l).1 = l.take (l.takeWhile isDig).length := rfl
 have hd2 : (digs l).2 = l.drop (l.takeWhile isDig).length := rfl
 have hlen : (l.drop (l.takeWhile isDig).length).length ≤ 900 := by rw [List.length_drop]; omega
 unfold dspec
 rw [hd1, hd2]
 generalize l.drop (l.takeWhile isDig).length = m at hlen ⊢
 rcases m with _ | ⟨c, r⟩
 ·
  simp only []
  rw [prefix_dot_nil]
  refine ReadOut.bind (Runs.pure _) (ReadOut.no (by decide) ?_)
  exact read_j0 _ [] 0 (by simp) (by omega) (by omega)
 ·
  have hcl : (c :: r).length = r.length + 1 := rfl
  simp only []
  rw [prefix_dot]
  refine ReadOut.bind (Runs.pure _) ?_
  by_cases h : c.toNat = 46
  ·
   rw [if_pos h, decide_eq_true h]
   have htr := tw_len r
   rw [mk_size, mk_from]
   refine ReadOut.yes rfl (ReadOut.yes (by omega) (ReadOut.bind (run_mk r (by omega)) ?_))
   show ReadOut _ (fun k => if (1 : Int) ≤ wrap64 (1 + ((r.takeWhile isDig).length : Int)) then _ else _)
   have ew : wrap64 (1 + ((r.takeWhile isDig).length : Int)) = ((1 + (r.takeWhile isDig).length : Nat) : Int) := by rw [w64 (by omega) (by omega)]; omega
   have ew2 : wrap64 (-((r.takeWhile isDig).length : Int)) = -((r.takeWhile isDig).length : Int) := w64 (by omega) (by omega)
   rw [ew, ew2, Int.toNat_natCast, mk_part, mk_from, mk_size]
   refine ReadOut.yes (by omega) (ReadOut.yes (by omega) (ReadOut.bind (Runs.pure _) ?_))
   rw [show 1 + (r.takeWhile isDig).length - 1 = (r.takeWhile isDig).length by omega, show 1 + (r.takeWhile isDig).length = (r.takeWhile isDig).length + 1 by omega]
   show ReadOut _ (fun k => if (mk (l.take _)).size + (mk (r.take _)).size ≤ 9223372036854775807 then if 0 ≤ (((r.takeWhile isDig).length + 1 : Nat) : Int) then num_read.j0 k (mk (r.drop _)) (mk (l.take _) ++ mk (r.take _)) (-((r.takeWhile isDig).length : Int)) else none else none)
   rw [mk_size, mk_size, mk_append]
   have hb1 : (l.take (l.takeWhile isDig).length).length ≤ 900 := by rw [List.length_take]; omega
   have hb2 : (r.take (r.takeWhile isDig).length).length = (r.takeWhile isDig).length := by rw [List.length_take]; omega
   refine ReadOut.yes (by omega) (ReadOut.yes (by omega) ?_)
   have e1 : (digs r).1 = r.take (r.takeWhile isDig).length := rfl
   have e2 : (digs r).2 = r.drop (r.takeWhile isDig).length := rfl
   rw [e1, e2, hb2]
   exact read_j0 _ _ _ (by rw [List.length_drop]; omega) (by omega) (by omega)
  ·
   rw [if_neg h, decide_eq_false h]
   refine ReadOut.no (by decide) ?_
   exact read_j0 _ (c :: r) 0 (by omega) (by omega) (by omega)
theorem zs_val (l : List UInt8) : val (zs l) = val l := by
 induction l with
 | nil => rfl
 | cons c r ih =>
  unfold zs at ih ⊢
  rw [List.dropWhile_cons]
  split
  ·
   rename_i h
   rw [ih]
   have hc : c = 48 := by simpa using h
   have := val_append [c] r
   rw [List.singleton_append] at this
   rw [this, hc]
   have : val [48] = 0 := rfl
   rw [this]; simp
  ·
   rfl
theorem zs_head (l : List UInt8) (hd : ∀ c ∈ l, isDig c = true) : (∀ c r, zs l = c :: r → 49 ≤ c.toNat) ∧ (∀ c ∈ zs l, isDig c = true) ∧ (zs l).length ≤ l.length := by
 induction l with
 | nil => exact ⟨fun c r h => (by cases h), fun c h => (by cases h), Nat.le_refl _⟩
 | cons a l ih =>
  have ih := ih (fun c hc => hd c (List.mem_cons_of_mem _ hc))
  unfold zs at ih ⊢
  rw [List.dropWhile_cons]
  split
  ·
   refine ⟨ih.1, ih.2.1, ?_⟩
   rw [List.length_cons]; omega
  ·
   rename_i h
   refine ⟨?_, hd, Nat.le_refl _⟩
   intro c r e
   injection e with e _
   have h1 := hd a (List.mem_cons_self ..)
   rw [← e]
   simp only [isDig, Bool.and_eq_true, decide_eq_true_eq] at h1
   have : a.toNat ≠ 48 := by
    intro h2
    have : a = 48 := UInt8.toNat_inj.1 h2
    rw [this] at h; simp at h
   omega
theorem or_sign (K : Nat) (neg : Bool) (hK : K ≤ INF) : (Go.bits .or .u64 (K : Int) (if neg = true then 9223372036854775808 else 0)).toNat = K + signBit neg := by
 have hI : INF = 9218868437227405312 := rfl
 have e64 : (2 : Int) ^ 64 = 18446744073709551616 := by decide
 have e63 : (2 : Int) ^ 63 = 9223372036854775808 := by decide
 have hK0 := Go.IntKind.wrap_u64 0
 cases neg with
 | true =>
  rw [if_pos rfl]
  have h := (bits_nat .u64 64 (by decide) wraps_u64 K 9223372036854775808 (by omega) (by omega)).2
  have e : ((9223372036854775808 : Nat) : Int) = 9223372036854775808 := rfl
  rw [e] at h
  rw [h, Int.toNat_natCast]
  unfold signBit
  rw [if_pos rfl]
  have : K ||| 9223372036854775808 = 9223372036854775808 ||| K := Nat.or_comm ..
  rw [this]
  have h2 := Nat.two_pow_add_eq_or_of_lt (i := 63) (b := K) (by omega) 1
  rw [Nat.mul_one] at h2
  have e3 : (2 : Nat) ^ 63 = 9223372036854775808 := by decide
  rw [e3] at h2
  omega
 | false =>
  rw [if_neg Bool.false_ne_true]
  have h := (bits_nat .u64 64 (by decide) wraps_u64 K 0 (by omega) (by omega)).2
  have e : ((0 : Nat) : Int) = 0 := rfl
  rw [e] at h
  rw [h, Int.toNat_natCast, Nat.or_zero]
  rfl
theorem small_mk (l : List UInt8) (hl : l.length ≤ 1000) : num_small.f (mk l) = some (mk (l.map lowc)) := by
 unfold num_small.f
 rw [mk_size, if_pos (by omega)]
 show some (smallF (mk l)) = _
 unfold smallF
 rw [mk_data]; rfl
theorem parse_j1 (l r : List UInt8) (neg : Bool) (hl : l.length ≤ 400) (hr : r.length ≤ 900) (hs : sgn l = (neg, r)) :
  ∃ b e, ParseTo l b e ∧ Runs (fun k => num_Parse.j1 k (mk r) (if neg = true then 9223372036854775808 else 0)) (b, e) := by
 simp only [ParseTo, if_neg (show ¬ 400 < l.length by omega), hs]
 have hor := or_sign
 have hI : INF = 9218868437227405312 := rfl
 by_cases h1 : r.map lowc = [110, 97, 110]
 ·
  refine ⟨9221120237041090561, 0, by rw [if_pos h1]; exact ⟨rfl, rfl⟩, Runs.suc ?_⟩
  simp only [num_Parse.j1]
  rw [small_mk r (by omega)]
  refine Runs.bind (Runs.pure _) ?_
  show Runs (fun k => if (mk (r.map lowc)).toList = _ then _ else _) _
  rw [mk_list]
  exact Runs.yes h1 (Runs.pure _)
 ·
  simp only [if_neg h1]
  by_cases h2 : r.map lowc = [105, 110, 102] ∨ r.map lowc = [105, 110, 102, 105, 110, 105, 116, 121]
  ·
   refine ⟨INF + signBit neg, 0, by rw [if_pos h2]; exact ⟨rfl, rfl⟩, Runs.suc ?_⟩
   simp only [num_Parse.j1]
   rw [small_mk r (by omega)]
   refine Runs.bind (Runs.pure _) ?_
   have hp := hor INF neg (Nat.le_refl _)
   rw [hI] at hp
   show Runs (fun k => if (mk (r.map lowc)).toList = _ then _ else if (mk (r.map lowc)).toList = _ then _ else if (mk (r.map lowc)).toList = _ then _ else _) _
   rw [mk_list]
   refine Runs.no h1 ?_
   have hp' : (Go.bits .or .u64 9218868437227405312 (if neg = true then 9223372036854775808 else 0)).toNat = INF + signBit neg := hp
   rw [hp']
   by_cases h3 : r.map lowc = [105, 110, 102]
   ·
    exact Runs.yes h3 (Runs.pure _)
   ·
    refine Runs.no h3 (Runs.yes (h2.resolve_left h3) (Runs.pure _))
  ·
   simp only [if_neg h2]
   have hro := read_f r hr
   have hds := fun ds x => dspec_digs (l := r) (ds := ds) (x := x)
   have cont : ∀ (b : Nat) (e : Int), Runs (fun k => (num_read.f k (mk r)).bind fun bt601 => (if bt601.2.2 = true then ((num_decimal_bits.f k bt601.1 bt601.2.1).bind fun t605 => (some (((Go.bits .or .u64 t605 (if neg = true then 9223372036854775808 else 0)) : Int).toNat, 0))) else (some (0, 8)))) (b, e) →
     Runs (fun k => num_Parse.j1 k (mk r) (if neg = true then 9223372036854775808 else 0)) (b, e) := by
    intro b e h
    refine Runs.suc ?_
    simp only [num_Parse.j1]
    rw [small_mk r (by omega)]
    refine Runs.bind (Runs.pure _) ?_
    show Runs (fun k => if (mk (r.map lowc)).toList = _ then _ else if (mk (r.map lowc)).toList = _ then _ else if (mk (r.map lowc)).toList = _ then _ else _) _
    rw [mk_list]
    exact Runs.no h1 (Runs.no (fun h => h2 (.inl h)) (Runs.no (fun h => h2 (.inr h)) h))
   cases hd : dspec r with
   | none =>
    rw [hd] at hro
    obtain ⟨a, c, hrun⟩ := hro
    exact ⟨0, 8, ⟨rfl, rfl⟩, cont 0 8 (Runs.bind hrun (Runs.no Bool.false_ne_true (Runs.pure _)))⟩
   | some p =>
    obtain ⟨ds, x⟩ := p
    rw [hd] at hro
    obtain ⟨x', hx, hx0, hx1, hrun⟩ := hro
    obtain ⟨g1, g2, g3⟩ := hds ds x hd
    obtain ⟨z1, z2, z3⟩ := zs_head ds g1
    obtain ⟨K, hK, hrunK⟩ := bits_f (zs ds) x' z2 z1 (by omega) (by omega) (by omega)
    have hv := val_lt ds g1
    rw [zs_val] at hK
    refine ⟨K + signBit neg, 0, ⟨rfl, K, hK.ext hv (by omega) hx, rfl⟩, cont _ 0 (Runs.bind hrun (Runs.yes rfl (Runs.bind hrunK ((Runs.pure _).of ?_))))⟩
    rw [or_sign K neg hK.le]
theorem parse_f (l : List UInt8) (hbig : l.length ≤ 140737488351232) : ∃ b e, ParseTo l b e ∧ Runs (fun k => num_Parse.f k (mk l)) (b, e) := by
 by_cases h : 400 < l.length
 ·
  refine ⟨0, 8, by unfold ParseTo; rw [if_pos h]; exact ⟨rfl, rfl⟩, ?_⟩
  simp only [num_Parse.f]
  rw [mk_size]
  exact Runs.yes (by omega) (Runs.pure _)
 ·
  rcases l with _ | ⟨c, r⟩
  ·
   obtain ⟨b, e, hp, hrun⟩ := parse_j1 [] [] false (by simp) (by simp) rfl
   refine ⟨b, e, hp, ?_⟩
   simp only [num_Parse.f]
   rw [mk_size, mk_list]
   refine Runs.no (by simp) (Runs.yes rfl (Runs.suc ?_))
   simp only [num_Parse.j0]
   exact Runs.no (by decide) hrun
  ·
   have hl : (c :: r).length = r.length + 1 := rfl
   have main : ∀ neg s, sgn (c :: r) = (neg, s) → s.length ≤ 900 → Runs (fun k => num_Parse.j1 k (mk s) (if neg = true then 9223372036854775808 else 0)) = Runs (fun k => num_Parse.f k (mk (c :: r))) → ∃ b e, ParseTo (c :: r) b e ∧ Runs (fun k => num_Parse.f k (mk (c :: r))) (b, e) := by
    intro neg s hs hs2 he
    obtain ⟨b, e, hp, hrun⟩ := parse_j1 (c :: r) s neg (by omega) hs2 hs
    exact ⟨b, e, hp, by rw [← he]; exact hrun⟩
   have step : ∀ neg s, s.length ≤ 900 → sgn (c :: r) = (neg, s) → (∀ b e, Runs (fun k => num_Parse.j1 k (mk s) (if neg = true then 9223372036854775808 else 0)) (b, e) → Runs (fun k => num_Parse.f k (mk (c :: r))) (b, e)) → ∃ b e, ParseTo (c :: r) b e ∧ Runs (fun k => num_Parse.f k (mk (c :: r))) (b, e) := by
    intro neg s hs2 hs he
    obtain ⟨b, e, hp, hrun⟩ := parse_j1 (c :: r) s neg (by omega) hs2 hs
    exact ⟨b, e, hp, he b e hrun⟩
   by_cases h45 : c.toNat = 45
   ·
    refine step true r (by omega) (by unfold sgn; simp only; rw [if_pos h45]) (fun b e hrun => ?_)
    simp only [num_Parse.f]
    rw [mk_size, mk_list, mk_bt0]
    have hb : (((c.toNat : Int)) == 45) = true := by rw [beq_iff_eq]; omega
    rw [hb]
    refine Runs.no (by omega) (Runs.no (by simp) (Runs.yes (by omega) (Runs.no (by omega) (Runs.suc ?_))))
    simp only [num_Parse.j0]
    rw [mk_size, mk_bt0, mk_from]
    exact Runs.yes trivial (Runs.yes (by omega) (Runs.yes (by omega) (Runs.yes (by omega) hrun)))
   ·
    have hb : (((c.toNat : Int)) == 45) = false := by rw [beq_eq_false_iff_ne]; omega
    by_cases h43 : c.toNat = 43
    ·
     refine step false r (by omega) (by unfold sgn; simp only; rw [if_neg h45, if_pos h43]) (fun b e hrun => ?_)
     simp only [num_Parse.f]
     rw [mk_size, mk_list, mk_bt0]
     refine Runs.no (by omega) (Runs.no (by simp) (Runs.yes (by omega) (Runs.yes (by omega) (Runs.suc ?_))))
     simp only [num_Parse.j0]
     rw [mk_size, mk_bt0, mk_from]
     exact Runs.yes trivial (Runs.yes (by omega) (Runs.no (by omega) (Runs.yes (by omega) hrun)))
    ·
     refine step false (c :: r) (by omega) (by unfold sgn; simp only; rw [if_neg h45, if_neg h43]) (fun b e hrun => ?_)
     simp only [num_Parse.f]
     rw [mk_size, mk_list, mk_bt0, hb]
     refine Runs.no (by omega) (Runs.no (by simp) (Runs.yes (by omega) (Runs.no (by omega) (Runs.suc ?_))))
     simp only [num_Parse.j0]
     exact Runs.no (by decide) hrun
end Go.Proofs.YtjlnfnfdibfniaaDoor.Pl
namespace Go.Proofs.YtjlnfnfdibfniaaDoor.Pl
theorem wakes : F.w_wakes.f 400 = some true := by kernel_rfl
end Go.Proofs.YtjlnfnfdibfniaaDoor.Pl
namespace Go.Proofs.YtjlnfnfdibfniaaDoor.Pl
open F Hd Go.RowKit Go.Proofs.YtjlnfnfdibfniaaDoorW.PrintWords Go.Proofs.YtjlnfnfdibfniaaDoorW.PrintMore
theorem wakes_runs : Runs (fun k => F.w_wakes.f k) true := by
 refine ⟨400, fun k hk => ?_⟩
 obtain ⟨d, rfl⟩ : ∃ d, k = 400 + d := ⟨k - 400, by omega⟩
 induction d with
 | zero => exact wakes
 | succ d ih => exact F.w_wakes.mono _ _ (ih (by omega))
theorem digs_all (l r : List UInt8) (hd : ∀ c ∈ l, isDig c = true) (hr : ∀ c s, r = c :: s → isDig c = false) : digs (l ++ r) = (l, r) := by
 have : (l ++ r).takeWhile isDig = l := by
  induction l with
  | nil =>
   cases r with
   | nil => rfl
   | cons c s => rw [List.nil_append, List.takeWhile_cons, hr c s rfl]; rfl
  | cons a l ih =>
   rw [List.cons_append, List.takeWhile_cons, hd a (List.mem_cons_self ..), if_pos rfl, ih (fun c hc => hd c (List.mem_cons_of_mem _ hc))]
 unfold digs
 rw [this, List.take_left', List.drop_left']
 ·
  rfl
 ·
  rfl
theorem parse_some (l : List UInt8) (hl : l.length ≤ 400) (c : UInt8) (r : List UInt8) (hc : l = c :: r) (hd : isDig c = true) (ds : List UInt8) (x : Int) (hs : dspec l = some (ds, x)) :
  ∃ K, DecNear (val ds) x K ∧ Runs (fun k => num_Parse.f k (mk l)) (K, 0) := by
 obtain ⟨b, e, hp, hrun⟩ := parse_f l (by omega)
 have hdc : 48 ≤ c.toNat ∧ c.toNat ≤ 57 := by simpa [isDig] using hd
 have h1 : sgn l = (false, l) := by
  rw [hc]; unfold sgn; simp only
  rw [if_neg (by omega), if_neg (by omega)]
 have h2 : lowc c = c := by unfold lowc; rw [if_neg (by omega)]
 have h3 : ∀ a s, l.map lowc = a :: s → a.toNat ≤ 57 := by
  intro a s h
  rw [hc, List.map_cons, h2] at h
  injection h with h _
  rw [← h]; exact hdc.2
 unfold ParseTo at hp
 rw [if_neg (by omega), h1] at hp
 rw [if_neg (fun h => by have := h3 _ _ h; exact absurd this (by decide)), if_neg (fun h => by rcases h with h | h <;> exact absurd (h3 _ _ h) (by decide))] at hp
 simp only at hp
 rw [hs] at hp
 obtain ⟨rfl, K, hK, hb⟩ := hp
 have hb2 : b = K := hb
 rw [hb2] at hrun
 exact ⟨K, hK, hrun⟩
theorem bits_eq (a : Nat) : q_Bits.f a a = some true := by unfold q_Bits.f; simp
def ExpText (E : List UInt8) (n : Int) : Prop := E.length ≤ 40 ∧ expOf E = some n
theorem int_text (n : Int) (h0 : -1000000 ≤ n) (h1 : n ≤ 1000000) : ∃ E, ExpText E n ∧ num_IntText.f n = some (mk E) := by
 have hd := dec_spec n.natAbs (by omega)
 have hl : (dec n.natAbs).length ≤ 19 := dec_short n.natAbs (by omega)
 obtain ⟨hv, hdg, hne, _⟩ := hd
 obtain ⟨c, r, hcr⟩ : ∃ c r, dec n.natAbs = c :: r := by
  cases h : dec n.natAbs with
  | nil => exact absurd h hne
  | cons c r => exact ⟨c, r, rfl⟩
 have hall : allDig (dec n.natAbs) = true := (allDig_iff _).2 hdg
 have hc : 48 ≤ c.toNat ∧ c.toNat ≤ 57 := by have := hdg c (by rw [hcr]; simp); simpa [isDig] using this
 by_cases hn : n < 0
 ·
  refine ⟨45 :: dec n.natAbs, ⟨by rw [List.length_cons]; omega, ?_⟩, ?_⟩
  ·
   have hs : sgn (45 :: dec n.natAbs) = (true, dec n.natAbs) := by unfold sgn; simp only; rw [if_pos (show UInt8.toNat 45 = 45 from rfl)]
   unfold expOf
   rw [hs]
   simp only
   rw [if_neg (show ¬ (dec n.natAbs = [] ∨ allDig (dec n.natAbs) = false) by rw [hall]; exact fun h => h.elim hne (fun h => by cases h)), if_pos trivial, hv]
   exact congrArg some (by omega)
  ·
   unfold num_IntText.f
   rw [if_pos (by omega)]
   show some (intText n) = _
   unfold intText
   rw [if_pos hn, show (-n).toNat = n.natAbs by omega]; rfl
 ·
  refine ⟨dec n.natAbs, ⟨by omega, ?_⟩, ?_⟩
  ·
   have hs : sgn (dec n.natAbs) = (false, dec n.natAbs) := by
    rw [hcr]; unfold sgn; simp only
    rw [if_neg (by omega), if_neg (by omega)]
   unfold expOf
   rw [hs]
   simp only
   rw [if_neg (show ¬ (dec n.natAbs = [] ∨ allDig (dec n.natAbs) = false) by rw [hall]; exact fun h => h.elim hne (fun h => by cases h)), if_neg Bool.false_ne_true, hv]
   exact congrArg some (by omega)
  ·
   unfold num_IntText.f
   rw [if_pos (by omega)]
   show some (intText n) = _
   unfold intText
   rw [if_neg hn, show n.toNat = n.natAbs by omega]; rfl
end Go.Proofs.YtjlnfnfdibfniaaDoor.Pl
namespace Go.Proofs.YtjlnfnfdibfniaaDoor.Pl
open F Hd Go.RowKit Go.Proofs.YtjlnfnfdibfniaaDoorW.PrintWords Go.Proofs.YtjlnfnfdibfniaaDoorW.PrintMore
theorem digits_none (K : Nat) (neg : Bool) (h : K = 0 ∨ INF ≤ K) (hK : K < 9223372036854775808) : Runs (fun k => num_Digits.f k (K + signBit neg)) (mk [], 0, neg) := by
 have hI : INF = 9218868437227405312 := rfl
 have j0 : ∀ b : Bool, b = true → Runs (fun k => num_Digits.j0 k (K + signBit neg) neg b) (mk [], 0, neg) := by
  intro b hb
  refine Runs.suc ?_
  simp only [num_Digits.j0]
  exact Runs.yes hb (Runs.pure _)
 simp only [num_Digits.f]
 rw [signbit_f K neg hK]
 refine Runs.bind (Runs.pure _) ?_
 by_cases c : (FloatKind.f64.format.order (K + signBit neg) 0 == some Ordering.eq) = true
 ·
  exact Runs.yes c (j0 true rfl)
 ·
  refine Runs.no c ?_
  have hK0 : INF ≤ K := by
   rcases h with h | h
   ·
    exfalso
    apply c
    have h2 : srung (K + signBit neg) = 0 := by
     rw [srung_sign K neg hK, h]
     split <;> rfl
    have hz : isNum 0 := by unfold isNum; omega
    exact eq_iff.2 ⟨isNum_sign K neg (by omega), hz, h2⟩
   ·
    exact h
  by_cases hi : K = INF
  ·
   subst hi
   rw [nan_no (isNum_sign INF neg (Nat.le_refl _))]
   refine Runs.bind (Runs.pure _) (Runs.no Bool.false_ne_true ?_)
   have hinf : math_IsInf.f (INF + signBit neg) 0 = some true := by
    unfold math_IsInf.f
    rw [if_pos rfl, abs_f INF neg (by omega), Option.bind_some]
    congr 1
   rw [hinf]
   exact Runs.bind (Runs.pure _) (j0 true rfl)
  ·
   have hn : ¬ isNum (K + signBit neg) := by
    unfold isNum signBit
    have e63 : (2 : Nat) ^ 63 = 9223372036854775808 := by decide
    have e52 : 2047 * (2 : Nat) ^ 52 = 9218868437227405312 := by decide
    rw [e63, e52]
    cases neg with
    | true => rw [if_pos rfl]; omega
    | false => rw [if_neg Bool.false_ne_true]; omega
   have hnan : math_IsNaN.f (K + signBit neg) = some true := by
    unfold math_IsNaN.f
    have : (FloatKind.f64.format.order (K + signBit neg) (K + signBit neg) == some Ordering.eq) = false := by
     rw [Bool.eq_false_iff]
     intro g
     exact hn (eq_iff.1 g).1
    rw [bne, this]; rfl
   rw [hnan]
   exact Runs.bind (Runs.pure _) (Runs.yes rfl (j0 true rfl))
theorem parse_frac (l E : List UInt8) (n : Int) (hd : ∀ c ∈ l, isDig c = true) (hl2 : l.length ≤ 300) (hE : ExpText E n) :
  ∃ K, DecNear (val l) (n - l.length) K ∧ Runs (fun k => num_Parse.f k (mk ([48, 46] ++ l ++ [101] ++ E))) (K, 0) := by
 have e1 : [48, 46] ++ l ++ [101] ++ E = [48] ++ 46 :: (l ++ 101 :: E) := by simp
 have hlen : ([48] ++ 46 :: (l ++ 101 :: E)).length ≤ 400 := by have := hE.1; simp; omega
 have hs : dspec ([48] ++ 46 :: (l ++ 101 :: E)) = some ([48] ++ l, -(l.length : Int) + n) := by
  have h1 := digs_all [48] (46 :: (l ++ 101 :: E)) (fun c hc => by rw [List.mem_singleton.1 hc]; rfl) (fun c s h => by injection h with h _; rw [← h]; rfl)
  have h2 := digs_all l (101 :: E) hd (fun c s h => by injection h with h _; rw [← h]; rfl)
  unfold dspec
  rw [h1]
  simp only
  rw [if_pos (by rfl), h2]
  simp only
  unfold tailOf
  rw [if_neg (by simp)]
  simp only
  rw [if_pos (by decide), hE.2]
  rfl
 obtain ⟨K, hK, hrun⟩ := parse_some ([48] ++ 46 :: (l ++ 101 :: E)) hlen 48 (46 :: (l ++ 101 :: E)) rfl rfl ([48] ++ l) _ hs
 refine ⟨K, ?_, by rw [e1]; exact hrun⟩
 have hv : val ([48] ++ l) = val l := by rw [val_append]; simp [val]
 rw [hv, show -(l.length : Int) + n = n - l.length by omega] at hK
 exact hK
theorem times_spec : ∀ l : List UInt8, (∀ c ∈ l, isDig c = true) → val (timesR l).reverse = val l.reverse + 1 ∧ (∀ c ∈ timesR l, isDig c = true) ∧ (timesR l).length ≤ l.length + 1 := by
 intro l
 induction l with
 | nil => intro _; exact ⟨rfl, fun c hc => by rw [timesR, List.mem_singleton] at hc; rw [hc]; rfl, by simp [timesR]⟩
 | cons c r ih =>
  intro hd
  have hc := hd c (List.mem_cons_self ..)
  simp only [isDig, Bool.and_eq_true, decide_eq_true_eq] at hc
  rw [timesR]
  split
  ·
   rename_i h
   have e : (UInt8.ofNat (c.toNat + 1)).toNat = c.toNat + 1 := by rw [UInt8.toNat_ofNat']; omega
   refine ⟨?_, ?_, by simp⟩
   ·
    rw [List.reverse_cons, List.reverse_cons, val_snoc, val_snoc, e]; omega
   ·
    intro x hx
    rcases List.mem_cons.1 hx with rfl | hx
    ·
     simp only [isDig, Bool.and_eq_true, decide_eq_true_eq]; omega
    ·
     exact hd x (List.mem_cons_of_mem _ hx)
  ·
   obtain ⟨g1, g2, g3⟩ := ih (fun x hx => hd x (List.mem_cons_of_mem _ hx))
   refine ⟨?_, ?_, by simp only [List.length_cons]; omega⟩
   ·
    rw [List.reverse_cons, List.reverse_cons, val_snoc, val_snoc, g1]
    have : (48 : UInt8).toNat = 48 := rfl
    omega
   ·
    intro x hx
    rcases List.mem_cons.1 hx with rfl | hx
    ·
     rfl
    ·
     exact g2 x hx
theorem times_mk (l : List UInt8) (hl : l.length ≤ 1000) : w_times.f (mk l) = some (mk (timesR l.reverse).reverse) := by
 unfold w_times.f
 rw [mk_size, if_pos (by omega)]
 show some (timesF (mk l)) = _
 unfold timesF
 rw [mk_data]; rfl
theorem order_lt {K J : Nat} (hK : K ≤ INF) (hJ : J ≤ INF) (h : K < J) : (FloatKind.f64.format.order K J == some Ordering.lt) = true := by
 have h1 := srung_sign K false (by have : INF = 9218868437227405312 := rfl; omega)
 have h2 := srung_sign J false (by have : INF = 9218868437227405312 := rfl; omega)
 rw [if_neg Bool.false_ne_true] at h1 h2
 refine lt_iff.2 ⟨isNum_sign K false hK, isNum_sign J false hJ, ?_⟩
 have h1' : srung K = K := h1
 have h2' : srung J = J := h2
 rw [h1', h2']; omega
theorem order_gt {K J : Nat} (hK : K ≤ INF) (hJ : J ≤ INF) (h : J < K) : (FloatKind.f64.format.order K J == some Ordering.gt) = true := by
 have h1 := srung_sign K false (by have : INF = 9218868437227405312 := rfl; omega)
 have h2 := srung_sign J false (by have : INF = 9218868437227405312 := rfl; omega)
 rw [if_neg Bool.false_ne_true] at h1 h2
 refine gt_iff.2 ⟨isNum_sign K false hK, isNum_sign J false hJ, ?_⟩
 have h1' : srung K = K := h1
 have h2' : srung J = J := h2
 rw [h1', h2']; omega
theorem bits_ne {a b : Nat} (h : a ≠ b) : q_Bits.f a b = some false := by
 unfold q_Bits.f
 congr 1
 rw [beq_eq_false_iff_ne]; omega
theorem shortest_one (x0 : List Int) (x3 : Nat) (hx3 : x3 < x0.length) (hl : x0.length ≤ 140737488351232) (X : Nat) (hX : x0[x3] = (X : Int)) (hXl : X < 18446744073709551616)
  (h : Runs (fun k => w_NumShortest.l0 k x0 ((x3 + 1 : Nat) : Int)) true) : Runs (fun k => w_NumShortest.j1 k x0 (x3 : Int) true) true := by
 have hI : INF = 9218868437227405312 := rfl
 have g1 : ∀ a b : List UInt8, mk a ++ mk b = mk (a ++ b) := mk_append
 obtain ⟨K, hK⟩ : ∃ K, K = X % 9223372036854775808 := ⟨_, rfl⟩
 have hb : (Go.bits .andNot .u64 (X : Int) 9223372036854775808) = (K : Int) := by
  have h := u64_andNot_nat X 9223372036854775808 hXl (by decide)
  have e : ((9223372036854775808 : Nat) : Int) = 9223372036854775808 := rfl
  rw [e] at h
  have e2 : (18446744073709551615 - 9223372036854775808 : Nat) = 2 ^ 63 - 1 := by decide
  have e63 : (2 : Nat) ^ 63 = 9223372036854775808 := by decide
  rw [h, e2, Nat.and_two_pow_sub_one_eq_mod, e63, hK]
 have hKl : K < 9223372036854775808 := by rw [hK]; exact Nat.mod_lt _ (by decide)
 have hfb : w_fromBits.f (K : Int) = some K := by unfold w_fromBits.f; rw [Int.toNat_natCast]
 have hw : wrap64 ((x3 : Int) + 1) = ((x3 + 1 : Nat) : Int) := by rw [w64 (by omega) (by omega)]; omega
 refine Runs.suc ?_
 simp only [w_NumShortest.j1]
 rw [rd_get x0 x3 hx3, hX, hb, hfb, hw]
 refine Runs.yes trivial (Runs.yes (by omega) (Runs.yes (by omega) (Runs.bind (Runs.pure _) ?_)))
 by_cases hsp : K = 0 ∨ INF ≤ K
 ·
  have hd := digits_none K false hsp hKl
  rw [show K + signBit false = K from rfl] at hd
  refine Runs.bind hd ?_
  show Runs (fun k => if ((mk []).size : Int) < 2 then _ else _) true
  rw [mk_size]
  exact Runs.yes (by simp) h
 ·
  obtain ⟨ds, x, hs, hd⟩ := short_num K false (by omega) (by omega)
  rw [show K + signBit false = K from rfl] at hd
  refine Runs.bind hd ?_
  have hsl := hs.len
  have hsp := hs.pos
  have hslo := hs.lo
  have hshi := hs.hi
  by_cases h2 : ds.length < 2
  ·
   show Runs (fun k => if ((mk ds).size : Int) < 2 then _ else _) true
   rw [mk_size]
   exact Runs.yes (by omega) h
  ·
   have hc := hs.cut (by omega)
   obtain ⟨n, hn⟩ : ∃ n, ds.length = n + 1 := ⟨ds.length - 1, by omega⟩
   rw [hn, Nat.add_sub_cancel] at hc
   obtain ⟨low, hlow⟩ : ∃ low, low = ds.take n := ⟨_, rfl⟩
   have hll : low.length = n := by rw [hlow, List.length_take]; omega
   have hld : ∀ c ∈ low, isDig c = true := fun c hc => hs.dig c (by rw [hlow] at hc; exact List.mem_of_mem_take hc)
   rw [← hlow] at hc
   obtain ⟨t1, t2, t3⟩ := times_spec low.reverse (fun c hc => hld c (List.mem_reverse.1 hc))
   rw [List.reverse_reverse] at t1
   rw [List.length_reverse] at t3
   obtain ⟨upl, hup⟩ : ∃ upl, upl = (timesR low.reverse).reverse := ⟨_, rfl⟩
   have hul : upl.length ≤ n + 1 := by rw [hup, List.length_reverse]; omega
   have hud : ∀ c ∈ upl, isDig c = true := fun c hc => t2 c (by rw [hup] at hc; exact List.mem_reverse.1 hc)
   have huv : val upl = val low + 1 := by rw [hup]; exact t1
   obtain ⟨E1, hE1, hT1⟩ := int_text x (by omega) (by omega)
   obtain ⟨E2, hE2, hT2⟩ := int_text (x + upl.length - n) (by omega) (by omega)
   obtain ⟨Ka, na, ra⟩ := parse_frac low E1 x hld (by omega) hE1
   obtain ⟨Kb, nb, rb⟩ := parse_frac upl E2 (x + upl.length - n) hud (by omega) hE2
   obtain ⟨Kc, nc, rc⟩ := parse_frac ds E1 x hs.dig (by omega) hE1
   rw [hll] at na
   rw [huv, show x + upl.length - n - upl.length = x - n by omega] at nb
   have hKc : Kc = K := nc.unique hs.near
   rw [hKc] at rc
   obtain ⟨c, hc2⟩ : ∃ c, ds = low ++ [c] := by
    refine ⟨ds[n]'(by omega), ?_⟩
    rw [hlow, ← List.take_succ_eq_append_getElem (by omega), List.take_of_length_le (by omega)]
   have hcd := hs.dig c (by rw [hc2]; simp)
   simp only [isDig, Bool.and_eq_true, decide_eq_true_eq] at hcd
   have hv : val ds = 10 * val low + (c.toNat - 48) := by rw [hc2, val_snoc]
   have nk := hs.near
   rw [hn] at nk
   have na' : DecNear (val low * 10 ^ 1) (x - ((n + 1 : Nat) : Int)) Ka := by
    refine DecNear.shift 1 ?_
    rw [show x - ((n + 1 : Nat) : Int) + ((1 : Nat) : Int) = x - n by omega]; exact na
   have nb' : DecNear ((val low + 1) * 10 ^ 1) (x - ((n + 1 : Nat) : Int)) Kb := by
    refine DecNear.shift 1 ?_
    rw [show x - ((n + 1 : Nat) : Int) + ((1 : Nat) : Int) = x - n by omega]; exact nb
   have oa : Ka ≤ K := na'.mono' nk (by rw [Nat.pow_one]; omega)
   have ob : K ≤ Kb := nk.mono' nb' (by rw [Nat.pow_one]; omega)
   have ha : Ka ≠ K := fun e => hc.1 (e ▸ na)
   have hbK : Kb ≠ K := fun e => hc.2 (e ▸ nb)
   show Runs (fun k => if ((mk ds).size : Int) < 2 then _ else _) true
   rw [mk_size, show wrap64 ((ds.length : Int) - 1) = (n : Int) by rw [w64 (by omega) (by omega)]; omega, Int.toNat_natCast, mk_upto, ← hlow]
   refine Runs.no (by omega) (Runs.yes (by omega) (Runs.yes (by omega) (Runs.bind (Runs.pure _) ?_)))
   have p1 : (⟨#[48, 46]⟩ : ByteArray) ++ mk low ++ (⟨#[101]⟩ : ByteArray) = mk ([48, 46] ++ low ++ [101]) := by
    show mk [48, 46] ++ mk low ++ mk [101] = _
    rw [g1, g1]
   have p2 : (⟨#[48, 46]⟩ : ByteArray) ++ mk upl ++ (⟨#[101]⟩ : ByteArray) = mk ([48, 46] ++ upl ++ [101]) := by
    show mk [48, 46] ++ mk upl ++ mk [101] = _
    rw [g1, g1]
   have p3 : (⟨#[48, 46]⟩ : ByteArray) ++ mk ds ++ (⟨#[101]⟩ : ByteArray) = mk ([48, 46] ++ ds ++ [101]) := by
    show mk [48, 46] ++ mk ds ++ mk [101] = _
    rw [g1, g1]
   have q1 : (⟨#[48, 46]⟩ : ByteArray) ++ mk low = mk ([48, 46] ++ low) := g1 [48, 46] low
   have q2 : (⟨#[48, 46]⟩ : ByteArray) ++ mk upl = mk ([48, 46] ++ upl) := g1 [48, 46] upl
   have q3 : (⟨#[48, 46]⟩ : ByteArray) ++ mk ds = mk ([48, 46] ++ ds) := g1 [48, 46] ds
   have q4 : ∀ l : List UInt8, mk l ++ (⟨#[101]⟩ : ByteArray) = mk (l ++ [101]) := fun l => g1 l [101]
   have hE1l := hE1.1
   have hE2l := hE2.1
   refine Runs.yes (by rw [mk_size]; omega) (Runs.bind (Runs.pure _) ?_)
   refine Runs.yes (by rw [q1, mk_size]; simp; omega) (Runs.bind (Runs.pure _) (Runs.bind (hT1 ▸ Runs.pure _) ?_))
   refine Runs.yes (by rw [p1, mk_size, mk_size]; simp; omega) (Runs.bind (by rw [p1, g1]; exact ra) ?_)
   refine Runs.bind (by rw [times_mk low (by omega), ← hup]; exact Runs.pure _) ?_
   refine Runs.yes (by rw [mk_size]; omega) (Runs.bind (Runs.pure _) ?_)
   refine Runs.yes (by rw [q2, mk_size]; simp; omega) (Runs.bind (Runs.pure _) ?_)
   have hexp : wrap64 (wrap64 (x + ((mk upl).size : Int)) - ((mk low).size : Int)) = x + upl.length - n := by
    rw [mk_size, mk_size, hll, w64 (n := x + (upl.length : Int)) (by omega) (by omega), w64 (by omega) (by omega)]
   refine Runs.bind (by rw [hexp, hT2]; exact Runs.pure _) ?_
   refine Runs.yes (by rw [p2, mk_size, mk_size]; simp; omega) (Runs.bind (by rw [p2, g1]; exact rb) ?_)
   refine Runs.yes (by omega) (Runs.bind (Runs.pure _) ?_)
   refine Runs.yes (by rw [q3, mk_size]; simp; omega) (Runs.bind (Runs.pure _) (Runs.bind (hT1 ▸ Runs.pure _) ?_))
   refine Runs.yes (by rw [p3, mk_size, mk_size]; simp; omega) (Runs.bind (by rw [p3, g1]; exact rc) ?_)
   refine Runs.yes rfl (Runs.yes rfl (Runs.yes rfl (Runs.bind (bits_ne ha ▸ Runs.pure _) (Runs.no Bool.false_ne_true (Runs.bind (bits_ne hbK ▸ Runs.pure _) (Runs.no Bool.false_ne_true (Runs.bind (bits_eq K ▸ Runs.pure _) (Runs.yes rfl ?_))))))))
   exact Runs.yes (order_lt na.le nk.le (by omega)) (Runs.yes (order_gt nb.le nk.le (by omega)) h)
theorem law_shortest : w_NumShortest.Pure := by
 intro l0 _ hl hw
 have hwf : ∀ x ∈ l0, 0 ≤ x ∧ x < 18446744073709551616 := by
  intro x hx
  have := hw x hx
  simp [Lit.wf, IntKind.min, IntKind.max, IntKind.signed, IntKind.bits] at this
  omega
 have last : ∀ x : Int, Runs (fun k => w_NumShortest.j1 k l0 x false) true := by
  intro x
  refine Runs.suc ?_
  simp only [w_NumShortest.j1]
  exact Runs.no (by decide) (Runs.bind wakes_runs (Runs.pure _))
 have loop : ∀ (d i : Nat), i + d = 60 → Runs (fun k => w_NumShortest.l0 k l0 (i : Int)) true := by
  intro d
  induction d with
  | zero =>
   intro i hi
   refine Runs.suc ?_
   simp only [w_NumShortest.l0]
   rw [decide_eq_false (show ¬ ((i : Int) < 60) by omega)]
   by_cases h : i < l0.length
   ·
    exact Runs.yes (by omega) (last _)
   ·
    exact Runs.no (by omega) (last _)
  | succ d ih =>
   intro i hi
   refine Runs.suc ?_
   simp only [w_NumShortest.l0]
   by_cases h : i < l0.length
   ·
    rw [decide_eq_true (show ((i : Int) < 60) by omega)]
    have hx := hwf l0[i] (List.getElem_mem h)
    obtain ⟨X, hX⟩ := Int.eq_ofNat_of_zero_le hx.1
    exact Runs.yes (by omega) (shortest_one l0 i h (by omega) X hX (by omega) (ih (i + 1) (by omega)))
   ·
    exact Runs.no (by omega) (last _)
 have main : Runs (fun k => w_NumShortest.f k l0) true := by
  simp only [w_NumShortest.f]
  exact loop 60 0 (by omega)
 obtain ⟨K, hK⟩ := main
 exact ⟨K, hK K (Nat.le_refl _)⟩
end Go.Proofs.YtjlnfnfdibfniaaDoor.Pl
namespace Go.Proofs.YtjlnfnfdibfniaaDoor.numShortest
open Go.ChangeShapes Go.WideShapes Go.ChangeAt Go.RowKit
open Go.ChangeMaps (open_string shut_string)
set_option linter.unusedVariables false
theorem own : ownKnob Tryd.prog.godebug = none := by kernel_rfl
theorem laidOut : laidOutB Tryd.prog = true := by kernel_rfl
def IsRow (k : IntKind) (w : World) (a : Option Addr) (len cap : Nat) (zs : List Int) : Prop :=
  (a = none ∧ len = 0 ∧ cap = 0 ∧ zs = []) ∨
  ∃ x, a = some x ∧ len ≤ cap ∧ cap ≤ maxLen ∧ zs.length = cap ∧ (∀ i, i < zs.length → w.cell? (x.add i) = some (.int k (zs.getD i 0))) ∧ ∀ n ∈ zs, (Lit.int k n).wf = true
set_option maxRecDepth 100000 in
theorem lifted (os : Os) (started : os.Started) (H : Type) (enc : TypeId × Value → H) :
    ReturnsInHanded {} Tryd.checked os 7 .any (fun w args => (Rows.numShortestSpec.pre enc Tryd.prog Tryd.f7 [] false w args ∧ laidMetH Tryd.prog Rows.numShortestRow.laid w) ∧ sizedMet enc Tryd.prog Tryd.f7 (OpenSpec.ofChange Rows.numShortestSpec) false w args)
      (Rows.numShortestSpec.post enc Tryd.prog Tryd.f7 false true false false) := by
  refine returnsInHanded_of_change_and (C := Tryd.checked) (X := fun w _ => laidMetH Tryd.prog Rows.numShortestRow.laid w) (fun _ _ _ hh h => h.of_heap hh) own started (by kernel_rfl) Tryd.func7
    (ChangeSpec.witness_shaped (enc := enc) (C := Tryd.checked) (os := os) (X := fun w _ => laidMetH Tryd.prog Rows.numShortestRow.laid w) false (World.laidAll Tryd.prog os Rows.numShortestRow.laid) #[.slice none 0 0] 8 (World.laidAll_os _ _ _)
      (World.shaped_of_ZipB (by kernel_rfl) (by kernel_rfl)) (by kernel_rfl) (by kernel_rfl) (by kernel_rfl)
      (by rw [MakeChecks.laidMetH_plain _ _ _ (by kernel_rfl)]; exact laidMet_laidAll _ (by kernel_rfl) (by kernel_rfl))) ?_
  intro W base args ds gs before hval0 hW _ hsz0 _ _
  have hsz : (DataW.weightsEach Tryd.prog (Tryd.f7.params.toList ++ Rows.numShortestSpec.plain.varTypes Tryd.prog) (ds ++ gs)).all (· ≤ reachBytes) = true := hsz0
  have hval : ∀ (j : Nat) t v, Tryd.f7.params[j]? = some t → args[j]? = some v → Value.okWide Tryd.prog W .any base t v := hval0
  have hW' := hW
  obtain ⟨p, q, hA0, hV, rfl, _, _⟩ := hW
  have hA : DataW.TrodAll enc Tryd.prog W 0 (fun _ => true) true Tryd.f7.params.toList args.toList ds p := hA0
  rw [Tryd.params7] at hA hval hsz
  obtain ⟨v0, vs0, d0, ds0, p0, q0, hargs, rfl, rfl, h0, r0⟩ := trodAll_cons hA
  obtain ⟨rfl, rfl, rfl⟩ := trodAll_nil r0
  obtain rfl : args = #[v0] := by cases args; simp_all
  obtain ⟨rfl, rfl⟩ := trodVars_none hV
  obtain ⟨a0, len0, cap0, rfl⟩ := okWide_slice Tryd.underlying22 (hval 0 22 v0 rfl rfl)
  have k0 := h0
  have lt0 : ∀ x ∈ p0, x.block < W.heap.size := by obtain ⟨m, hm⟩ := k0; exact DataW.trod_lt m _ _ _ hm
  obtain ⟨z0, w0⟩ : ∃ zs, IsRow .u64 W a0 len0 cap0 zs := by
    obtain ⟨fuel, hf⟩ := h0
    rcases open_ints Tryd.underlying22 Tryd.underlying25 (by kernel_rfl) hf with ⟨hcs, _⟩ | ⟨x, l, c, zs, hcs, _, hl, hm, hz, _, hcell, hwz⟩
    · simp [Value.cells] at hcs
      obtain ⟨rfl, rfl, rfl⟩ := hcs
      exact ⟨[], .inl ⟨rfl, rfl, rfl, rfl⟩⟩
    · simp [Value.cells] at hcs
      obtain ⟨rfl, rfl, rfl⟩ := hcs
      exact ⟨zs, .inr ⟨_, rfl, hl, hm, by simpa using hz, hcell, hwz⟩⟩
  have y0 : len0 * 8 ≤ 140737488351232 := Go.Proofs.YtjlnfnfdibfniaaDoorW.PrintWords.sized_ints hsz (j := 0) (t := 22) rfl rfl Tryd.underlying22 Tryd.underlying25 (by kernel_rfl) (by kernel_rfl) h0
  clear hA0 hval0 hsz0 hsz
  refine (F.w_NumShortest.walk Pl.law_shortest a0 len0 cap0 z0 W w0 y0).mono fun e W' ⟨he, bel⟩ => ?_
  subst he
  exact ⟨_, rfl, _, _, _, [], _, [], hW', trodAll_mk1 (shut_bool Tryd.underlying4 _), (trodAll_cons_mk (Below.trod laidOut (by kernel_rfl) (of_decide_eq_true (by kernel_rfl)) k0 bel lt0) trodAll_mk0), rfl, bel.frame _, fun h => by cases h⟩
theorem over : Rows.numShortestRow.holds Tryd.pinned (OpenSpec.ofChange Rows.numShortestSpec) :=
  OpenClaim.holds_of_wide 7 Tryd.f7 rfl rfl rfl rfl rfl rfl rfl ⟨rfl, rfl, rfl, rfl, rfl⟩ rfl rfl rfl rfl rfl (by kernel_rfl) Tryd.func7 (by kernel_rfl)
    (of_decide_eq_true (by kernel_rfl)) (by unfold Func.isWrapper; first | (rw [if_pos (by decide +kernel)]; kernel_rfl) | (rw [if_neg (by decide +kernel)]; exact ⟨rfl, rfl⟩))
    (fun os started H enc _ => lifted os started H enc)
theorem card_holds : Rows.NumShortestCardSaid :=
  Claim7.holds_tied_plain_at .later [] [.data, .pinned] true (true, "a90acdf829413157ef6e6e8aea78a484b42a66cc9924c82fc4fb50f94bff3414") false over (fun _ h => by cases h) (by kernel_rfl) (fun _ h => by cases h) numShortest_row_tie rfl ⟨rfl, rfl⟩ (by kernel_rfl) rfl
    (fun f fn hf hfn => by
      obtain rfl : f = 7 := Option.some.inj ((show Tryd.prog.funcNamed "vigil/vigillaw03.NumShortest" = some 7 by kernel_rfl).symm.trans hf) |>.symm
      obtain rfl : fn = Tryd.f7 := (Option.some.inj (Tryd.func7.symm.trans hfn)).symm
      exact ⟨by kernel_rfl, fun j t ht => by
        rw [Tryd.params7] at ht
        have hm : t ∈ [22] := by have h_ := Array.mem_of_getElem? ht; simp at h_ ⊢; omega
        have hall : ([22].all fun u => !Tryd.prog.wantsStandIn u) = true := by kernel_rfl
        exact (show Tryd.prog.wantsStandIn t = false by simpa using List.all_eq_true.1 hall t hm)⟩)
    (by kernel_rfl)
#print axioms card_holds
end Go.Proofs.YtjlnfnfdibfniaaDoor.numShortest
namespace Go.Proofs.YtjlnfnfdibfniaaDoor
theorem numShortest_card : Rows.NumShortestCardSaid := numShortest.card_holds
end Go.Proofs.YtjlnfnfdibfniaaDoor

