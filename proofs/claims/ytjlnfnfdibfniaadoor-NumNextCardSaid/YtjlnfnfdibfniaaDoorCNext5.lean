/- The law vigillaw03.NumNext returns true at every two words of 64 bits: num.Next goes to the next float of the row of all floats, as the reference's Next does, num.Same tells bit by bit, and nothing lies between a float and its next one; the listed variables are as the program's text lays them, and each argument reads as it did. -/
import Derived.Test.YtjlnfnfdibfniaaDoorCNext4
import Derived.Laws.IdiomStrings
import Derived.Outline
import Derived.KernelRfl
import Derived.Test.YtjlnfnfdibfniaaDoorRows
import Derived.Test.YtjlnfnfdibfniaaDoorCards
import Derived.Test.YtjlnfnfdibfniaaDoorTie
import Derived.WalkKit
import Derived.ProofKit
import Derived.OpenShut
import Derived.ChangeOld
import Derived.Below
import Derived.SizedLaws
import Derived.Lay
import Derived.LaidOnce
import Derived.SevenTiedAt
-- Written by a program of this session (wip/vprint.py): Lean checks it.
namespace Go.Proofs.YtjlnfnfdibfniaaDoor.F
open Go.RowKit Go.Proofs.YtjlnfnfdibfniaaDoorW.PrintWords Go.Proofs.YtjlnfnfdibfniaaDoorW.PrintLast Go.Proofs.YtjlnfnfdibfniaaDoorW.PrintMore
attribute [local go_sem] max2_int min2_int max_two min_two max_three min_three max_four min_four   -- for this text's walks alone
set_option linter.unusedVariables false
set_option linter.unusedSimpArgs false

/-! ### num_decimal_bits: function 67 -/
mutual
def num_decimal_bits.j0 : Nat → Int → Bool → ByteArray → Int → Option (Int)
 | 0, _, _, _, _ => none
 | k + 1, x3, x17, x570000, x570001 => if x17 = true then (some 0) else (if x3 > 310 then (some 9218868437227405312) else (num_decimal_bits.l0 k ([] : List Int) (x570000.size : Int) 0 x570000 x570001))
def num_decimal_bits.l0 : Nat → List Int → Int → Int → ByteArray → Int → Option (Int)
 | 0, _, _, _, _, _ => none
 | k + 1, x4, x30, x31, x570000, x570001 => if x31 < x30 then (if 0 ≤ x31 then (if x31 < (x570000.size : Int) then ((num_nat_times.f k x4 10 (((bt x570000 x31) - 48) % 256)).bind fun t570 => (num_decimal_bits.l0 k t570 x30 (wrap64 (x31 + 1)) x570000 x570001)) else (none)) else (none)) else ((num_of.f k 1).bind fun t573 => (if x570001 ≥ 0 then ((num_nat_tens.f k x4 x570001).bind fun t576 => (num_decimal_bits.j2 k t576 t573)) else ((num_nat_tens.f k t573 (wrap64 (-x570001))).bind fun t579 => (num_decimal_bits.j2 k x4 t579))))
def num_decimal_bits.j2 : Nat → List Int → List Int → Option (Int)
 | 0, _, _ => none
 | k + 1, x4, x6 => (num_nat_size.f x4).bind fun t582 => ((num_nat_size.f x6).bind fun t583 => (if (wrap64 (56 - (wrap64 (t582 - t583)))) ≥ 0 then ((num_nat_up.f k x4 (wrap64 (56 - (wrap64 (t582 - t583))))).bind fun t584 => (num_decimal_bits.j3 k t584 x6 (wrap64 (56 - (wrap64 (t582 - t583)))))) else ((num_nat_up.f k x6 (wrap64 (-(wrap64 (56 - (wrap64 (t582 - t583))))))).bind fun t587 => (num_decimal_bits.j3 k x4 t587 (wrap64 (56 - (wrap64 (t582 - t583))))))))
def num_decimal_bits.j3 : Nat → List Int → List Int → Int → Option (Int)
 | 0, _, _, _ => none
 | k + 1, x4, x6, x7 => num_decimal_bits.l1 k x4 x6 x7 0 57
def num_decimal_bits.l1 : Nat → List Int → List Int → Int → Int → Int → Option (Int)
 | 0, _, _, _, _, _ => none
 | k + 1, x4, x6, x7, x8, x9 => if x9 ≥ 0 then ((num_nat_up.f k x6 x9).bind fun t591 => ((num_nat_against.f k x4 t591).bind fun t594 => (if t594 ≥ 0 then ((num_nat_less.f k x4 t591).bind fun t595 => (if 0 ≤ x9 then (num_decimal_bits.l1 k t595 x6 x7 (Go.bits .or .u64 x8 (shl .u64 1 x9)) (wrap64 (x9 - 1))) else (none))) else (num_decimal_bits.l1 k x4 x6 x7 x8 (wrap64 (x9 - 1)))))) else ((num_nearest.f k x8 (wrap64 (-x7)) (decide (0 < x4.length))).bind fun t590 => (some t590))
end
def num_decimal_bits.f (k : Nat) (a0_0 : ByteArray) (a0_1 : Int) : Option (Int) := if a0_0.toList = ([] : List UInt8) then (num_decimal_bits.j0 k (wrap64 ((a0_0.size : Int) + a0_1)) true a0_0 a0_1) else (num_decimal_bits.j0 k (wrap64 ((a0_0.size : Int) + a0_1)) (decide ((wrap64 ((a0_0.size : Int) + a0_1)) < (-330))) a0_0 a0_1)
theorem num_decimal_bits.mono_l : ∀ k, (∀ y0 y1 y2 y3, LeO (num_decimal_bits.j0 k y0 y1 y2 y3) (num_decimal_bits.j0 (k + 1) y0 y1 y2 y3)) ∧ (∀ y0 y1 y2 y3 y4, LeO (num_decimal_bits.l0 k y0 y1 y2 y3 y4) (num_decimal_bits.l0 (k + 1) y0 y1 y2 y3 y4)) ∧ (∀ y0 y1, LeO (num_decimal_bits.j2 k y0 y1) (num_decimal_bits.j2 (k + 1) y0 y1)) ∧ (∀ y0 y1 y2, LeO (num_decimal_bits.j3 k y0 y1 y2) (num_decimal_bits.j3 (k + 1) y0 y1 y2)) ∧ (∀ y0 y1 y2 y3 y4, LeO (num_decimal_bits.l1 k y0 y1 y2 y3 y4) (num_decimal_bits.l1 (k + 1) y0 y1 y2 y3 y4))
 | 0 => ⟨fun _ _ _ _ r h => by simp [num_decimal_bits.j0] at h, fun _ _ _ _ _ r h => by simp [num_decimal_bits.l0] at h, fun _ _ r h => by simp [num_decimal_bits.j2] at h, fun _ _ _ r h => by simp [num_decimal_bits.j3] at h, fun _ _ _ _ _ r h => by simp [num_decimal_bits.l1] at h⟩
 | k + 1 => by
  obtain ⟨ih0, ih1, ih2, ih3, ih4⟩ := num_decimal_bits.mono_l k
  refine ⟨?_, ?_, ?_, ?_, ?_⟩
  ·
   intro y0 y1 y2 y3
   unfold num_decimal_bits.j0
   repeat' first
   | (with_reducible exact ih0 _ _ _ _)
   | (with_reducible exact ih1 _ _ _ _ _)
   | (with_reducible exact ih2 _ _)
   | (with_reducible exact ih3 _ _ _)
   | (with_reducible exact ih4 _ _ _ _ _)
   | (with_reducible exact num_nat_against.mono _ _ _)
   | (with_reducible exact num_nat_less.mono _ _ _)
   | (with_reducible exact num_nat_tens.mono _ _ _)
   | (with_reducible exact num_nat_times.mono _ _ _ _)
   | (with_reducible exact num_nat_up.mono _ _ _)
   | (with_reducible exact num_nearest.mono _ _ _ _)
   | (with_reducible exact num_of.mono _ _)
   | (with_reducible exact LeO.refl _)
   | (with_reducible exact LeO.none _)
   | (with_reducible refine LeO.ite ?_ ?_)
   | (with_reducible refine LeO.bind ?_ (fun _ => ?_))
   | exact ih0 _ _ _ _
   | exact ih1 _ _ _ _ _
   | exact ih2 _ _
   | exact ih3 _ _ _
   | exact ih4 _ _ _ _ _
   | exact num_nat_against.mono _ _ _
   | exact num_nat_less.mono _ _ _
   | exact num_nat_tens.mono _ _ _
   | exact num_nat_times.mono _ _ _ _
   | exact num_nat_up.mono _ _ _
   | exact num_nearest.mono _ _ _ _
   | exact num_of.mono _ _
   | exact LeO.none _
   | refine LeO.ite ?_ ?_
   | refine LeO.bind ?_ (fun _ => ?_)
  ·
   intro y0 y1 y2 y3 y4
   unfold num_decimal_bits.l0
   repeat' first
   | (with_reducible exact ih0 _ _ _ _)
   | (with_reducible exact ih1 _ _ _ _ _)
   | (with_reducible exact ih2 _ _)
   | (with_reducible exact ih3 _ _ _)
   | (with_reducible exact ih4 _ _ _ _ _)
   | (with_reducible exact num_nat_against.mono _ _ _)
   | (with_reducible exact num_nat_less.mono _ _ _)
   | (with_reducible exact num_nat_tens.mono _ _ _)
   | (with_reducible exact num_nat_times.mono _ _ _ _)
   | (with_reducible exact num_nat_up.mono _ _ _)
   | (with_reducible exact num_nearest.mono _ _ _ _)
   | (with_reducible exact num_of.mono _ _)
   | (with_reducible exact LeO.refl _)
   | (with_reducible exact LeO.none _)
   | (with_reducible refine LeO.ite ?_ ?_)
   | (with_reducible refine LeO.bind ?_ (fun _ => ?_))
   | exact ih0 _ _ _ _
   | exact ih1 _ _ _ _ _
   | exact ih2 _ _
   | exact ih3 _ _ _
   | exact ih4 _ _ _ _ _
   | exact num_nat_against.mono _ _ _
   | exact num_nat_less.mono _ _ _
   | exact num_nat_tens.mono _ _ _
   | exact num_nat_times.mono _ _ _ _
   | exact num_nat_up.mono _ _ _
   | exact num_nearest.mono _ _ _ _
   | exact num_of.mono _ _
   | exact LeO.none _
   | refine LeO.ite ?_ ?_
   | refine LeO.bind ?_ (fun _ => ?_)
  ·
   intro y0 y1
   unfold num_decimal_bits.j2
   repeat' first
   | (with_reducible exact ih0 _ _ _ _)
   | (with_reducible exact ih1 _ _ _ _ _)
   | (with_reducible exact ih2 _ _)
   | (with_reducible exact ih3 _ _ _)
   | (with_reducible exact ih4 _ _ _ _ _)
   | (with_reducible exact num_nat_against.mono _ _ _)
   | (with_reducible exact num_nat_less.mono _ _ _)
   | (with_reducible exact num_nat_tens.mono _ _ _)
   | (with_reducible exact num_nat_times.mono _ _ _ _)
   | (with_reducible exact num_nat_up.mono _ _ _)
   | (with_reducible exact num_nearest.mono _ _ _ _)
   | (with_reducible exact num_of.mono _ _)
   | (with_reducible exact LeO.refl _)
   | (with_reducible exact LeO.none _)
   | (with_reducible refine LeO.ite ?_ ?_)
   | (with_reducible refine LeO.bind ?_ (fun _ => ?_))
   | exact ih0 _ _ _ _
   | exact ih1 _ _ _ _ _
   | exact ih2 _ _
   | exact ih3 _ _ _
   | exact ih4 _ _ _ _ _
   | exact num_nat_against.mono _ _ _
   | exact num_nat_less.mono _ _ _
   | exact num_nat_tens.mono _ _ _
   | exact num_nat_times.mono _ _ _ _
   | exact num_nat_up.mono _ _ _
   | exact num_nearest.mono _ _ _ _
   | exact num_of.mono _ _
   | exact LeO.none _
   | refine LeO.ite ?_ ?_
   | refine LeO.bind ?_ (fun _ => ?_)
  ·
   intro y0 y1 y2
   unfold num_decimal_bits.j3
   repeat' first
   | (with_reducible exact ih0 _ _ _ _)
   | (with_reducible exact ih1 _ _ _ _ _)
   | (with_reducible exact ih2 _ _)
   | (with_reducible exact ih3 _ _ _)
   | (with_reducible exact ih4 _ _ _ _ _)
   | (with_reducible exact num_nat_against.mono _ _ _)
   | (with_reducible exact num_nat_less.mono _ _ _)
   | (with_reducible exact num_nat_tens.mono _ _ _)
   | (with_reducible exact num_nat_times.mono _ _ _ _)
   | (with_reducible exact num_nat_up.mono _ _ _)
   | (with_reducible exact num_nearest.mono _ _ _ _)
   | (with_reducible exact num_of.mono _ _)
   | (with_reducible exact LeO.refl _)
   | (with_reducible exact LeO.none _)
   | (with_reducible refine LeO.ite ?_ ?_)
   | (with_reducible refine LeO.bind ?_ (fun _ => ?_))
   | exact ih0 _ _ _ _
   | exact ih1 _ _ _ _ _
   | exact ih2 _ _
   | exact ih3 _ _ _
   | exact ih4 _ _ _ _ _
   | exact num_nat_against.mono _ _ _
   | exact num_nat_less.mono _ _ _
   | exact num_nat_tens.mono _ _ _
   | exact num_nat_times.mono _ _ _ _
   | exact num_nat_up.mono _ _ _
   | exact num_nearest.mono _ _ _ _
   | exact num_of.mono _ _
   | exact LeO.none _
   | refine LeO.ite ?_ ?_
   | refine LeO.bind ?_ (fun _ => ?_)
  ·
   intro y0 y1 y2 y3 y4
   unfold num_decimal_bits.l1
   repeat' first
   | (with_reducible exact ih0 _ _ _ _)
   | (with_reducible exact ih1 _ _ _ _ _)
   | (with_reducible exact ih2 _ _)
   | (with_reducible exact ih3 _ _ _)
   | (with_reducible exact ih4 _ _ _ _ _)
   | (with_reducible exact num_nat_against.mono _ _ _)
   | (with_reducible exact num_nat_less.mono _ _ _)
   | (with_reducible exact num_nat_tens.mono _ _ _)
   | (with_reducible exact num_nat_times.mono _ _ _ _)
   | (with_reducible exact num_nat_up.mono _ _ _)
   | (with_reducible exact num_nearest.mono _ _ _ _)
   | (with_reducible exact num_of.mono _ _)
   | (with_reducible exact LeO.refl _)
   | (with_reducible exact LeO.none _)
   | (with_reducible refine LeO.ite ?_ ?_)
   | (with_reducible refine LeO.bind ?_ (fun _ => ?_))
   | exact ih0 _ _ _ _
   | exact ih1 _ _ _ _ _
   | exact ih2 _ _
   | exact ih3 _ _ _
   | exact ih4 _ _ _ _ _
   | exact num_nat_against.mono _ _ _
   | exact num_nat_less.mono _ _ _
   | exact num_nat_tens.mono _ _ _
   | exact num_nat_times.mono _ _ _ _
   | exact num_nat_up.mono _ _ _
   | exact num_nearest.mono _ _ _ _
   | exact num_of.mono _ _
   | exact LeO.none _
   | refine LeO.ite ?_ ?_
   | refine LeO.bind ?_ (fun _ => ?_)
theorem num_decimal_bits.mono : ∀ a0 a1 k, LeO (num_decimal_bits.f k a0 a1) (num_decimal_bits.f (k + 1) a0 a1) := by
 intro a0 a1 k
 obtain ⟨ih0, ih1, ih2, ih3, ih4⟩ := num_decimal_bits.mono_l k
 unfold num_decimal_bits.f
 repeat' first
   | (with_reducible exact ih0 _ _ _ _)
   | (with_reducible exact ih1 _ _ _ _ _)
   | (with_reducible exact ih2 _ _)
   | (with_reducible exact ih3 _ _ _)
   | (with_reducible exact ih4 _ _ _ _ _)
   | (with_reducible exact num_nat_against.mono _ _ _)
   | (with_reducible exact num_nat_less.mono _ _ _)
   | (with_reducible exact num_nat_tens.mono _ _ _)
   | (with_reducible exact num_nat_times.mono _ _ _ _)
   | (with_reducible exact num_nat_up.mono _ _ _)
   | (with_reducible exact num_nearest.mono _ _ _ _)
   | (with_reducible exact num_of.mono _ _)
   | (with_reducible exact LeO.refl _)
   | (with_reducible exact LeO.none _)
   | (with_reducible refine LeO.ite ?_ ?_)
   | (with_reducible refine LeO.bind ?_ (fun _ => ?_))
   | exact ih0 _ _ _ _
   | exact ih1 _ _ _ _ _
   | exact ih2 _ _
   | exact ih3 _ _ _
   | exact ih4 _ _ _ _ _
   | exact num_nat_against.mono _ _ _
   | exact num_nat_less.mono _ _ _
   | exact num_nat_tens.mono _ _ _
   | exact num_nat_times.mono _ _ _ _
   | exact num_nat_up.mono _ _ _
   | exact num_nearest.mono _ _ _ _
   | exact num_of.mono _ _
   | exact LeO.none _
   | refine LeO.ite ?_ ?_
   | refine LeO.bind ?_ (fun _ => ?_)
set_option maxHeartbeats 8000000 in
set_option maxRecDepth 100000 in
theorem num_decimal_bits.calls (k : Nat) (a0_0 : ByteArray) (a0_1 : Int) (r : Int) (w : World) (h : num_decimal_bits.f k a0_0 a0_1 = some r) :
  Calls Tryd.prog 67 #[.agg #[.string a0_0, .int .i64 a0_1]] w fun e w' => e = .returned (.int .u64 r) ∧ Below w.heap.size w w' := by
 have hu79 := Tryd.underlying79
 have HB := Aside0.mk (Below.refl w.heap.size w)
 have H : (if a0_0.toList = ([] : List UInt8) then (num_decimal_bits.j0 k (wrap64 ((a0_0.size : Int) + a0_1)) true a0_0 a0_1) else (num_decimal_bits.j0 k (wrap64 ((a0_0.size : Int) + a0_1)) (decide ((wrap64 ((a0_0.size : Int) + a0_1)) < (-330))) a0_0 a0_1)) = some r := h
 clear h
 have HC2 := Aside0.mk H
 clear H
 go_enter Tryd.func67, Tryd.ntmps67
 go_upto_region 2 with (first | ((with_reducible refine gate_dst (N := 1) rfl ?_); refine box_event ?hg (N := 1) ?hd (cs := #[.string a0_0, .int .i64 a0_1]) (t := 79) ?hr ?_; (case hd => rfl); (case hg => rfl); (case hr => first | (go_simp; done) | (go_simp; rfl)); intro gb569 hg w3 hbox hb; have n0_ := Aside0.mk (below_step (by repeat (first | (with_reducible first | exact HB.out | apply below_alloc | apply pw_below_drewN | apply below_drew1) | exact HB.out)) hb); have n1_ := Aside0.mk (hbox); have n2_ := Aside0.mk ((by rw [hg]; exact (below_size (by repeat (first | (with_reducible first | exact HB.out | apply below_alloc | apply pw_below_drewN | apply below_drew1) | exact HB.out))) : w.heap.size ≤ gb569)); have n3_ := Aside0.mk ((by rw [hg]; exact (below_size (by repeat (first | (with_reducible first | exact HB.out | apply below_alloc | apply pw_below_drewN | apply below_drew1) | exact HB.out))) : w.heap.size ≤ gb569)); clear HB; have HB := n0_; have BK569 := n1_; have GW569 := n2_; have GE569 := n3_; clear n0_ n1_ n2_ n3_; clear hb hbox hg; have hcz4_0 : w3.cell? ⟨gb569, 0, none⟩ = some (.string a0_0) := (blk_cell BK569.out 0).trans rfl; have hcz4_1 : w3.cell? ⟨gb569, 1, none⟩ = some (.int .i64 a0_1) := (blk_cell BK569.out 1).trans rfl; have hfz4_0 := blk_frozen BK569.out 0; have hfz4_1 := blk_frozen BK569.out 1))
 (try simp only [Act.put, List.setIfInBounds_toArray, List.set_cons_zero, List.set_cons_succ])
 go_cut [17] (fun v17 wc => ∃ (kq : Nat) (x17_1 : Bool), v17 = .bool x17_1 ∧ Aside0 (num_decimal_bits.j0 kq (wrap64 ((a0_0.size : Int) + a0_1)) x17_1 a0_0 a0_1 = some r) ∧ Aside0 (kq ≤ k) ∧ Aside0 (wc.heap[gb569]? = some (.cells #[.string a0_0, .int .i64 a0_1] 79 (0, 0))) ∧ Aside0 (Below w.heap.size w wc))
 case first =>
  have H := HC2.out
  clear HC2
  by_cases c5 : a0_0.toList = ([] : List UInt8)
  ·
   rw [if_pos c5] at H
   have c5b0 : (a0_0.toList == ([] : List UInt8)) = true := beq_iff_eq.mpr c5
   have c5b1 : (a0_0.toList != ([] : List UInt8)) = false := bne_eq_false_iff_eq.mpr c5
   clear c5
   (first | rw [c5b0] | (simp only [i64_w, i32_w]; rw [c5b0]) | skip)
   have H' := Aside0.mk H
   clear H
   have hcz6_0 : w3.cell? ⟨gb569, 0, none⟩ = some (.string a0_0) := (blk_cell BK569.out 0).trans rfl
   have hcz6_1 : w3.cell? ⟨gb569, 1, none⟩ = some (.int .i64 a0_1) := (blk_cell BK569.out 1).trans rfl
   have hfz6_0 := blk_frozen BK569.out 0
   have hfz6_1 := blk_frozen BK569.out 1
   go_wp2
   go_meet
   case rel => exact ⟨_, (true), (by first | rfl | (simp; done) | (simp [*]; done)), H', ⟨by first | omega | exact Nat.le_refl _⟩, ⟨by (with_reducible repeat (first | refine blk_drewN ?_ _ | refine blk_drew ?_ | refine blk_alloc ?_ _)); exact BK569.out⟩, ⟨by repeat (first | (with_reducible first | exact HB.out | apply below_alloc | apply pw_below_drewN | apply below_drew1 | refine below_set ?_ GE569.out) | exact HB.out)⟩⟩
  ·
   rw [if_neg c5] at H
   have c5b0 : (a0_0.toList == ([] : List UInt8)) = false := beq_eq_false_iff_ne.mpr c5
   have c5b1 : (a0_0.toList != ([] : List UInt8)) = true := bne_iff_ne.mpr c5
   (first | rw [c5b0] | (simp only [i64_w, i32_w]; rw [c5b0]) | skip)
   have H' := Aside0.mk H
   clear H
   have hcz7_0 : w3.cell? ⟨gb569, 0, none⟩ = some (.string a0_0) := (blk_cell BK569.out 0).trans rfl
   have hcz7_1 : w3.cell? ⟨gb569, 1, none⟩ = some (.int .i64 a0_1) := (blk_cell BK569.out 1).trans rfl
   have hfz7_0 := blk_frozen BK569.out 0
   have hfz7_1 := blk_frozen BK569.out 1
   go_wp2
   go_meet
   case rel => exact ⟨_, (decide ((wrap64 ((a0_0.size : Int) + a0_1)) < (-330))), (by first | rfl | (simp; done) | (simp [*]; done)), H', ⟨by first | omega | exact Nat.le_refl _⟩, ⟨by (with_reducible repeat (first | refine blk_drewN ?_ _ | refine blk_drew ?_ | refine blk_alloc ?_ _)); exact BK569.out⟩, ⟨by repeat (first | (with_reducible first | exact HB.out | apply below_alloc | apply pw_below_drewN | apply below_drew1 | refine below_set ?_ GE569.out) | exact HB.out)⟩⟩
 case rest =>
  clear HC2
  try clear p2
  try clear c5
  try clear c5b0
  try clear c5b1
  try clear c6
  try clear p6
  try clear hcz4_0
  try clear hcz4_1
  try clear hcz6_0
  try clear hcz6_1
  try clear hcz7_0
  try clear hcz7_1
  try clear hfz4_0
  try clear hfz4_1
  try clear hfz6_0
  try clear hfz6_1
  try clear hfz7_0
  try clear hfz7_1
  obtain ⟨kq, x17_1, rfl, HA, HJ1, BK569, HB⟩ := hcut
  cases kq with
  | zero => exact absurd HA.out (by simp [num_decimal_bits.j0])
  | succ kj1 =>
   have H := HA.out
   clear HA
   simp only [num_decimal_bits.j0] at H
   by_cases c8 : x17_1 = true
   ·
    subst c8
    have H1 : (some 0) = some r := by rw [if_pos rfl] at H; exact H
    clear H
    have H := H1
    clear H1
    obtain rfl := Option.some.inj H
    go_wp2
    go_ret
    exact ⟨by first | rfl | (simp [errW_none, errW_some] <;> rfl) | (simp [*, errW_none, errW_some] <;> rfl), by repeat (first | (with_reducible first | exact HB.out | apply below_alloc | apply pw_below_drewN | apply below_drew1 | refine below_set ?_ GE569.out) | exact HB.out)⟩
   ·
    replace c8 := Bool.eq_false_iff.mpr c8
    subst c8
    have H1 : (if (wrap64 ((a0_0.size : Int) + a0_1)) > 310 then (some 9218868437227405312) else (num_decimal_bits.l0 kj1 ([] : List Int) (a0_0.size : Int) 0 a0_0 a0_1)) = some r := by rw [if_neg (show ¬ (false = true) by decide)] at H; exact H
    clear H
    have H := H1
    clear H1
    by_cases c9 : (wrap64 ((a0_0.size : Int) + a0_1)) > 310
    ·
     rw [if_pos c9] at H
     have c9b0 : decide (310 < (wrap64 ((a0_0.size : Int) + a0_1))) = true := decide_eq_true c9
     clear c9
     obtain rfl := Option.some.inj H
     go_wp2
     go_ret
     exact ⟨by first | rfl | (simp [errW_none, errW_some] <;> rfl) | (simp [*, errW_none, errW_some] <;> rfl), by repeat (first | (with_reducible first | exact HB.out | apply below_alloc | apply pw_below_drewN | apply below_drew1 | refine below_set ?_ GE569.out) | exact HB.out)⟩
    ·
     rw [if_neg c9] at H
     have c9b0 : decide (310 < (wrap64 ((a0_0.size : Int) + a0_1))) = false := decide_eq_false c9
     clear c9
     have H' := Aside0.mk H
     clear H
     have hcz10_0 : wc.cell? ⟨gb569, 0, none⟩ = some (.string a0_0) := (blk_cell BK569.out 0).trans rfl
     have hcz10_1 : wc.cell? ⟨gb569, 1, none⟩ = some (.int .i64 a0_1) := (blk_cell BK569.out 1).trans rfl
     have hfz10_0 := blk_frozen BK569.out 0
     have hfz10_1 := blk_frozen BK569.out 1
     go_wp2
     go_loopg [4, 31] kj1 (fun kq v4 v31 w' => ∃ (x4_2 : List Int) (x31_2 : Int), v31 = .int .i64 x31_2 ∧ Aside0 (num_decimal_bits.l0 kq x4_2 (a0_0.size : Int) x31_2 a0_0 a0_1 = some r) ∧ Aside0 (kq ≤ kj1) ∧ Aside0 (Kd.V (Kd.int .u32) 102 w' w.heap.size (fun k_ => k_ ≠ gb569) v4 x4_2) ∧ Aside0 (w'.heap[gb569]? = some (.cells #[.string a0_0, .int .i64 a0_1] 79 (0, 0))) ∧ Aside0 (Below w.heap.size w w'))
     case atStart => exact ⟨(([] : List Int)), (0), (by first | rfl | (simp; done) | (simp [*]; done)), H', ⟨Nat.le_refl _⟩, ⟨Kd.R_V (Kd.R_nil _ _ _ w.heap.size _)⟩, ⟨by (with_reducible repeat (first | refine blk_drewN ?_ _ | refine blk_drew ?_ | refine blk_alloc ?_ _)); exact BK569.out⟩, ⟨by repeat (first | (with_reducible first | exact HB.out | apply below_alloc | apply pw_below_drewN | apply below_drew1 | refine below_set ?_ GE569.out) | exact HB.out)⟩⟩
     case round =>
      clear H'
      try clear p2
      try clear c5
      try clear c5b0
      try clear c5b1
      try clear c6
      try clear p6
      try clear c8
      try clear c9
      try clear c9b0
      try clear hcz10_0
      try clear hcz10_1
      try clear hcz4_0
      try clear hcz4_1
      try clear hcz6_0
      try clear hcz6_1
      try clear hcz7_0
      try clear hcz7_1
      try clear hfz10_0
      try clear hfz10_1
      try clear hfz4_0
      try clear hfz4_1
      try clear hfz6_0
      try clear hfz6_1
      try clear hfz7_0
      try clear hfz7_1
      try clear p2
      try clear p6
      obtain ⟨x4_2, x31_2, rfl, HA, HK2, HO_4, BK569, HB⟩ := hrel
      cases gk with
      | zero => exact absurd HA.out (by simp [num_decimal_bits.l0])
      | succ k2 =>
       have H := HA.out
       clear HA
       simp only [num_decimal_bits.l0] at H
       by_cases c11 : x31_2 < (a0_0.size : Int)
       ·
        rw [if_pos c11] at H
        have c11b0 : decide (x31_2 < (a0_0.size : Int)) = true := decide_eq_true c11
        clear c11
        by_cases c12 : 0 ≤ x31_2
        ·
         rw [if_pos c12] at H
         have c12b0 : decide (0 ≤ x31_2) = true := decide_eq_true c12
         clear c12
         by_cases c13 : x31_2 < (a0_0.size : Int)
         ·
          rw [if_pos c13] at H
          have c13b0 : decide (x31_2 < (a0_0.size : Int)) = true := decide_eq_true c13
          clear c13
          replace H := Option.bind_eq_some_iff.mp H
          obtain ⟨t570, A150, H⟩ := H
          replace H : (num_decimal_bits.l0 k2 t570 (a0_0.size : Int) (wrap64 (x31_2 + 1)) a0_0 a0_1) = some r := H
          have A15 := Aside0.mk A150
          clear A150
          have H' := Aside0.mk H
          clear H
          have hcz16_0 : wr.cell? ⟨gb569, 0, none⟩ = some (.string a0_0) := (blk_cell BK569.out 0).trans rfl
          have hcz16_1 : wr.cell? ⟨gb569, 1, none⟩ = some (.int .i64 a0_1) := (blk_cell BK569.out 1).trans rfl
          have hfz16_0 := blk_frozen BK569.out 0
          have hfz16_1 := blk_frozen BK569.out 1
          have p14 : 0 ≤ (x31_2 : Int) := of_decide_eq_true (by first | (with_reducible assumption) | assumption)
          have q14 : x31_2 < (a0_0.size : Int) := of_decide_eq_true (by first | (with_reducible assumption) | assumption)
          have hx14 := bt_at a0_0 x31_2
          replace p14 := eq_true p14
          replace q14 := eq_true q14
          obtain ⟨Ao17, co17, eo17⟩ := Kd.V_slice HO_4.out
          subst eo17
          go_wp2_with (first | ((with_reducible refine gate_callee (f := 86) rfl ?_); refine goesL_ (some 41) rfl rfl Tryd.func86 (by kernel_rfl) rfl #[.slice Ao17 x4_2.length co17, .int .u32 10, .int .u32 (((bt a0_0 x31_2) - 48) % 256)] rfl (by (try simp only [List.map_toArray, List.map_cons, List.map_nil]); first | done | rfl | (simp only [List.length_drop, List.length_take]; rfl) | (simp [Act.eval, Hd.wrap_u8]; done)) ?_; (with_reducible refine (num_nat_times.calls k2 _ _ x4_2 10 (((bt a0_0 x31_2) - 48) % 256) t570 _ ?side1 ?side2 A15.out).mono ?_); (case side1 => repeat (first | exact (Kd.V_reads' HO_4.out).2.2 | (with_reducible refine Kd.C_alloc ?_ _) | (with_reducible refine Kd.C_drewN ?_ _) | (with_reducible refine Kd.C_drew ?_))); (case side2 => exact (Kd.V_reads' HO_4.out).2.1); rintro e w18 ⟨v571, rfl, ho0, hb⟩; refine ⟨_, rfl, ?_⟩; have n0_ := Aside0.mk (Kd.V_below (by (with_reducible repeat (first | apply Kd.V_alloc | apply Kd.V_drewN | apply Kd.V_drew)); exact HO_4.out) hb); have n1_ := Aside0.mk (Kd.V_lower (Kd.V_mono (ok' := fun k_ => k_ ≠ gb569) ho0 (fun k_ hk_ => (Kd.freshB (g := gb569) (o := .cells #[.string a0_0, .int .i64 a0_1] 79 (0, 0)) (by (with_reducible repeat (first | refine blk_drewN ?_ _ | refine blk_drew ?_ | refine blk_alloc ?_ _)); exact BK569.out) k_ hk_))) (below_size (by repeat (first | (with_reducible first | exact HB.out | apply below_alloc | apply pw_below_drewN | apply below_drew1 | refine below_set ?_ GE569.out) | exact HB.out)))); have n2_ := Aside0.mk (blk_below (g := gb569) (o := .cells #[.string a0_0, .int .i64 a0_1] 79 (0, 0)) (by (with_reducible repeat (first | refine blk_drewN ?_ _ | refine blk_drew ?_ | refine blk_alloc ?_ _)); exact BK569.out) hb); have n3_ := Aside0.mk (below_step (by repeat (first | (with_reducible first | exact HB.out | apply below_alloc | apply pw_below_drewN | apply below_drew1 | refine below_set ?_ GE569.out) | exact HB.out)) hb); clear HO_4; clear BK569; clear HB; have HO_4 := n0_; have HO572 := n1_; have BK569 := n2_; have HB := n3_; clear n0_ n1_ n2_ n3_; (try clear hb); (try clear hb2); (try clear hk); (try clear hi); (try clear ho0)))
          go_roundg k2
          case measure => have := HJ1.out; have := HK2.out; omega
          case rel => exact ⟨(t570), (wrap64 (x31_2 + 1)), (by first | rfl | (simp; done) | (simp [*]; done)), H', ⟨by have := HJ1.out; have := HK2.out; omega⟩, ⟨by (with_reducible repeat (first | apply Kd.V_alloc | apply Kd.V_drewN | apply Kd.V_drew)); exact HO572.out⟩, ⟨by (with_reducible repeat (first | refine blk_drewN ?_ _ | refine blk_drew ?_ | refine blk_alloc ?_ _)); exact BK569.out⟩, ⟨by repeat (first | (with_reducible first | exact HB.out | apply below_alloc | apply pw_below_drewN | apply below_drew1 | refine below_set ?_ GE569.out) | exact HB.out)⟩⟩
         ·
          rw [if_neg c13] at H
          exact absurd H (by simp)
        ·
         rw [if_neg c12] at H
         exact absurd H (by simp)
       ·
        rw [if_neg c11] at H
        have c11b0 : decide (x31_2 < (a0_0.size : Int)) = false := decide_eq_false c11
        clear c11
        replace H := Option.bind_eq_some_iff.mp H
        obtain ⟨t573, A190, H⟩ := H
        replace H : (if a0_1 ≥ 0 then ((num_nat_tens.f k2 x4_2 a0_1).bind fun t576 => (num_decimal_bits.j2 k2 t576 t573)) else ((num_nat_tens.f k2 t573 (wrap64 (-a0_1))).bind fun t579 => (num_decimal_bits.j2 k2 x4_2 t579))) = some r := H
        have A19 := Aside0.mk A190
        clear A190
        have HC20 := Aside0.mk H
        clear H
        go_upto_if 46 with (first | ((with_reducible refine gate_callee (f := 45) rfl ?_); refine goesL_ (some 43) rfl rfl Tryd.func45 (by kernel_rfl) rfl #[.int .u64 1] rfl (by (try simp only [List.map_toArray, List.map_cons, List.map_nil]); first | done | rfl | (simp only [List.length_drop, List.length_take]; rfl) | (simp [Act.eval, Hd.wrap_u8]; done)) ?_; (with_reducible refine (num_of.calls k2 1 t573 _ A19.out).mono ?_); rintro e w21 ⟨v574, rfl, ho0, hb⟩; refine ⟨_, rfl, ?_⟩; have n0_ := Aside0.mk (Kd.V_below (by (with_reducible repeat (first | apply Kd.V_alloc | apply Kd.V_drewN | apply Kd.V_drew)); exact HO_4.out) hb); have n1_ := Aside0.mk (Kd.V_lower (Kd.V_mono (ok' := fun k_ => k_ ≠ gb569) ho0 (fun k_ hk_ => (Kd.freshB (g := gb569) (o := .cells #[.string a0_0, .int .i64 a0_1] 79 (0, 0)) (by (with_reducible repeat (first | refine blk_drewN ?_ _ | refine blk_drew ?_ | refine blk_alloc ?_ _)); exact BK569.out) k_ hk_))) (below_size (by repeat (first | (with_reducible first | exact HB.out | apply below_alloc | apply pw_below_drewN | apply below_drew1 | refine below_set ?_ GE569.out) | exact HB.out)))); have n2_ := Aside0.mk (blk_below (g := gb569) (o := .cells #[.string a0_0, .int .i64 a0_1] 79 (0, 0)) (by (with_reducible repeat (first | refine blk_drewN ?_ _ | refine blk_drew ?_ | refine blk_alloc ?_ _)); exact BK569.out) hb); have n3_ := Aside0.mk (below_step (by repeat (first | (with_reducible first | exact HB.out | apply below_alloc | apply pw_below_drewN | apply below_drew1 | refine below_set ?_ GE569.out) | exact HB.out)) hb); clear HO_4; clear BK569; clear HB; have HO_4 := n0_; have HO575 := n1_; have BK569 := n2_; have HB := n3_; clear n0_ n1_ n2_ n3_; (try clear hb); (try clear hb2); (try clear hk); (try clear hi); (try clear ho0); have hcz22_0 : w21.cell? ⟨gb569, 0, none⟩ = some (.string a0_0) := (blk_cell BK569.out 0).trans rfl; have hcz22_1 : w21.cell? ⟨gb569, 1, none⟩ = some (.int .i64 a0_1) := (blk_cell BK569.out 1).trans rfl; have hfz22_0 := blk_frozen BK569.out 0; have hfz22_1 := blk_frozen BK569.out 1))
        (try simp only [Act.put, List.setIfInBounds_toArray, List.set_cons_zero, List.set_cons_succ])
        go_cut [4, 6] (fun v4 v6 wc => ∃ (kq : Nat) (x4_19 : List Int) (x6_19 : List Int), Aside0 (num_decimal_bits.j2 kq x4_19 x6_19 = some r) ∧ Aside0 (kq ≤ k2) ∧ Aside0 (Kd.V (Kd.int .u32) 102 wc w.heap.size (fun k_ => k_ ≠ gb569) v4 x4_19) ∧ Aside0 (Kd.V (Kd.int .u32) 102 wc w.heap.size (fun k_ => k_ ≠ gb569) v6 x6_19) ∧ Aside0 (wc.heap[gb569]? = some (.cells #[.string a0_0, .int .i64 a0_1] 79 (0, 0))) ∧ Aside0 (Below w.heap.size w wc))
        case first =>
         have H := HC20.out
         clear HC20
         by_cases c23 : a0_1 ≥ 0
         ·
          rw [if_pos c23] at H
          have c23b0 : decide (0 ≤ a0_1) = true := decide_eq_true c23
          clear c23
          (first | rw [c23b0] | (simp only [i64_w, i32_w]; rw [c23b0]) | skip)
          replace H := Option.bind_eq_some_iff.mp H
          obtain ⟨t576, A240, H⟩ := H
          replace H : (num_decimal_bits.j2 k2 t576 t573) = some r := H
          have A24 := Aside0.mk A240
          clear A240
          have H' := Aside0.mk H
          clear H
          have hcz25_0 : w21.cell? ⟨gb569, 0, none⟩ = some (.string a0_0) := (blk_cell BK569.out 0).trans rfl
          have hcz25_1 : w21.cell? ⟨gb569, 1, none⟩ = some (.int .i64 a0_1) := (blk_cell BK569.out 1).trans rfl
          have hfz25_0 := blk_frozen BK569.out 0
          have hfz25_1 := blk_frozen BK569.out 1
          obtain ⟨Ao26, co26, eo26⟩ := Kd.V_slice HO_4.out
          subst eo26
          go_wp2_with (first | ((with_reducible refine gate_callee (f := 52) rfl ?_); refine goesL_ (some 50) rfl rfl Tryd.func52 (by kernel_rfl) rfl #[.slice Ao26 x4_2.length co26, .int .i64 a0_1] rfl (by (try simp only [List.map_toArray, List.map_cons, List.map_nil]); first | done | rfl | (simp only [List.length_drop, List.length_take]; rfl) | (simp [Act.eval, Hd.wrap_u8]; done)) ?_; (with_reducible refine (num_nat_tens.calls k2 (fun k_ => k_ ≠ gb569) _ _ x4_2 a0_1 t576 _ ?side1 A24.out).mono ?_); (case side1 => exact HO_4.out); rintro e w27 ⟨v577, rfl, ho0, hb⟩; refine ⟨_, rfl, ?_⟩; have n0_ := Aside0.mk (Kd.V_below (by (with_reducible repeat (first | apply Kd.V_alloc | apply Kd.V_drewN | apply Kd.V_drew)); exact HO_4.out) hb); have n1_ := Aside0.mk (Kd.V_below (by (with_reducible repeat (first | apply Kd.V_alloc | apply Kd.V_drewN | apply Kd.V_drew)); exact HO575.out) hb); have n2_ := Aside0.mk (Kd.V_lower (Kd.V_mono (ok' := fun k_ => k_ ≠ gb569) ho0 (fun k_ hk_ => Or.elim hk_ (fun hs_ => hs_) (fun hn_ => (Kd.freshB (g := gb569) (o := .cells #[.string a0_0, .int .i64 a0_1] 79 (0, 0)) (by (with_reducible repeat (first | refine blk_drewN ?_ _ | refine blk_drew ?_ | refine blk_alloc ?_ _)); exact BK569.out) k_ hn_)))) (below_size (by repeat (first | (with_reducible first | exact HB.out | apply below_alloc | apply pw_below_drewN | apply below_drew1 | refine below_set ?_ GE569.out) | exact HB.out)))); have n3_ := Aside0.mk (blk_below (g := gb569) (o := .cells #[.string a0_0, .int .i64 a0_1] 79 (0, 0)) (by (with_reducible repeat (first | refine blk_drewN ?_ _ | refine blk_drew ?_ | refine blk_alloc ?_ _)); exact BK569.out) hb); have n4_ := Aside0.mk (below_step (by repeat (first | (with_reducible first | exact HB.out | apply below_alloc | apply pw_below_drewN | apply below_drew1 | refine below_set ?_ GE569.out) | exact HB.out)) hb); clear HO_4; clear HO575; clear BK569; clear HB; have HO_4 := n0_; have HO575 := n1_; have HO578 := n2_; have BK569 := n3_; have HB := n4_; clear n0_ n1_ n2_ n3_ n4_; (try clear hb); (try clear hb2); (try clear hk); (try clear hi); (try clear ho0)))
          go_meet
          case rel => exact ⟨_, (t576), (t573), H', ⟨by have := HJ1.out; have := HK2.out; first | omega | exact Nat.le_refl _⟩, ⟨by (with_reducible repeat (first | apply Kd.V_alloc | apply Kd.V_drewN | apply Kd.V_drew)); exact HO578.out⟩, ⟨by (with_reducible repeat (first | apply Kd.V_alloc | apply Kd.V_drewN | apply Kd.V_drew)); exact HO575.out⟩, ⟨by (with_reducible repeat (first | refine blk_drewN ?_ _ | refine blk_drew ?_ | refine blk_alloc ?_ _)); exact BK569.out⟩, ⟨by repeat (first | (with_reducible first | exact HB.out | apply below_alloc | apply pw_below_drewN | apply below_drew1 | refine below_set ?_ GE569.out) | exact HB.out)⟩⟩
         ·
          rw [if_neg c23] at H
          have c23b0 : decide (0 ≤ a0_1) = false := decide_eq_false c23
          clear c23
          (first | rw [c23b0] | (simp only [i64_w, i32_w]; rw [c23b0]) | skip)
          replace H := Option.bind_eq_some_iff.mp H
          obtain ⟨t579, A280, H⟩ := H
          replace H : (num_decimal_bits.j2 k2 x4_2 t579) = some r := H
          have A28 := Aside0.mk A280
          clear A280
          have H' := Aside0.mk H
          clear H
          have hcz29_0 : w21.cell? ⟨gb569, 0, none⟩ = some (.string a0_0) := (blk_cell BK569.out 0).trans rfl
          have hcz29_1 : w21.cell? ⟨gb569, 1, none⟩ = some (.int .i64 a0_1) := (blk_cell BK569.out 1).trans rfl
          have hfz29_0 := blk_frozen BK569.out 0
          have hfz29_1 := blk_frozen BK569.out 1
          obtain ⟨Ao30, co30, eo30⟩ := Kd.V_slice HO575.out
          subst eo30
          go_wp2_with (first | ((with_reducible refine gate_callee (f := 52) rfl ?_); refine goesL_ (some 55) rfl rfl Tryd.func52 (by kernel_rfl) rfl #[.slice Ao30 t573.length co30, .int .i64 (wrap64 (-a0_1))] rfl (by (try simp only [List.map_toArray, List.map_cons, List.map_nil]); first | done | rfl | (simp only [List.length_drop, List.length_take]; rfl) | (simp [Act.eval, Hd.wrap_u8]; done)) ?_; (with_reducible refine (num_nat_tens.calls k2 (fun k_ => k_ ≠ gb569) _ _ t573 (wrap64 (-a0_1)) t579 _ ?side1 A28.out).mono ?_); (case side1 => exact HO575.out); rintro e w31 ⟨v580, rfl, ho0, hb⟩; refine ⟨_, rfl, ?_⟩; have n0_ := Aside0.mk (Kd.V_below (by (with_reducible repeat (first | apply Kd.V_alloc | apply Kd.V_drewN | apply Kd.V_drew)); exact HO_4.out) hb); have n1_ := Aside0.mk (Kd.V_below (by (with_reducible repeat (first | apply Kd.V_alloc | apply Kd.V_drewN | apply Kd.V_drew)); exact HO575.out) hb); have n2_ := Aside0.mk (Kd.V_lower (Kd.V_mono (ok' := fun k_ => k_ ≠ gb569) ho0 (fun k_ hk_ => Or.elim hk_ (fun hs_ => hs_) (fun hn_ => (Kd.freshB (g := gb569) (o := .cells #[.string a0_0, .int .i64 a0_1] 79 (0, 0)) (by (with_reducible repeat (first | refine blk_drewN ?_ _ | refine blk_drew ?_ | refine blk_alloc ?_ _)); exact BK569.out) k_ hn_)))) (below_size (by repeat (first | (with_reducible first | exact HB.out | apply below_alloc | apply pw_below_drewN | apply below_drew1 | refine below_set ?_ GE569.out) | exact HB.out)))); have n3_ := Aside0.mk (blk_below (g := gb569) (o := .cells #[.string a0_0, .int .i64 a0_1] 79 (0, 0)) (by (with_reducible repeat (first | refine blk_drewN ?_ _ | refine blk_drew ?_ | refine blk_alloc ?_ _)); exact BK569.out) hb); have n4_ := Aside0.mk (below_step (by repeat (first | (with_reducible first | exact HB.out | apply below_alloc | apply pw_below_drewN | apply below_drew1 | refine below_set ?_ GE569.out) | exact HB.out)) hb); clear HO_4; clear HO575; clear BK569; clear HB; have HO_4 := n0_; have HO575 := n1_; have HO581 := n2_; have BK569 := n3_; have HB := n4_; clear n0_ n1_ n2_ n3_ n4_; (try clear hb); (try clear hb2); (try clear hk); (try clear hi); (try clear ho0)))
          go_meet
          case rel => exact ⟨_, (x4_2), (t579), H', ⟨by have := HJ1.out; have := HK2.out; first | omega | exact Nat.le_refl _⟩, ⟨by (with_reducible repeat (first | apply Kd.V_alloc | apply Kd.V_drewN | apply Kd.V_drew)); exact HO_4.out⟩, ⟨by (with_reducible repeat (first | apply Kd.V_alloc | apply Kd.V_drewN | apply Kd.V_drew)); exact HO581.out⟩, ⟨by (with_reducible repeat (first | refine blk_drewN ?_ _ | refine blk_drew ?_ | refine blk_alloc ?_ _)); exact BK569.out⟩, ⟨by repeat (first | (with_reducible first | exact HB.out | apply below_alloc | apply pw_below_drewN | apply below_drew1 | refine below_set ?_ GE569.out) | exact HB.out)⟩⟩
        case rest =>
         clear HC20
         try clear c1
         try clear p1
         try clear q1
         try clear hx1
         try clear c2
         try clear p2
         try clear c4
         try clear c5
         try clear c5b0
         try clear c5b1
         try clear c6
         try clear p6
         try clear c8
         try clear c9
         try clear c9b0
         try clear c11
         try clear c11b0
         try clear c12
         try clear c12b0
         try clear c13
         try clear c13b0
         try clear p14
         try clear q14
         try clear hx14
         try clear c23
         try clear c23b0
         try clear hcz10_0
         try clear hcz10_1
         try clear hcz16_0
         try clear hcz16_1
         try clear hcz22_0
         try clear hcz22_1
         try clear hcz25_0
         try clear hcz25_1
         try clear hcz29_0
         try clear hcz29_1
         try clear hcz4_0
         try clear hcz4_1
         try clear hcz6_0
         try clear hcz6_1
         try clear hcz7_0
         try clear hcz7_1
         try clear hfz10_0
         try clear hfz10_1
         try clear hfz16_0
         try clear hfz16_1
         try clear hfz22_0
         try clear hfz22_1
         try clear hfz25_0
         try clear hfz25_1
         try clear hfz29_0
         try clear hfz29_1
         try clear hfz4_0
         try clear hfz4_1
         try clear hfz6_0
         try clear hfz6_1
         try clear hfz7_0
         try clear hfz7_1
         try clear p14
         try clear p2
         try clear p6
         try clear q14
         obtain ⟨kq, x4_19, x6_19, HA, HJ19, HO_4, HO_6, BK569, HB⟩ := hcut
         cases kq with
         | zero => exact absurd HA.out (by simp [num_decimal_bits.j2])
         | succ kj19 =>
          have H := HA.out
          clear HA
          simp only [num_decimal_bits.j2] at H
          replace H := Option.bind_eq_some_iff.mp H
          obtain ⟨t582, A320, H⟩ := H
          replace H : ((num_nat_size.f x6_19).bind fun t583 => (if (wrap64 (56 - (wrap64 (t582 - t583)))) ≥ 0 then ((num_nat_up.f kj19 x4_19 (wrap64 (56 - (wrap64 (t582 - t583))))).bind fun t584 => (num_decimal_bits.j3 kj19 t584 x6_19 (wrap64 (56 - (wrap64 (t582 - t583)))))) else ((num_nat_up.f kj19 x6_19 (wrap64 (-(wrap64 (56 - (wrap64 (t582 - t583))))))).bind fun t587 => (num_decimal_bits.j3 kj19 x4_19 t587 (wrap64 (56 - (wrap64 (t582 - t583)))))))) = some r := H
          have A32 := Aside0.mk A320
          clear A320
          replace H := Option.bind_eq_some_iff.mp H
          obtain ⟨t583, A330, H⟩ := H
          replace H : (if (wrap64 (56 - (wrap64 (t582 - t583)))) ≥ 0 then ((num_nat_up.f kj19 x4_19 (wrap64 (56 - (wrap64 (t582 - t583))))).bind fun t584 => (num_decimal_bits.j3 kj19 t584 x6_19 (wrap64 (56 - (wrap64 (t582 - t583)))))) else ((num_nat_up.f kj19 x6_19 (wrap64 (-(wrap64 (56 - (wrap64 (t582 - t583))))))).bind fun t587 => (num_decimal_bits.j3 kj19 x4_19 t587 (wrap64 (56 - (wrap64 (t582 - t583))))))) = some r := H
          have A33 := Aside0.mk A330
          clear A330
          have HC34 := Aside0.mk H
          clear H
          obtain ⟨Ao35, co35, eo35⟩ := Kd.V_slice HO_4.out
          subst eo35
          go_upto_if 63 with (first | ((with_reducible refine gate_callee (f := 51) rfl ?_); refine goesL_ (some 57) rfl rfl Tryd.func51 (by kernel_rfl) rfl #[.slice Ao35 x4_19.length co35] rfl (by (try simp only [List.map_toArray, List.map_cons, List.map_nil]); first | done | rfl | (simp only [List.length_drop, List.length_take]; rfl) | (simp [Act.eval, Hd.wrap_u8]; done)) ?_; (with_reducible refine (num_nat_size.calls _ _ x4_19 t582 _ ?side1 ?side2 A32.out).mono ?_); (case side1 => repeat (first | exact (Kd.V_reads' HO_4.out).2.2 | (with_reducible refine Kd.C_alloc ?_ _) | (with_reducible refine Kd.C_drewN ?_ _) | (with_reducible refine Kd.C_drew ?_))); (case side2 => exact (Kd.V_reads' HO_4.out).2.1); rintro e w' ⟨rfl, ⟨nd, rfl⟩⟩; refine ⟨_, rfl, ?_⟩; obtain ⟨Ao36, co36, eo36⟩ := Kd.V_slice HO_6.out; subst eo36) | ((with_reducible refine gate_callee (f := 51) rfl ?_); refine goesL_ (some 59) rfl rfl Tryd.func51 (by kernel_rfl) rfl #[.slice Ao36 x6_19.length co36] rfl (by (try simp only [List.map_toArray, List.map_cons, List.map_nil]); first | done | rfl | (simp only [List.length_drop, List.length_take]; rfl) | (simp [Act.eval, Hd.wrap_u8]; done)) ?_; (with_reducible refine (num_nat_size.calls _ _ x6_19 t583 _ ?side1 ?side2 A33.out).mono ?_); (case side1 => repeat (first | exact (Kd.V_reads' HO_6.out).2.2 | (with_reducible refine Kd.C_alloc ?_ _) | (with_reducible refine Kd.C_drewN ?_ _) | (with_reducible refine Kd.C_drew ?_))); (case side2 => exact (Kd.V_reads' HO_6.out).2.1); rintro e w' ⟨rfl, ⟨nd, rfl⟩⟩; refine ⟨_, rfl, ?_⟩))
          (try simp only [Act.put, List.setIfInBounds_toArray, List.set_cons_zero, List.set_cons_succ])
          go_cut [4, 6] (fun v4 v6 wc => ∃ (kq : Nat) (x4_33 : List Int) (x6_33 : List Int), Aside0 (num_decimal_bits.j3 kq x4_33 x6_33 (wrap64 (56 - (wrap64 (t582 - t583)))) = some r) ∧ Aside0 (kq ≤ kj19) ∧ Aside0 (Kd.V (Kd.int .u32) 102 wc w.heap.size (fun k_ => k_ ≠ gb569) v4 x4_33) ∧ Aside0 (Kd.V (Kd.int .u32) 102 wc w.heap.size (fun k_ => k_ ≠ gb569) v6 x6_33) ∧ Aside0 (wc.heap[gb569]? = some (.cells #[.string a0_0, .int .i64 a0_1] 79 (0, 0))) ∧ Aside0 (Below w.heap.size w wc))
          case first =>
           have H := HC34.out
           clear HC34
           by_cases c37 : (wrap64 (56 - (wrap64 (t582 - t583)))) ≥ 0
           ·
            rw [if_pos c37] at H
            have c37b0 : decide (0 ≤ (wrap64 (56 - (wrap64 (t582 - t583))))) = true := decide_eq_true c37
            clear c37
            (first | rw [c37b0] | (simp only [i64_w, i32_w]; rw [c37b0]) | skip)
            replace H := Option.bind_eq_some_iff.mp H
            obtain ⟨t584, A380, H⟩ := H
            replace H : (num_decimal_bits.j3 kj19 t584 x6_19 (wrap64 (56 - (wrap64 (t582 - t583))))) = some r := H
            have A38 := Aside0.mk A380
            clear A380
            have H' := Aside0.mk H
            clear H
            go_wp2_with (first | ((with_reducible refine gate_callee (f := 46) rfl ?_); refine goesL_ (some 66) rfl rfl Tryd.func46 (by kernel_rfl) rfl #[.slice Ao35 x4_19.length co35, .int .i64 (wrap64 (56 - (wrap64 (t582 - t583))))] rfl (by (try simp only [List.map_toArray, List.map_cons, List.map_nil]); first | done | rfl | (simp only [List.length_drop, List.length_take]; rfl) | (simp [Act.eval, Hd.wrap_u8]; done)) ?_; (with_reducible refine (num_nat_up.calls kj19 _ _ x4_19 (wrap64 (56 - (wrap64 (t582 - t583)))) t584 _ ?side1 ?side2 A38.out).mono ?_); (case side1 => repeat (first | exact (Kd.V_reads' HO_4.out).2.2 | (with_reducible refine Kd.C_alloc ?_ _) | (with_reducible refine Kd.C_drewN ?_ _) | (with_reducible refine Kd.C_drew ?_))); (case side2 => exact (Kd.V_reads' HO_4.out).2.1); rintro e w39 ⟨v585, rfl, ho0, hb⟩; refine ⟨_, rfl, ?_⟩; have n0_ := Aside0.mk (Kd.V_below (by (with_reducible repeat (first | apply Kd.V_alloc | apply Kd.V_drewN | apply Kd.V_drew)); exact HO_4.out) hb); have n1_ := Aside0.mk (Kd.V_below (by (with_reducible repeat (first | apply Kd.V_alloc | apply Kd.V_drewN | apply Kd.V_drew)); exact HO_6.out) hb); have n2_ := Aside0.mk (Kd.V_lower (Kd.V_mono (ok' := fun k_ => k_ ≠ gb569) ho0 (fun k_ hk_ => (Kd.freshB (g := gb569) (o := .cells #[.string a0_0, .int .i64 a0_1] 79 (0, 0)) (by (with_reducible repeat (first | refine blk_drewN ?_ _ | refine blk_drew ?_ | refine blk_alloc ?_ _)); exact BK569.out) k_ hk_))) (below_size (by repeat (first | (with_reducible first | exact HB.out | apply below_alloc | apply pw_below_drewN | apply below_drew1 | refine below_set ?_ GE569.out) | exact HB.out)))); have n3_ := Aside0.mk (blk_below (g := gb569) (o := .cells #[.string a0_0, .int .i64 a0_1] 79 (0, 0)) (by (with_reducible repeat (first | refine blk_drewN ?_ _ | refine blk_drew ?_ | refine blk_alloc ?_ _)); exact BK569.out) hb); have n4_ := Aside0.mk (below_step (by repeat (first | (with_reducible first | exact HB.out | apply below_alloc | apply pw_below_drewN | apply below_drew1 | refine below_set ?_ GE569.out) | exact HB.out)) hb); clear HO_4; clear HO_6; clear BK569; clear HB; have HO_4 := n0_; have HO_6 := n1_; have HO586 := n2_; have BK569 := n3_; have HB := n4_; clear n0_ n1_ n2_ n3_ n4_; (try clear hb); (try clear hb2); (try clear hk); (try clear hi); (try clear ho0)))
            go_meet
            case rel => exact ⟨_, (t584), (x6_19), H', ⟨by have := HJ1.out; have := HK2.out; have := HJ19.out; first | omega | exact Nat.le_refl _⟩, ⟨by (with_reducible repeat (first | apply Kd.V_alloc | apply Kd.V_drewN | apply Kd.V_drew)); exact HO586.out⟩, ⟨by (with_reducible repeat (first | apply Kd.V_alloc | apply Kd.V_drewN | apply Kd.V_drew)); exact HO_6.out⟩, ⟨by (with_reducible repeat (first | refine blk_drewN ?_ _ | refine blk_drew ?_ | refine blk_alloc ?_ _)); exact BK569.out⟩, ⟨by repeat (first | (with_reducible first | exact HB.out | apply below_alloc | apply pw_below_drewN | apply below_drew1 | refine below_set ?_ GE569.out) | exact HB.out)⟩⟩
           ·
            rw [if_neg c37] at H
            have c37b0 : decide (0 ≤ (wrap64 (56 - (wrap64 (t582 - t583))))) = false := decide_eq_false c37
            clear c37
            (first | rw [c37b0] | (simp only [i64_w, i32_w]; rw [c37b0]) | skip)
            replace H := Option.bind_eq_some_iff.mp H
            obtain ⟨t587, A400, H⟩ := H
            replace H : (num_decimal_bits.j3 kj19 x4_19 t587 (wrap64 (56 - (wrap64 (t582 - t583))))) = some r := H
            have A40 := Aside0.mk A400
            clear A400
            have H' := Aside0.mk H
            clear H
            go_wp2_with (first | ((with_reducible refine gate_callee (f := 46) rfl ?_); refine goesL_ (some 70) rfl rfl Tryd.func46 (by kernel_rfl) rfl #[.slice Ao36 x6_19.length co36, .int .i64 (wrap64 (-(wrap64 (56 - (wrap64 (t582 - t583))))))] rfl (by (try simp only [List.map_toArray, List.map_cons, List.map_nil]); first | done | rfl | (simp only [List.length_drop, List.length_take]; rfl) | (simp [Act.eval, Hd.wrap_u8]; done)) ?_; (with_reducible refine (num_nat_up.calls kj19 _ _ x6_19 (wrap64 (-(wrap64 (56 - (wrap64 (t582 - t583)))))) t587 _ ?side1 ?side2 A40.out).mono ?_); (case side1 => repeat (first | exact (Kd.V_reads' HO_6.out).2.2 | (with_reducible refine Kd.C_alloc ?_ _) | (with_reducible refine Kd.C_drewN ?_ _) | (with_reducible refine Kd.C_drew ?_))); (case side2 => exact (Kd.V_reads' HO_6.out).2.1); rintro e w41 ⟨v588, rfl, ho0, hb⟩; refine ⟨_, rfl, ?_⟩; have n0_ := Aside0.mk (Kd.V_below (by (with_reducible repeat (first | apply Kd.V_alloc | apply Kd.V_drewN | apply Kd.V_drew)); exact HO_4.out) hb); have n1_ := Aside0.mk (Kd.V_below (by (with_reducible repeat (first | apply Kd.V_alloc | apply Kd.V_drewN | apply Kd.V_drew)); exact HO_6.out) hb); have n2_ := Aside0.mk (Kd.V_lower (Kd.V_mono (ok' := fun k_ => k_ ≠ gb569) ho0 (fun k_ hk_ => (Kd.freshB (g := gb569) (o := .cells #[.string a0_0, .int .i64 a0_1] 79 (0, 0)) (by (with_reducible repeat (first | refine blk_drewN ?_ _ | refine blk_drew ?_ | refine blk_alloc ?_ _)); exact BK569.out) k_ hk_))) (below_size (by repeat (first | (with_reducible first | exact HB.out | apply below_alloc | apply pw_below_drewN | apply below_drew1 | refine below_set ?_ GE569.out) | exact HB.out)))); have n3_ := Aside0.mk (blk_below (g := gb569) (o := .cells #[.string a0_0, .int .i64 a0_1] 79 (0, 0)) (by (with_reducible repeat (first | refine blk_drewN ?_ _ | refine blk_drew ?_ | refine blk_alloc ?_ _)); exact BK569.out) hb); have n4_ := Aside0.mk (below_step (by repeat (first | (with_reducible first | exact HB.out | apply below_alloc | apply pw_below_drewN | apply below_drew1 | refine below_set ?_ GE569.out) | exact HB.out)) hb); clear HO_4; clear HO_6; clear BK569; clear HB; have HO_4 := n0_; have HO_6 := n1_; have HO589 := n2_; have BK569 := n3_; have HB := n4_; clear n0_ n1_ n2_ n3_ n4_; (try clear hb); (try clear hb2); (try clear hk); (try clear hi); (try clear ho0)))
            go_meet
            case rel => exact ⟨_, (x4_19), (t587), H', ⟨by have := HJ1.out; have := HK2.out; have := HJ19.out; first | omega | exact Nat.le_refl _⟩, ⟨by (with_reducible repeat (first | apply Kd.V_alloc | apply Kd.V_drewN | apply Kd.V_drew)); exact HO_4.out⟩, ⟨by (with_reducible repeat (first | apply Kd.V_alloc | apply Kd.V_drewN | apply Kd.V_drew)); exact HO589.out⟩, ⟨by (with_reducible repeat (first | refine blk_drewN ?_ _ | refine blk_drew ?_ | refine blk_alloc ?_ _)); exact BK569.out⟩, ⟨by repeat (first | (with_reducible first | exact HB.out | apply below_alloc | apply pw_below_drewN | apply below_drew1 | refine below_set ?_ GE569.out) | exact HB.out)⟩⟩
          case rest =>
           clear HC34
           try clear c1
           try clear p1
           try clear q1
           try clear hx1
           try clear c2
           try clear p2
           try clear c3
           try clear c4
           try clear c5
           try clear c5b0
           try clear c5b1
           try clear c6
           try clear p6
           try clear c8
           try clear c9
           try clear c9b0
           try clear c11
           try clear c11b0
           try clear c12
           try clear c12b0
           try clear c13
           try clear c13b0
           try clear p14
           try clear q14
           try clear hx14
           try clear c23
           try clear c23b0
           try clear c37
           try clear c37b0
           try clear hcz10_0
           try clear hcz10_1
           try clear hcz16_0
           try clear hcz16_1
           try clear hcz22_0
           try clear hcz22_1
           try clear hcz25_0
           try clear hcz25_1
           try clear hcz29_0
           try clear hcz29_1
           try clear hcz4_0
           try clear hcz4_1
           try clear hcz6_0
           try clear hcz6_1
           try clear hcz7_0
           try clear hcz7_1
           try clear hfz10_0
           try clear hfz10_1
           try clear hfz16_0
           try clear hfz16_1
           try clear hfz22_0
           try clear hfz22_1
           try clear hfz25_0
           try clear hfz25_1
           try clear hfz29_0
           try clear hfz29_1
           try clear hfz4_0
           try clear hfz4_1
           try clear hfz6_0
           try clear hfz6_1
           try clear hfz7_0
           try clear hfz7_1
           try clear p1
           try clear p14
           try clear p2
           try clear p6
           try clear q1
           try clear q14
           obtain ⟨kq, x4_33, x6_33, HA, HJ33, HO_4, HO_6, BK569, HB⟩ := hcut
           cases kq with
           | zero => exact absurd HA.out (by simp [num_decimal_bits.j3])
           | succ kj33 =>
            have H := HA.out
            clear HA
            simp only [num_decimal_bits.j3] at H
            have H' := Aside0.mk H
            clear H
            go_wp2
            go_loopg [4, 8, 9] kj33 (fun kq v4 v8 v9 w' => ∃ (x4_5 : List Int) (x8_5 : Int) (x9_5 : Int), v8 = .int .u64 x8_5 ∧ v9 = .int .i64 x9_5 ∧ Aside0 (num_decimal_bits.l1 kq x4_5 x6_33 (wrap64 (56 - (wrap64 (t582 - t583)))) x8_5 x9_5 = some r) ∧ Aside0 (kq ≤ kj33) ∧ Aside0 (Kd.V (Kd.int .u32) 102 w' w.heap.size (fun k_ => k_ ≠ gb569) v4 x4_5) ∧ Aside0 (Kd.V (Kd.int .u32) 102 w' w.heap.size (fun k_ => k_ ≠ gb569) u6 x6_33) ∧ Aside0 (w'.heap[gb569]? = some (.cells #[.string a0_0, .int .i64 a0_1] 79 (0, 0))) ∧ Aside0 (Below w.heap.size w w'))
            case atStart => exact ⟨(x4_33), (0), (57), (by first | rfl | (simp; done) | (simp [*]; done)), (by first | rfl | (simp; done) | (simp [*]; done)), H', ⟨Nat.le_refl _⟩, ⟨by (with_reducible repeat (first | apply Kd.V_alloc | apply Kd.V_drewN | apply Kd.V_drew)); exact HO_4.out⟩, ⟨by (with_reducible repeat (first | apply Kd.V_alloc | apply Kd.V_drewN | apply Kd.V_drew)); exact HO_6.out⟩, ⟨by (with_reducible repeat (first | refine blk_drewN ?_ _ | refine blk_drew ?_ | refine blk_alloc ?_ _)); exact BK569.out⟩, ⟨by repeat (first | (with_reducible first | exact HB.out | apply below_alloc | apply pw_below_drewN | apply below_drew1 | refine below_set ?_ GE569.out) | exact HB.out)⟩⟩
            case round =>
             clear H'
             try clear c1
             try clear p1
             try clear q1
             try clear hx1
             try clear c2
             try clear p2
             try clear c3
             try clear c4
             try clear c5
             try clear c5b0
             try clear c5b1
             try clear c6
             try clear p6
             try clear c8
             try clear c9
             try clear c9b0
             try clear c11
             try clear c11b0
             try clear c12
             try clear c12b0
             try clear c13
             try clear c13b0
             try clear p14
             try clear q14
             try clear hx14
             try clear c23
             try clear c23b0
             try clear c37
             try clear c37b0
             try clear hcz10_0
             try clear hcz10_1
             try clear hcz16_0
             try clear hcz16_1
             try clear hcz22_0
             try clear hcz22_1
             try clear hcz25_0
             try clear hcz25_1
             try clear hcz29_0
             try clear hcz29_1
             try clear hcz4_0
             try clear hcz4_1
             try clear hcz6_0
             try clear hcz6_1
             try clear hcz7_0
             try clear hcz7_1
             try clear hfz10_0
             try clear hfz10_1
             try clear hfz16_0
             try clear hfz16_1
             try clear hfz22_0
             try clear hfz22_1
             try clear hfz25_0
             try clear hfz25_1
             try clear hfz29_0
             try clear hfz29_1
             try clear hfz4_0
             try clear hfz4_1
             try clear hfz6_0
             try clear hfz6_1
             try clear hfz7_0
             try clear hfz7_1
             try clear p1
             try clear p14
             try clear p2
             try clear p6
             try clear q1
             try clear q14
             obtain ⟨x4_5, x8_5, x9_5, rfl, rfl, HA, HK5, HO_4, HO_6, BK569, HB⟩ := hrel
             cases gk with
             | zero => exact absurd HA.out (by simp [num_decimal_bits.l1])
             | succ k5 =>
              have H := HA.out
              clear HA
              simp only [num_decimal_bits.l1] at H
              by_cases c42 : x9_5 ≥ 0
              ·
               rw [if_pos c42] at H
               have c42b0 : decide (0 ≤ x9_5) = true := decide_eq_true c42
               clear c42
               replace H := Option.bind_eq_some_iff.mp H
               obtain ⟨t591, A430, H⟩ := H
               replace H : ((num_nat_against.f k5 x4_5 t591).bind fun t594 => (if t594 ≥ 0 then ((num_nat_less.f k5 x4_5 t591).bind fun t595 => (if 0 ≤ x9_5 then (num_decimal_bits.l1 k5 t595 x6_33 (wrap64 (56 - (wrap64 (t582 - t583)))) (Go.bits .or .u64 x8_5 (shl .u64 1 x9_5)) (wrap64 (x9_5 - 1))) else (none))) else (num_decimal_bits.l1 k5 x4_5 x6_33 (wrap64 (56 - (wrap64 (t582 - t583)))) x8_5 (wrap64 (x9_5 - 1))))) = some r := H
               have A43 := Aside0.mk A430
               clear A430
               replace H := Option.bind_eq_some_iff.mp H
               obtain ⟨t594, A440, H⟩ := H
               replace H : (if t594 ≥ 0 then ((num_nat_less.f k5 x4_5 t591).bind fun t595 => (if 0 ≤ x9_5 then (num_decimal_bits.l1 k5 t595 x6_33 (wrap64 (56 - (wrap64 (t582 - t583)))) (Go.bits .or .u64 x8_5 (shl .u64 1 x9_5)) (wrap64 (x9_5 - 1))) else (none))) else (num_decimal_bits.l1 k5 x4_5 x6_33 (wrap64 (56 - (wrap64 (t582 - t583)))) x8_5 (wrap64 (x9_5 - 1)))) = some r := H
               have A44 := Aside0.mk A440
               clear A440
               by_cases c45 : t594 ≥ 0
               ·
                rw [if_pos c45] at H
                have c45b0 : decide (0 ≤ t594) = true := decide_eq_true c45
                clear c45
                replace H := Option.bind_eq_some_iff.mp H
                obtain ⟨t595, A460, H⟩ := H
                replace H : (if 0 ≤ x9_5 then (num_decimal_bits.l1 k5 t595 x6_33 (wrap64 (56 - (wrap64 (t582 - t583)))) (Go.bits .or .u64 x8_5 (shl .u64 1 x9_5)) (wrap64 (x9_5 - 1))) else (none)) = some r := H
                have A46 := Aside0.mk A460
                clear A460
                by_cases c47 : 0 ≤ x9_5
                ·
                 rw [if_pos c47] at H
                 have c47b0 := eq_true c47
                 have c47b1 : decide (0 ≤ x9_5) = true := decide_eq_true c47
                 clear c47
                 obtain ⟨ji48, hji48⟩ : ∃ j_ : Int, (shl .u64 1 x9_5) = j_ := ⟨_, rfl⟩
                 replace H : (num_decimal_bits.l1 k5 t595 x6_33 (wrap64 (56 - (wrap64 (t582 - t583)))) (Go.bits .or .u64 x8_5 (ji48)) (wrap64 (x9_5 - 1))) = some r := by first | (rw [hji48] at H; exact H) | (simp only [hji48] at H ⊢; exact H)
                 (try rw [hji48] at A43)
                 (try rw [hji48] at A44)
                 (try rw [hji48] at A46)
                 have hji48_ : (IntKind.u64.wrap (1 * 2 ^ min x9_5.toNat 64)) = ji48 := hji48
                 have hji48z : x9_5 ≤ 64 → (IntKind.u64.wrap (1 * 2 ^ x9_5.toNat)) = ji48 := shl_small hji48
                 have hji48u : (IntKind.u64.wrap (2 ^ min x9_5.toNat 64)) = ji48 := by have h_ := hji48_; rw [Int.one_mul] at h_; exact h_
                 have hji48v : x9_5 ≤ 64 → (IntKind.u64.wrap (2 ^ x9_5.toNat)) = ji48 := fun hle_ => by have h_ := hji48z hle_; rw [Int.one_mul] at h_; exact h_
                 have H' := Aside0.mk H
                 clear H
                 obtain ⟨Ao49, co49, eo49⟩ := Kd.V_slice HO_6.out
                 subst eo49
                 go_wp2_with (first | ((with_reducible refine gate_callee (f := 46) rfl ?_); refine goesL_ (some 77) rfl rfl Tryd.func46 (by kernel_rfl) rfl #[.slice Ao49 x6_33.length co49, .int .i64 x9_5] rfl (by (try simp only [List.map_toArray, List.map_cons, List.map_nil]); first | done | rfl | (simp only [List.length_drop, List.length_take]; rfl) | (simp [Act.eval, Hd.wrap_u8]; done)) ?_; (with_reducible refine (num_nat_up.calls k5 _ _ x6_33 x9_5 t591 _ ?side1 ?side2 A43.out).mono ?_); (case side1 => repeat (first | exact (Kd.V_reads' HO_6.out).2.2 | (with_reducible refine Kd.C_alloc ?_ _) | (with_reducible refine Kd.C_drewN ?_ _) | (with_reducible refine Kd.C_drew ?_))); (case side2 => exact (Kd.V_reads' HO_6.out).2.1); rintro e w50 ⟨v592, rfl, ho0, hb⟩; refine ⟨_, rfl, ?_⟩; have n0_ := Aside0.mk (Kd.V_below (by (with_reducible repeat (first | apply Kd.V_alloc | apply Kd.V_drewN | apply Kd.V_drew)); exact HO_4.out) hb); have n1_ := Aside0.mk (Kd.V_below (by (with_reducible repeat (first | apply Kd.V_alloc | apply Kd.V_drewN | apply Kd.V_drew)); exact HO_6.out) hb); have n2_ := Aside0.mk (Kd.V_lower (Kd.V_mono (ok' := fun k_ => k_ ≠ gb569) ho0 (fun k_ hk_ => (Kd.freshB (g := gb569) (o := .cells #[.string a0_0, .int .i64 a0_1] 79 (0, 0)) (by (with_reducible repeat (first | refine blk_drewN ?_ _ | refine blk_drew ?_ | refine blk_alloc ?_ _)); exact BK569.out) k_ hk_))) (below_size (by repeat (first | (with_reducible first | exact HB.out | apply below_alloc | apply pw_below_drewN | apply below_drew1 | refine below_set ?_ GE569.out) | exact HB.out)))); have n3_ := Aside0.mk (blk_below (g := gb569) (o := .cells #[.string a0_0, .int .i64 a0_1] 79 (0, 0)) (by (with_reducible repeat (first | refine blk_drewN ?_ _ | refine blk_drew ?_ | refine blk_alloc ?_ _)); exact BK569.out) hb); have n4_ := Aside0.mk (below_step (by repeat (first | (with_reducible first | exact HB.out | apply below_alloc | apply pw_below_drewN | apply below_drew1 | refine below_set ?_ GE569.out) | exact HB.out)) hb); clear HO_4; clear HO_6; clear BK569; clear HB; have HO_4 := n0_; have HO_6 := n1_; have HO593 := n2_; have BK569 := n3_; have HB := n4_; clear n0_ n1_ n2_ n3_ n4_; (try clear hb); (try clear hb2); (try clear hk); (try clear hi); (try clear ho0); obtain ⟨Ao51, co51, eo51⟩ := Kd.V_slice HO_4.out; subst eo51; obtain ⟨Ao52, co52, eo52⟩ := Kd.V_slice HO593.out; subst eo52) | ((with_reducible refine gate_callee (f := 49) rfl ?_); refine goesL_ (some 80) rfl rfl Tryd.func49 (by kernel_rfl) rfl #[.slice Ao51 x4_5.length co51, .slice Ao52 t591.length co52] rfl (by (try simp only [List.map_toArray, List.map_cons, List.map_nil]); first | done | rfl | (simp only [List.length_drop, List.length_take]; rfl) | (simp [Act.eval, Hd.wrap_u8]; done)) ?_; (with_reducible refine (num_nat_against.calls k5 _ _ x4_5 _ _ t591 t594 _ ?side1 ?side2 ?side3 ?side4 A44.out).mono ?_); (case side1 => repeat (first | exact (Kd.V_reads' HO_4.out).2.2 | (with_reducible refine Kd.C_alloc ?_ _) | (with_reducible refine Kd.C_drewN ?_ _) | (with_reducible refine Kd.C_drew ?_))); (case side2 => exact (Kd.V_reads' HO_4.out).2.1); (case side3 => repeat (first | exact (Kd.V_reads' HO593.out).2.2 | (with_reducible refine Kd.C_alloc ?_ _) | (with_reducible refine Kd.C_drewN ?_ _) | (with_reducible refine Kd.C_drew ?_))); (case side4 => exact (Kd.V_reads' HO593.out).2.1); rintro e w' ⟨rfl, ⟨nd, rfl⟩⟩; refine ⟨_, rfl, ?_⟩) | ((with_reducible refine gate_callee (f := 87) rfl ?_); refine goesL_ (some 84) rfl rfl Tryd.func87 (by kernel_rfl) rfl #[.slice Ao51 x4_5.length co51, .slice Ao52 t591.length co52] rfl (by (try simp only [List.map_toArray, List.map_cons, List.map_nil]); first | done | rfl | (simp only [List.length_drop, List.length_take]; rfl) | (simp [Act.eval, Hd.wrap_u8]; done)) ?_; (with_reducible refine (num_nat_less.calls k5 _ _ x4_5 _ _ t591 t595 _ ?side1 ?side2 ?side3 ?side4 A46.out).mono ?_); (case side1 => repeat (first | exact (Kd.V_reads' HO_4.out).2.2 | (with_reducible refine Kd.C_alloc ?_ _) | (with_reducible refine Kd.C_drewN ?_ _) | (with_reducible refine Kd.C_drew ?_))); (case side2 => exact (Kd.V_reads' HO_4.out).2.1); (case side3 => repeat (first | exact (Kd.V_reads' HO593.out).2.2 | (with_reducible refine Kd.C_alloc ?_ _) | (with_reducible refine Kd.C_drewN ?_ _) | (with_reducible refine Kd.C_drew ?_))); (case side4 => exact (Kd.V_reads' HO593.out).2.1); rintro e w53 ⟨v596, rfl, ho0, hb⟩; refine ⟨_, rfl, ?_⟩; have n0_ := Aside0.mk (Kd.V_below (by (with_reducible repeat (first | apply Kd.V_alloc | apply Kd.V_drewN | apply Kd.V_drew)); exact HO_4.out) hb); have n1_ := Aside0.mk (Kd.V_below (by (with_reducible repeat (first | apply Kd.V_alloc | apply Kd.V_drewN | apply Kd.V_drew)); exact HO_6.out) hb); have n2_ := Aside0.mk (Kd.V_below (by (with_reducible repeat (first | apply Kd.V_alloc | apply Kd.V_drewN | apply Kd.V_drew)); exact HO593.out) hb); have n3_ := Aside0.mk (Kd.V_lower (Kd.V_mono (ok' := fun k_ => k_ ≠ gb569) ho0 (fun k_ hk_ => (Kd.freshB (g := gb569) (o := .cells #[.string a0_0, .int .i64 a0_1] 79 (0, 0)) (by (with_reducible repeat (first | refine blk_drewN ?_ _ | refine blk_drew ?_ | refine blk_alloc ?_ _)); exact BK569.out) k_ hk_))) (below_size (by repeat (first | (with_reducible first | exact HB.out | apply below_alloc | apply pw_below_drewN | apply below_drew1 | refine below_set ?_ GE569.out) | exact HB.out)))); have n4_ := Aside0.mk (blk_below (g := gb569) (o := .cells #[.string a0_0, .int .i64 a0_1] 79 (0, 0)) (by (with_reducible repeat (first | refine blk_drewN ?_ _ | refine blk_drew ?_ | refine blk_alloc ?_ _)); exact BK569.out) hb); have n5_ := Aside0.mk (below_step (by repeat (first | (with_reducible first | exact HB.out | apply below_alloc | apply pw_below_drewN | apply below_drew1 | refine below_set ?_ GE569.out) | exact HB.out)) hb); clear HO_4; clear HO_6; clear HO593; clear BK569; clear HB; have HO_4 := n0_; have HO_6 := n1_; have HO593 := n2_; have HO597 := n3_; have BK569 := n4_; have HB := n5_; clear n0_ n1_ n2_ n3_ n4_ n5_; (try clear hb); (try clear hb2); (try clear hk); (try clear hi); (try clear ho0)))
                 go_roundg k5
                 case measure => have := HJ1.out; have := HK2.out; have := HJ19.out; have := HJ33.out; have := HK5.out; omega
                 case rel => exact ⟨(t595), (Go.bits .or .u64 x8_5 (ji48)), (wrap64 (x9_5 - 1)), (by first | rfl | (simp; done) | (simp only [← hji48] <;> (first | rfl | simp)) | (simp [*]; done)), (by first | rfl | (simp; done) | (simp [*]; done)), H', ⟨by have := HJ1.out; have := HK2.out; have := HJ19.out; have := HJ33.out; have := HK5.out; omega⟩, ⟨by (with_reducible repeat (first | apply Kd.V_alloc | apply Kd.V_drewN | apply Kd.V_drew)); exact HO597.out⟩, ⟨by (with_reducible repeat (first | apply Kd.V_alloc | apply Kd.V_drewN | apply Kd.V_drew)); exact HO_6.out⟩, ⟨by (with_reducible repeat (first | refine blk_drewN ?_ _ | refine blk_drew ?_ | refine blk_alloc ?_ _)); exact BK569.out⟩, ⟨by repeat (first | (with_reducible first | exact HB.out | apply below_alloc | apply pw_below_drewN | apply below_drew1 | refine below_set ?_ GE569.out) | exact HB.out)⟩⟩
                ·
                 rw [if_neg c47] at H
                 exact absurd H (by simp)
               ·
                rw [if_neg c45] at H
                have c45b0 : decide (0 ≤ t594) = false := decide_eq_false c45
                clear c45
                have H' := Aside0.mk H
                clear H
                obtain ⟨Ao54, co54, eo54⟩ := Kd.V_slice HO_6.out
                subst eo54
                go_wp2_with (first | ((with_reducible refine gate_callee (f := 46) rfl ?_); refine goesL_ (some 77) rfl rfl Tryd.func46 (by kernel_rfl) rfl #[.slice Ao54 x6_33.length co54, .int .i64 x9_5] rfl (by (try simp only [List.map_toArray, List.map_cons, List.map_nil]); first | done | rfl | (simp only [List.length_drop, List.length_take]; rfl) | (simp [Act.eval, Hd.wrap_u8]; done)) ?_; (with_reducible refine (num_nat_up.calls k5 _ _ x6_33 x9_5 t591 _ ?side1 ?side2 A43.out).mono ?_); (case side1 => repeat (first | exact (Kd.V_reads' HO_6.out).2.2 | (with_reducible refine Kd.C_alloc ?_ _) | (with_reducible refine Kd.C_drewN ?_ _) | (with_reducible refine Kd.C_drew ?_))); (case side2 => exact (Kd.V_reads' HO_6.out).2.1); rintro e w55 ⟨v592, rfl, ho0, hb⟩; refine ⟨_, rfl, ?_⟩; have n0_ := Aside0.mk (Kd.V_below (by (with_reducible repeat (first | apply Kd.V_alloc | apply Kd.V_drewN | apply Kd.V_drew)); exact HO_4.out) hb); have n1_ := Aside0.mk (Kd.V_below (by (with_reducible repeat (first | apply Kd.V_alloc | apply Kd.V_drewN | apply Kd.V_drew)); exact HO_6.out) hb); have n2_ := Aside0.mk (Kd.V_lower (Kd.V_mono (ok' := fun k_ => k_ ≠ gb569) ho0 (fun k_ hk_ => (Kd.freshB (g := gb569) (o := .cells #[.string a0_0, .int .i64 a0_1] 79 (0, 0)) (by (with_reducible repeat (first | refine blk_drewN ?_ _ | refine blk_drew ?_ | refine blk_alloc ?_ _)); exact BK569.out) k_ hk_))) (below_size (by repeat (first | (with_reducible first | exact HB.out | apply below_alloc | apply pw_below_drewN | apply below_drew1 | refine below_set ?_ GE569.out) | exact HB.out)))); have n3_ := Aside0.mk (blk_below (g := gb569) (o := .cells #[.string a0_0, .int .i64 a0_1] 79 (0, 0)) (by (with_reducible repeat (first | refine blk_drewN ?_ _ | refine blk_drew ?_ | refine blk_alloc ?_ _)); exact BK569.out) hb); have n4_ := Aside0.mk (below_step (by repeat (first | (with_reducible first | exact HB.out | apply below_alloc | apply pw_below_drewN | apply below_drew1 | refine below_set ?_ GE569.out) | exact HB.out)) hb); clear HO_4; clear HO_6; clear BK569; clear HB; have HO_4 := n0_; have HO_6 := n1_; have HO593 := n2_; have BK569 := n3_; have HB := n4_; clear n0_ n1_ n2_ n3_ n4_; (try clear hb); (try clear hb2); (try clear hk); (try clear hi); (try clear ho0); obtain ⟨Ao56, co56, eo56⟩ := Kd.V_slice HO_4.out; subst eo56; obtain ⟨Ao57, co57, eo57⟩ := Kd.V_slice HO593.out; subst eo57) | ((with_reducible refine gate_callee (f := 49) rfl ?_); refine goesL_ (some 80) rfl rfl Tryd.func49 (by kernel_rfl) rfl #[.slice Ao56 x4_5.length co56, .slice Ao57 t591.length co57] rfl (by (try simp only [List.map_toArray, List.map_cons, List.map_nil]); first | done | rfl | (simp only [List.length_drop, List.length_take]; rfl) | (simp [Act.eval, Hd.wrap_u8]; done)) ?_; (with_reducible refine (num_nat_against.calls k5 _ _ x4_5 _ _ t591 t594 _ ?side1 ?side2 ?side3 ?side4 A44.out).mono ?_); (case side1 => repeat (first | exact (Kd.V_reads' HO_4.out).2.2 | (with_reducible refine Kd.C_alloc ?_ _) | (with_reducible refine Kd.C_drewN ?_ _) | (with_reducible refine Kd.C_drew ?_))); (case side2 => exact (Kd.V_reads' HO_4.out).2.1); (case side3 => repeat (first | exact (Kd.V_reads' HO593.out).2.2 | (with_reducible refine Kd.C_alloc ?_ _) | (with_reducible refine Kd.C_drewN ?_ _) | (with_reducible refine Kd.C_drew ?_))); (case side4 => exact (Kd.V_reads' HO593.out).2.1); rintro e w' ⟨rfl, ⟨nd, rfl⟩⟩; refine ⟨_, rfl, ?_⟩))
                go_roundg k5
                case measure => have := HJ1.out; have := HK2.out; have := HJ19.out; have := HJ33.out; have := HK5.out; omega
                case rel => exact ⟨(x4_5), (x8_5), (wrap64 (x9_5 - 1)), (by first | rfl | (simp; done) | (simp [*]; done)), (by first | rfl | (simp; done) | (simp [*]; done)), H', ⟨by have := HJ1.out; have := HK2.out; have := HJ19.out; have := HJ33.out; have := HK5.out; omega⟩, ⟨by (with_reducible repeat (first | apply Kd.V_alloc | apply Kd.V_drewN | apply Kd.V_drew)); exact HO_4.out⟩, ⟨by (with_reducible repeat (first | apply Kd.V_alloc | apply Kd.V_drewN | apply Kd.V_drew)); exact HO_6.out⟩, ⟨by (with_reducible repeat (first | refine blk_drewN ?_ _ | refine blk_drew ?_ | refine blk_alloc ?_ _)); exact BK569.out⟩, ⟨by repeat (first | (with_reducible first | exact HB.out | apply below_alloc | apply pw_below_drewN | apply below_drew1 | refine below_set ?_ GE569.out) | exact HB.out)⟩⟩
              ·
               rw [if_neg c42] at H
               have c42b0 : decide (0 ≤ x9_5) = false := decide_eq_false c42
               clear c42
               replace H := Option.bind_eq_some_iff.mp H
               obtain ⟨t590, A580, H⟩ := H
               replace H : (some t590) = some r := H
               have A58 := Aside0.mk A580
               clear A580
               obtain rfl := Option.some.inj H
               obtain ⟨Ao59, co59, eo59⟩ := Kd.V_slice HO_4.out
               subst eo59
               go_wp2_with (first | ((with_reducible refine gate_callee (f := 102) rfl ?_); refine goesL_ (some 95) rfl rfl Tryd.func102 (by kernel_rfl) rfl #[.int .u64 x8_5, .int .i64 (wrap64 (-(wrap64 (56 - (wrap64 (t582 - t583)))))), .bool (decide (0 < x4_5.length))] rfl (by (try simp only [List.map_toArray, List.map_cons, List.map_nil]); first | done | rfl | (simp only [List.length_drop, List.length_take]; rfl) | (simp [Act.eval, Hd.wrap_u8]; done)) ?_; (with_reducible refine (num_nearest.calls k5 x8_5 (wrap64 (-(wrap64 (56 - (wrap64 (t582 - t583)))))) (decide (0 < x4_5.length)) t590 _ A58.out).mono ?_); rintro e w60 ⟨rfl, hb⟩; refine ⟨_, rfl, ?_⟩; have n0_ := Aside0.mk (Kd.V_below (by (with_reducible repeat (first | apply Kd.V_alloc | apply Kd.V_drewN | apply Kd.V_drew)); exact HO_4.out) hb); have n1_ := Aside0.mk (Kd.V_below (by (with_reducible repeat (first | apply Kd.V_alloc | apply Kd.V_drewN | apply Kd.V_drew)); exact HO_6.out) hb); have n2_ := Aside0.mk (blk_below (g := gb569) (o := .cells #[.string a0_0, .int .i64 a0_1] 79 (0, 0)) (by (with_reducible repeat (first | refine blk_drewN ?_ _ | refine blk_drew ?_ | refine blk_alloc ?_ _)); exact BK569.out) hb); have n3_ := Aside0.mk (below_step (by repeat (first | (with_reducible first | exact HB.out | apply below_alloc | apply pw_below_drewN | apply below_drew1 | refine below_set ?_ GE569.out) | exact HB.out)) hb); clear HO_4; clear HO_6; clear BK569; clear HB; have HO_4 := n0_; have HO_6 := n1_; have BK569 := n2_; have HB := n3_; clear n0_ n1_ n2_ n3_; (try clear hb); (try clear hb2); (try clear hk); (try clear hi)))
               go_ret
               exact ⟨by first | rfl | (simp [errW_none, errW_some] <;> rfl) | (simp [*, errW_none, errW_some] <;> rfl), by repeat (first | (with_reducible first | exact HB.out | apply below_alloc | apply pw_below_drewN | apply below_drew1 | refine below_set ?_ GE569.out) | exact HB.out)⟩

end Go.Proofs.YtjlnfnfdibfniaaDoor.F

/- A row of bytes that '[]byte(s)' has laid (it bears the run-time's mark behind its last cell): read, written, turned back to a string. -/
namespace Go.Proofs.YtjlnfnfdibfniaaDoor.Hd
open Go.RowKit Go.Proofs.YtjlnfnfdibfniaaDoorW.PrintWords Go.Proofs.YtjlnfnfdibfniaaDoorW.PrintLast

/-- Block B holds these bytes, and perhaps more behind them; none of its cells is frozen. -/
def BRow (w : World) (B : Nat) (bs : List UInt8) : Prop :=
  ∃ C : Array Value, w.heap[B]? = some (.cells C 5 (C.size, C.size + 1)) ∧ bs.length ≤ C.size ∧ ∀ i (h : i < bs.length), C[i]? = some (.int .u8 (bs[i].toNat : Int))

theorem BRow.cell {w : World} {B : Nat} {bs : List UInt8} (h : BRow w B bs) (i : Nat) (hi : i < bs.length) : w.cell? ⟨B, i, none⟩ = some (.int .u8 (bs[i].toNat : Int)) := by
  obtain ⟨C, h1, h2, h3⟩ := h
  unfold World.cell?
  dsimp only
  rw [h1]
  simpa using h3 i hi
theorem BRow.free {w : World} {B : Nat} {bs : List UInt8} (h : BRow w B bs) (i : Nat) (hi : i < bs.length) : w.frozen? ⟨B, i, none⟩ = false := by
  obtain ⟨C, h1, h2, h3⟩ := h
  unfold World.frozen?
  dsimp only
  rw [h1]
  simp
  omega
theorem BRow.set {w : World} {B : Nat} {bs : List UInt8} (h : BRow w B bs) (i : Nat) (v : UInt8) (z : Int) (hz : z = (v.toNat : Int)) : BRow (w.setCell ⟨B, i, none⟩ (.int .u8 z)) B (bs.set i v) := by
  subst hz
  obtain ⟨C, h1, h2, h3⟩ := h
  refine ⟨C.setIfInBounds i (.int .u8 (v.toNat : Int)), ?_, by simpa using h2, ?_⟩
  · unfold World.setCell
    simp only [Array.getElem?_modify, if_true, h1]
    simp
  · intro j hj
    have hj' : j < bs.length := by simpa using hj
    by_cases e : i = j
    · subst e
      rw [Array.getElem?_setIfInBounds_self_of_lt (by omega)]
      simp
    · rw [Array.getElem?_setIfInBounds_ne e, h3 j hj', List.getElem_set_ne e]
theorem BRow.string {w : World} {B : Nat} {bs : List UInt8} (h : BRow w B bs) (n cap : Nat) (hn : n = bs.length) :
    (convert 43 9 (.slice (some ⟨B, 0, none⟩) n cap)).run Tryd.prog w = .ok (.string ⟨bs.toArray⟩) w := by
  subst hn
  refine run_convert_bytes_back w 43 9 5 _ cap bs Tryd.underlying43 Tryd.underlying5 Tryd.underlying9 fun j hj => ?_
  have : (⟨B, 0, none⟩ : Addr).add j = ⟨B, j, none⟩ := by
    unfold Addr.add
    split
    · rename_i e; subst e; rfl
    · simp
  rw [this]
  exact h.cell j hj
theorem BRow.drewN {w : World} {B : Nat} {bs : List UInt8} (h : BRow w B bs) (n : Nat) : BRow (w.drewN n) B bs := h
theorem BRow.drew {w : World} {B : Nat} {bs : List UInt8} (h : BRow w B bs) : BRow w.drew B bs := h

/-- What '[]byte(s)' leaves. -/
theorem conv_bytes (s : ByteArray) (w : World) : ∃ (cap : Nat) (o : Obj), (convert 9 43 (.string s)).run Tryd.prog w = .ok (.slice (some ⟨w.heap.size, 0, none⟩) s.size cap) ((w.alloc o).drew) ∧ BRow ((w.alloc o).drew) w.heap.size s.data.toList := by
  have h := run_bytes_of_string (P := Tryd.prog) w 9 43 5 s Tryd.underlying9 Tryd.underlying43 Tryd.underlying5
  refine ⟨_, _, h, bytesRow s (grownCap w s.size 0 5), ?_, ?_, ?_⟩
  · show (w.heap.push _)[w.heap.size]? = _
    simp
  · simp [bytesRow]
  · intro i hi
    have hi' : i < s.data.size := by simpa using hi
    unfold bytesRow
    rw [Array.getElem?_append_left (by simpa using hi'), Array.getElem?_map, Array.getElem?_eq_getElem hi']
    rfl

/-- The first i bytes turned by f. -/
def mixed (f : UInt8 → UInt8) (bs : List UInt8) (i : Nat) : List UInt8 := (bs.take i).map f ++ bs.drop i
theorem mixed_zero (f : UInt8 → UInt8) (bs : List UInt8) : mixed f bs 0 = bs := by simp [mixed]
theorem mixed_length (f : UInt8 → UInt8) (bs : List UInt8) (i : Nat) : (mixed f bs i).length = bs.length := by simp [mixed]; omega
theorem mixed_all (f : UInt8 → UInt8) (bs : List UInt8) : mixed f bs bs.length = bs.map f := by simp [mixed]
theorem mixed_get (f : UInt8 → UInt8) (bs : List UInt8) (i : Nat) (h : i < bs.length) : (mixed f bs i)[i]'(by rw [mixed_length]; exact h) = bs[i] := by
  unfold mixed
  have hl : ((bs.take i).map f).length = i := by simp; omega
  rw [List.getElem_append_right (by omega)]
  simp only [hl, Nat.sub_self, List.getElem_drop, Nat.add_zero]
theorem mixed_set (f : UInt8 → UInt8) (bs : List UInt8) (i : Nat) (h : i < bs.length) : (mixed f bs i).set i (f bs[i]) = mixed f bs (i + 1) := by
  unfold mixed
  have hl : ((bs.take i).map f).length = i := by simp; omega
  rw [List.set_append_right _ _ (by omega), hl, Nat.sub_self, List.drop_eq_getElem_cons h, List.set_cons_zero]
  rw [List.take_succ_eq_append_getElem h, List.map_append, List.append_assoc]
  rfl
theorem mixed_same (f : UInt8 → UInt8) (bs : List UInt8) (i : Nat) (h : i < bs.length) (hf : f bs[i] = bs[i]) : mixed f bs (i + 1) = mixed f bs i := by
  rw [← mixed_set f bs i h, hf]
  apply List.ext_getElem
  · simp
  · intro j h1 h2
    by_cases e : i = j
    · subst e
      simp [mixed_get f bs i h]
    · rw [List.getElem_set_ne e]
end Go.Proofs.YtjlnfnfdibfniaaDoor.Hd

/- small, lower, less, times (functions 65, 68, 24, 27): texts turned byte by byte in a row made by '[]byte(s)'. -/
namespace Go.Proofs.YtjlnfnfdibfniaaDoor.Hd
open Go.RowKit Go.Proofs.YtjlnfnfdibfniaaDoorW.PrintWords Go.Proofs.YtjlnfnfdibfniaaDoorW.PrintLast

/-- A letter A to Z made small. -/
def low (c : UInt8) : UInt8 := if 65 ≤ c.toNat ∧ c.toNat ≤ 90 then UInt8.ofNat (c.toNat + 32) else c
theorem low_hit (c : UInt8) (h1 : 65 ≤ c.toNat) (h2 : c.toNat ≤ 90) : ((low c).toNat : Int) = (c.toNat : Int) + 32 := by
  unfold low
  rw [if_pos ⟨h1, h2⟩, UInt8.toNat_ofNat']
  omega

def smallF (s : ByteArray) : ByteArray := ⟨(s.data.toList.map low).toArray⟩
def num_small.f (a0 : ByteArray) : Option ByteArray := if a0.size ≤ 9223372036854775807 then some (smallF a0) else none

set_option maxHeartbeats 2000000 in
set_option maxRecDepth 100000 in
theorem small_any (s : ByteArray) (w : World) (hs : s.size ≤ 9223372036854775807) :
    Calls Tryd.prog 65 #[.string s] w fun e w' => e = .returned (.string (smallF s)) ∧ Below w.heap.size w w' := by
  obtain ⟨cap, o, hrun, hrow⟩ := conv_bytes s w
  have HW := Aside0.mk (rfl : s.data.toList.length = s.size)
  obtain ⟨bs, hbs⟩ : ∃ bs, bs = s.data.toList := ⟨_, rfl⟩
  obtain ⟨n, hn⟩ : ∃ n, n = s.size := ⟨_, rfl⟩
  rw [← hn] at hs hrun
  rw [← hbs] at hrow
  have HN := Aside0.mk hn
  have HBS := Aside0.mk hbs
  have HRow := Aside0.mk hrow
  have hlen : Aside0 (bs.length = n) := ⟨by rw [hbs, hn]; rfl⟩
  clear hn hbs hrow HW
  go_enter Tryd.func65, Tryd.ntmps65
  go_wp2
  go_loopg [10] (n + 1) (fun kq v10 wr => ∃ i : Nat, v10 = .int .i64 (i : Int) ∧ i ≤ n ∧ Aside0 (BRow wr w.heap.size (mixed low bs i)) ∧ Aside0 (Below w.heap.size w wr) ∧ Aside0 (n - i < kq))
  case atStart => exact ⟨0, rfl, Nat.zero_le _, ⟨by rw [mixed_zero]; exact HRow.out⟩, ⟨below_drew1 ((Below.refl _ _).alloc (Nat.le_refl _) _)⟩, ⟨by omega⟩⟩
  case round =>
    obtain ⟨i, rfl, hi, HR, HB, HK⟩ := hrel
    by_cases hlt : i < n
    · obtain ⟨c, hcell, hfree, HC, HD⟩ : ∃ c : UInt8, wr.cell? ⟨w.heap.size, i, none⟩ = some (.int .u8 (c.toNat : Int)) ∧ wr.frozen? ⟨w.heap.size, i, none⟩ = false ∧
          Aside0 (∀ z : Int, z = ((low c).toNat : Int) → BRow (wr.setCell ⟨w.heap.size, i, none⟩ (.int .u8 z)) w.heap.size (mixed low bs (i + 1))) ∧
          Aside0 (low c = c → BRow wr w.heap.size (mixed low bs (i + 1))) := by
        have hil : i < bs.length := by rw [hlen.out]; exact hlt
        have hil' : i < (mixed low bs i).length := by rw [mixed_length]; exact hil
        refine ⟨bs[i], ?_, HR.out.free i hil', ⟨fun z hz => ?_⟩, ⟨fun h => ?_⟩⟩
        · rw [← mixed_get low bs i hil]; exact HR.out.cell i hil'
        · rw [← mixed_set low bs i hil]; exact HR.out.set i _ z hz
        · rw [mixed_same low bs i hil h]; exact HR.out
      clear HR
      have hc255 := c.toNat_lt
      by_cases h1 : 65 ≤ c.toNat
      · by_cases h2 : c.toNat ≤ 90
        · have hb1 : decide ((65 : Int) ≤ (c.toNat : Int)) = true := by simp; omega
          have hb2 : decide ((c.toNat : Int) ≤ (90 : Int)) = true := by simp; omega
          go_wp2
          go_roundg (gk - 1)
          case measure => have := HK.out; omega
          case rel => exact ⟨i + 1, by go_num, by omega, ⟨HC.out _ (by rw [low_hit c h1 h2] <;> omega)⟩, ⟨below_set HB.out (Nat.le_refl _)⟩, ⟨by have := HK.out; omega⟩⟩
        · have hb1 : decide ((65 : Int) ≤ (c.toNat : Int)) = true := by simp; omega
          have hb2 : decide ((c.toNat : Int) ≤ (90 : Int)) = false := by simp; omega
          go_wp2
          go_roundg (gk - 1)
          case measure => have := HK.out; omega
          case rel => exact ⟨i + 1, by go_num, by omega, ⟨HD.out (by unfold low; rw [if_neg (by omega)])⟩, HB, ⟨by have := HK.out; omega⟩⟩
      · have hb1 : decide ((65 : Int) ≤ (c.toNat : Int)) = false := by simp; omega
        go_wp2
        go_roundg (gk - 1)
        case measure => have := HK.out; omega
        case rel => exact ⟨i + 1, by go_num, by omega, ⟨HD.out (by unfold low; rw [if_neg (by omega)])⟩, HB, ⟨by have := HK.out; omega⟩⟩
    · obtain rfl : i = n := by omega
      have hst := HR.out.string i cap (by rw [mixed_length]; exact hlen.out.symm)
      have he : Aside0 (ByteArray.mk (mixed low bs i).toArray = smallF s) := ⟨by rw [← hlen.out, mixed_all, HBS.out]; rfl⟩
      go_wp2
      go_ret
      exact ⟨by rw [← he.out]; rfl, HB.out⟩

theorem num_small.calls (a0 : ByteArray) (r : ByteArray) (w : World) (h : num_small.f a0 = some r) :
    Calls Tryd.prog 65 #[.string a0] w fun e w' => e = .returned (.string r) ∧ Below w.heap.size w w' := by
  unfold num_small.f at h
  split at h
  · cases h
    exact small_any a0 w (by assumption)
  · cases h
/- by mkbytes.py -/
def vigilref03_lower.f (a0 : ByteArray) : Option ByteArray := if a0.size ≤ 9223372036854775807 then some (smallF a0) else none

set_option maxHeartbeats 2000000 in
set_option maxRecDepth 100000 in
theorem lower_any (s : ByteArray) (w : World) (hs : s.size ≤ 9223372036854775807) :
    Calls Tryd.prog 68 #[.string s] w fun e w' => e = .returned (.string (smallF s)) ∧ Below w.heap.size w w' := by
  obtain ⟨cap, o, hrun, hrow⟩ := conv_bytes s w
  have HW := Aside0.mk (rfl : s.data.toList.length = s.size)
  obtain ⟨bs, hbs⟩ : ∃ bs, bs = s.data.toList := ⟨_, rfl⟩
  obtain ⟨n, hn⟩ : ∃ n, n = s.size := ⟨_, rfl⟩
  rw [← hn] at hs hrun
  rw [← hbs] at hrow
  have HN := Aside0.mk hn
  have HBS := Aside0.mk hbs
  have HRow := Aside0.mk hrow
  have hlen : Aside0 (bs.length = n) := ⟨by rw [hbs, hn]; rfl⟩
  clear hn hbs hrow HW
  go_enter Tryd.func68, Tryd.ntmps68
  go_wp2
  go_loopg [4] (n + 1) (fun kq v4 wr => ∃ i : Nat, v4 = .int .i64 (i : Int) ∧ i ≤ n ∧ Aside0 (BRow wr w.heap.size (mixed low bs i)) ∧ Aside0 (Below w.heap.size w wr) ∧ Aside0 (n - i < kq))
  case atStart => exact ⟨0, rfl, Nat.zero_le _, ⟨by rw [mixed_zero]; exact HRow.out⟩, ⟨below_drew1 ((Below.refl _ _).alloc (Nat.le_refl _) _)⟩, ⟨by omega⟩⟩
  case round =>
    obtain ⟨i, rfl, hi, HR, HB, HK⟩ := hrel
    by_cases hlt : i < n
    · obtain ⟨c, hcell, hfree, HC, HD⟩ : ∃ c : UInt8, wr.cell? ⟨w.heap.size, i, none⟩ = some (.int .u8 (c.toNat : Int)) ∧ wr.frozen? ⟨w.heap.size, i, none⟩ = false ∧
          Aside0 (∀ z : Int, z = ((low c).toNat : Int) → BRow (wr.setCell ⟨w.heap.size, i, none⟩ (.int .u8 z)) w.heap.size (mixed low bs (i + 1))) ∧
          Aside0 (low c = c → BRow wr w.heap.size (mixed low bs (i + 1))) := by
        have hil : i < bs.length := by rw [hlen.out]; exact hlt
        have hil' : i < (mixed low bs i).length := by rw [mixed_length]; exact hil
        refine ⟨bs[i], ?_, HR.out.free i hil', ⟨fun z hz => ?_⟩, ⟨fun h => ?_⟩⟩
        · rw [← mixed_get low bs i hil]; exact HR.out.cell i hil'
        · rw [← mixed_set low bs i hil]; exact HR.out.set i _ z hz
        · rw [mixed_same low bs i hil h]; exact HR.out
      clear HR
      have hc255 := c.toNat_lt
      by_cases h1 : 65 ≤ c.toNat
      · by_cases h2 : c.toNat ≤ 90
        · have hb1 : decide ((65 : Int) ≤ (c.toNat : Int)) = true := by simp; omega
          have hb2 : decide ((c.toNat : Int) ≤ (90 : Int)) = true := by simp; omega
          go_wp2
          go_roundg (gk - 1)
          case measure => have := HK.out; omega
          case rel => exact ⟨i + 1, by go_num, by omega, ⟨HC.out _ (by rw [low_hit c h1 h2] <;> omega)⟩, ⟨below_set HB.out (Nat.le_refl _)⟩, ⟨by have := HK.out; omega⟩⟩
        · have hb1 : decide ((65 : Int) ≤ (c.toNat : Int)) = true := by simp; omega
          have hb2 : decide ((c.toNat : Int) ≤ (90 : Int)) = false := by simp; omega
          go_wp2
          go_roundg (gk - 1)
          case measure => have := HK.out; omega
          case rel => exact ⟨i + 1, by go_num, by omega, ⟨HD.out (by unfold low; rw [if_neg (by omega)])⟩, HB, ⟨by have := HK.out; omega⟩⟩
      · have hb1 : decide ((65 : Int) ≤ (c.toNat : Int)) = false := by simp; omega
        go_wp2
        go_roundg (gk - 1)
        case measure => have := HK.out; omega
        case rel => exact ⟨i + 1, by go_num, by omega, ⟨HD.out (by unfold low; rw [if_neg (by omega)])⟩, HB, ⟨by have := HK.out; omega⟩⟩
    · obtain rfl : i = n := by omega
      have hst := HR.out.string i cap (by rw [mixed_length]; exact hlen.out.symm)
      have he : Aside0 (ByteArray.mk (mixed low bs i).toArray = smallF s) := ⟨by rw [← hlen.out, mixed_all, HBS.out]; rfl⟩
      go_wp2
      go_ret
      exact ⟨by rw [← he.out]; rfl, HB.out⟩

theorem vigilref03_lower.calls (a0 : ByteArray) (r : ByteArray) (w : World) (h : vigilref03_lower.f a0 = some r) :
    Calls Tryd.prog 68 #[.string a0] w fun e w' => e = .returned (.string r) ∧ Below w.heap.size w w' := by
  unfold vigilref03_lower.f at h
  split at h
  · cases h
    exact lower_any a0 w (by assumption)
  · cases h

/-- A number of decimal digits less one, the last digit first. -/
def lessR : List UInt8 → List UInt8
  | [] => []
  | c :: r => if 48 < c.toNat then UInt8.ofNat (c.toNat - 1) :: r else 57 :: lessR r
/-- One greater, the last digit first. -/
def timesR : List UInt8 → List UInt8
  | [] => [49]
  | c :: r => if c.toNat < 57 then UInt8.ofNat (c.toNat + 1) :: r else 48 :: timesR r
/-- What is left to be turned at place j; behind it all digits are d. -/
def tail (d : UInt8) (bs : List UInt8) (n j : Nat) : List UInt8 := bs.take j ++ List.replicate (n - j) d
theorem tail_all (d : UInt8) (bs : List UInt8) : tail d bs bs.length bs.length = bs := by simp [tail]
theorem tail_length (d : UInt8) (bs : List UInt8) (n j : Nat) (hn : bs.length = n) (h : j ≤ n) : (tail d bs n j).length = n := by simp [tail]; omega
theorem tail_get (d : UInt8) (bs : List UInt8) (n i : Nat) (hn : bs.length = n) (h : i < n) : (tail d bs n (i + 1))[i]'(by rw [tail_length d bs n _ hn (by omega)]; exact h) = bs[i]'(by omega) := by
  unfold tail
  rw [List.getElem_append_left (by rw [List.length_take]; omega)]
  simp
theorem tail_set (d v : UInt8) (bs : List UInt8) (n i : Nat) (hn : bs.length = n) (h : i < n) : (tail d bs n (i + 1)).set i v = bs.take i ++ v :: List.replicate (n - (i + 1)) d := by
  unfold tail
  rw [List.take_succ_eq_append_getElem (by omega)]
  have hl : (bs.take i).length = i := by rw [List.length_take]; omega
  rw [List.append_assoc, List.set_append_right _ _ (by omega), hl, Nat.sub_self]
  simp
theorem tail_next (d : UInt8) (bs : List UInt8) (n i : Nat) (hn : bs.length = n) (h : i < n) : (tail d bs n (i + 1)).set i d = tail d bs n i := by
  rw [tail_set d d bs n i hn h]
  unfold tail
  rw [show n - i = n - (i + 1) + 1 from by omega, List.replicate_succ]
theorem rev_take (bs : List UInt8) (i : Nat) (h : i < bs.length) : (bs.take (i + 1)).reverse = bs[i] :: (bs.take i).reverse := by
  rw [List.take_succ_eq_append_getElem h]
  simp
theorem rep_snoc (n i : Nat) (h : i < n) (d : UInt8) (l : List UInt8) : List.replicate (n - (i + 1)) d ++ d :: l = List.replicate (n - i) d ++ l := by
  rw [show n - i = n - (i + 1) + 1 from by omega, List.replicate_succ', List.append_assoc]
  rfl

def lessF (s : ByteArray) : ByteArray := ⟨(lessR s.data.toList.reverse).reverse.toArray⟩
def vigillaw03_less.f (a0 : ByteArray) : Option ByteArray := if a0.size ≤ 140737488355328 then some (lessF a0) else none
theorem less_hit (bs : List UInt8) (n i : Nat) (hn : bs.length = n) (h : i < n) (c : UInt8) (hc : c = bs[i]'(by omega)) (ht : 48 < c.toNat)
    (hR : lessR bs.reverse = List.replicate (n - (i + 1)) 57 ++ lessR (bs.take (i + 1)).reverse) :
    (tail 57 bs n (i + 1)).set i (UInt8.ofNat (c.toNat - 1)) = (lessR bs.reverse).reverse := by
  rw [hR, rev_take bs i (by omega), ← hc, lessR, if_pos ht, tail_set _ _ _ _ _ hn h]
  simp
theorem less_miss (bs : List UInt8) (n i : Nat) (hn : bs.length = n) (h : i < n) (c : UInt8) (hc : c = bs[i]'(by omega)) (ht : ¬ 48 < c.toNat)
    (hR : lessR bs.reverse = List.replicate (n - (i + 1)) 57 ++ lessR (bs.take (i + 1)).reverse) :
    lessR bs.reverse = List.replicate (n - i) 57 ++ lessR (bs.take i).reverse := by
  rw [hR, rev_take bs i (by omega), ← hc, lessR, if_neg ht, rep_snoc n i h]

set_option maxHeartbeats 2000000 in
set_option maxRecDepth 100000 in
theorem less_any (s : ByteArray) (w : World) (hs : s.size ≤ 140737488355328) :
    Calls Tryd.prog 24 #[.string s] w fun e w' => e = .returned (.string (lessF s)) ∧ Below w.heap.size w w' := by
  obtain ⟨cap, o, hrun, hrow⟩ := conv_bytes s w
  obtain ⟨bs, hbs⟩ : ∃ bs, bs = s.data.toList := ⟨_, rfl⟩
  obtain ⟨n, hn⟩ : ∃ n, n = s.size := ⟨_, rfl⟩
  rw [← hn] at hs hrun
  rw [← hbs] at hrow
  have HN := Aside0.mk hn
  have HBS := Aside0.mk hbs
  have HRow := Aside0.mk hrow
  have hlen : Aside0 (bs.length = n) := ⟨by rw [hbs, hn]; rfl⟩
  clear hn hbs hrow
  go_enter Tryd.func24, Tryd.ntmps24
  go_wp2
  go_loopg [4] (n + 1) (fun kq v4 wr => ∃ (z : Int) (j : Nat), v4 = .int .i64 z ∧ Aside0 (z + 1 = (j : Int)) ∧ j ≤ n ∧ Aside0 (BRow wr w.heap.size (tail 57 bs n j)) ∧ Aside0 (Below w.heap.size w wr) ∧ Aside0 (j < kq) ∧
      Aside0 (lessR bs.reverse = List.replicate (n - j) 57 ++ lessR (bs.take j).reverse))
  case atStart => exact ⟨_, n, rfl, ⟨by omega⟩, Nat.le_refl _, ⟨by have h := hlen.out; subst h; rw [tail_all]; exact HRow.out⟩, ⟨below_drew1 ((Below.refl _ _).alloc (Nat.le_refl _) _)⟩, ⟨by omega⟩, ⟨by have h := hlen.out; subst h; simp⟩⟩
  case round =>
    obtain ⟨z, j, rfl, HZ, hj, HR, HB, HK, HT⟩ := hrel
    rcases j with _ | i
    · obtain rfl : z = -1 := by have := HZ.out; omega
      have hst := HR.out.string n cap (by rw [tail_length _ _ _ _ hlen.out (by omega)])
      have he : Aside0 (ByteArray.mk (tail 57 bs n 0).toArray = lessF s) := ⟨by
        unfold lessF
        rw [← HBS.out, HT.out]
        simp [tail, lessR]⟩
      have hsz : (tail 57 bs n 0).length = n := by rw [tail_length _ _ _ _ hlen.out (by omega)]
      go_wp2
      go_ret
      exact ⟨by rw [← he.out]; rfl, HB.out⟩
    · obtain rfl : z = (i : Int) := by have := HZ.out; omega
      obtain ⟨c, hcell, hfree, HC⟩ : ∃ c : UInt8, wr.cell? ⟨w.heap.size, i, none⟩ = some (.int .u8 (c.toNat : Int)) ∧ wr.frozen? ⟨w.heap.size, i, none⟩ = false ∧ Aside0 (c = bs[i]'(by have := hlen.out; omega)) := by
        have hil' : i < (tail 57 bs n (i + 1)).length := by rw [tail_length _ _ _ _ hlen.out hj]; omega
        refine ⟨bs[i]'(by have := hlen.out; omega), ?_, HR.out.free i hil', ⟨rfl⟩⟩
        rw [← tail_get 57 bs n i hlen.out (by omega)]; exact HR.out.cell i hil'
      have hc255 := c.toNat_lt
      by_cases h1 : 48 < c.toNat
      · have hb1 : decide ((48 : Int) < (c.toNat : Int)) = true := by simp; omega
        have hnext := HR.out.set i (UInt8.ofNat (c.toNat - 1)) ((c.toNat : Int) - 1) (by rw [UInt8.toNat_ofNat']; omega)
        rw [less_hit bs n i hlen.out (by omega) c HC.out h1 HT.out] at hnext
        have hst := hnext.string n cap (by
          have := congrArg List.length (less_hit bs n i hlen.out (by omega) c HC.out h1 HT.out)
          rw [List.length_set, tail_length _ _ _ _ hlen.out hj] at this
          exact this)
        clear hnext
        have he : Aside0 (ByteArray.mk (lessR bs.reverse).reverse.toArray = lessF s) := ⟨by rw [HBS.out]; rfl⟩
        obtain ⟨res, hres⟩ : ∃ l, l = (lessR bs.reverse).reverse := ⟨_, rfl⟩
        rw [← hres] at hst
        have HRes := Aside0.mk hres
        clear hres
        go_wp2
        go_ret
        exact ⟨by rw [← he.out, ← HRes.out]; rfl, below_set HB.out (Nat.le_refl _)⟩
      · have hb1 : decide ((48 : Int) < (c.toNat : Int)) = false := by simp; omega
        have HN2 := Aside0.mk (HR.out.set i 57 57 rfl)
        have HT2 := Aside0.mk (less_miss bs n i hlen.out (by omega) c HC.out h1 HT.out)
        go_wp2
        go_roundg (gk - 1)
        case measure => have := HK.out; omega
        case rel => exact ⟨_, i, rfl, ⟨by omega⟩, by omega, ⟨by rw [← tail_next 57 bs n i hlen.out (by omega)]; exact HN2.out⟩, ⟨below_set HB.out (Nat.le_refl _)⟩, ⟨by have := HK.out; omega⟩, HT2⟩

theorem vigillaw03_less.calls (a0 : ByteArray) (r : ByteArray) (w : World) (h : vigillaw03_less.f a0 = some r) :
    Calls Tryd.prog 24 #[.string a0] w fun e w' => e = .returned (.string r) ∧ Below w.heap.size w w' := by
  unfold vigillaw03_less.f at h
  split at h
  · cases h
    exact less_any a0 w (by assumption)
  · cases h

def timesF (s : ByteArray) : ByteArray := ⟨(timesR s.data.toList.reverse).reverse.toArray⟩
def vigillaw03_times.f (a0 : ByteArray) : Option ByteArray := if a0.size ≤ 140737488355328 then some (timesF a0) else none
theorem times_hit (bs : List UInt8) (n i : Nat) (hn : bs.length = n) (h : i < n) (c : UInt8) (hc : c = bs[i]'(by omega)) (ht : c.toNat < 57)
    (hR : timesR bs.reverse = List.replicate (n - (i + 1)) 48 ++ timesR (bs.take (i + 1)).reverse) :
    (tail 48 bs n (i + 1)).set i (UInt8.ofNat (c.toNat + 1)) = (timesR bs.reverse).reverse := by
  rw [hR, rev_take bs i (by omega), ← hc, timesR, if_pos ht, tail_set _ _ _ _ _ hn h]
  simp
theorem times_miss (bs : List UInt8) (n i : Nat) (hn : bs.length = n) (h : i < n) (c : UInt8) (hc : c = bs[i]'(by omega)) (ht : ¬ c.toNat < 57)
    (hR : timesR bs.reverse = List.replicate (n - (i + 1)) 48 ++ timesR (bs.take (i + 1)).reverse) :
    timesR bs.reverse = List.replicate (n - i) 48 ++ timesR (bs.take i).reverse := by
  rw [hR, rev_take bs i (by omega), ← hc, timesR, if_neg ht, rep_snoc n i h]

set_option maxHeartbeats 2000000 in
set_option maxRecDepth 100000 in
theorem times_any (s : ByteArray) (w : World) (hs : s.size ≤ 140737488355328) :
    Calls Tryd.prog 27 #[.string s] w fun e w' => e = .returned (.string (timesF s)) ∧ Below w.heap.size w w' := by
  obtain ⟨cap, o, hrun, hrow⟩ := conv_bytes s w
  obtain ⟨bs, hbs⟩ : ∃ bs, bs = s.data.toList := ⟨_, rfl⟩
  obtain ⟨n, hn⟩ : ∃ n, n = s.size := ⟨_, rfl⟩
  rw [← hn] at hs hrun
  rw [← hbs] at hrow
  have HN := Aside0.mk hn
  have HBS := Aside0.mk hbs
  have HRow := Aside0.mk hrow
  have hlen : Aside0 (bs.length = n) := ⟨by rw [hbs, hn]; rfl⟩
  clear hn hbs hrow
  go_enter Tryd.func27, Tryd.ntmps27
  go_wp2
  go_loopg [4] (n + 1) (fun kq v4 wr => ∃ (z : Int) (j : Nat), v4 = .int .i64 z ∧ Aside0 (z + 1 = (j : Int)) ∧ j ≤ n ∧ Aside0 (BRow wr w.heap.size (tail 48 bs n j)) ∧ Aside0 (Below w.heap.size w wr) ∧ Aside0 (j < kq) ∧
      Aside0 (timesR bs.reverse = List.replicate (n - j) 48 ++ timesR (bs.take j).reverse))
  case atStart => exact ⟨_, n, rfl, ⟨by omega⟩, Nat.le_refl _, ⟨by have h := hlen.out; subst h; rw [tail_all]; exact HRow.out⟩, ⟨below_drew1 ((Below.refl _ _).alloc (Nat.le_refl _) _)⟩, ⟨by omega⟩, ⟨by have h := hlen.out; subst h; simp⟩⟩
  case round =>
    obtain ⟨z, j, rfl, HZ, hj, HR, HB, HK, HT⟩ := hrel
    rcases j with _ | i
    · obtain rfl : z = -1 := by have := HZ.out; omega
      have hst := HR.out.string n cap (by rw [tail_length _ _ _ _ hlen.out (by omega)])
      have he : Aside0 (ByteArray.mk (49 :: tail 48 bs n 0).toArray = timesF s) := ⟨by
        unfold timesF
        rw [← HBS.out, HT.out]
        simp [tail, timesR]⟩
      have hsz : (tail 48 bs n 0).length = n := by rw [tail_length _ _ _ _ hlen.out (by omega)]
      go_wp2
      go_ret
      exact ⟨by rw [← he.out]; rfl, HB.out⟩
    · obtain rfl : z = (i : Int) := by have := HZ.out; omega
      obtain ⟨c, hcell, hfree, HC⟩ : ∃ c : UInt8, wr.cell? ⟨w.heap.size, i, none⟩ = some (.int .u8 (c.toNat : Int)) ∧ wr.frozen? ⟨w.heap.size, i, none⟩ = false ∧ Aside0 (c = bs[i]'(by have := hlen.out; omega)) := by
        have hil' : i < (tail 48 bs n (i + 1)).length := by rw [tail_length _ _ _ _ hlen.out hj]; omega
        refine ⟨bs[i]'(by have := hlen.out; omega), ?_, HR.out.free i hil', ⟨rfl⟩⟩
        rw [← tail_get 48 bs n i hlen.out (by omega)]; exact HR.out.cell i hil'
      have hc255 := c.toNat_lt
      by_cases h1 : c.toNat < 57
      · have hb1 : decide ((c.toNat : Int) < (57 : Int)) = true := by simp; omega
        have hnext := HR.out.set i (UInt8.ofNat (c.toNat + 1)) ((c.toNat : Int) + 1) (by rw [UInt8.toNat_ofNat']; omega)
        rw [times_hit bs n i hlen.out (by omega) c HC.out h1 HT.out] at hnext
        have hst := hnext.string n cap (by
          have := congrArg List.length (times_hit bs n i hlen.out (by omega) c HC.out h1 HT.out)
          rw [List.length_set, tail_length _ _ _ _ hlen.out hj] at this
          exact this)
        clear hnext
        have he : Aside0 (ByteArray.mk (timesR bs.reverse).reverse.toArray = timesF s) := ⟨by rw [HBS.out]; rfl⟩
        obtain ⟨res, hres⟩ : ∃ l, l = (timesR bs.reverse).reverse := ⟨_, rfl⟩
        rw [← hres] at hst
        have HRes := Aside0.mk hres
        clear hres
        go_wp2
        go_ret
        exact ⟨by rw [← he.out, ← HRes.out]; rfl, below_set HB.out (Nat.le_refl _)⟩
      · have hb1 : decide ((c.toNat : Int) < (57 : Int)) = false := by simp; omega
        have HN2 := Aside0.mk (HR.out.set i 48 48 rfl)
        have HT2 := Aside0.mk (times_miss bs n i hlen.out (by omega) c HC.out h1 HT.out)
        go_wp2
        go_roundg (gk - 1)
        case measure => have := HK.out; omega
        case rel => exact ⟨_, i, rfl, ⟨by omega⟩, by omega, ⟨by rw [← tail_next 48 bs n i hlen.out (by omega)]; exact HN2.out⟩, ⟨below_set HB.out (Nat.le_refl _)⟩, ⟨by have := HK.out; omega⟩, HT2⟩

theorem vigillaw03_times.calls (a0 : ByteArray) (r : ByteArray) (w : World) (h : vigillaw03_times.f a0 = some r) :
    Calls Tryd.prog 27 #[.string a0] w fun e w' => e = .returned (.string r) ∧ Below w.heap.size w w' := by
  unfold vigillaw03_times.f at h
  split at h
  · cases h
    exact times_any a0 w (by assumption)
  · cases h
end Go.Proofs.YtjlnfnfdibfniaaDoor.Hd

-- Written by a program of this session (wip/vprint.py): Lean checks it.
namespace Go.Proofs.YtjlnfnfdibfniaaDoor.F
open Go.RowKit Go.Proofs.YtjlnfnfdibfniaaDoorW.PrintWords Go.Proofs.YtjlnfnfdibfniaaDoorW.PrintLast Go.Proofs.YtjlnfnfdibfniaaDoorW.PrintMore
attribute [local go_sem] max2_int min2_int max_two min_two max_three min_three max_four min_four   -- for this text's walks alone
set_option linter.unusedVariables false
set_option linter.unusedSimpArgs false

/-! ### num_Parse: function 18 -/
mutual
def num_Parse.j0 : Nat → ByteArray → Int → Bool → Option (Nat × Int)
 | 0, _, _, _ => none
 | k + 1, x0, x4, x21 => if x21 = true then (if 0 < (x0.size : Int) then (if (bt x0 0) = 45 then (if 1 ≤ (x0.size : Int) then (num_Parse.j1 k (x0.extract 1 x0.size) 9223372036854775808) else (none)) else (if 1 ≤ (x0.size : Int) then (num_Parse.j1 k (x0.extract 1 x0.size) x4) else (none))) else (none)) else (num_Parse.j1 k x0 x4)
def num_Parse.j1 : Nat → ByteArray → Int → Option (Nat × Int)
 | 0, _, _ => none
 | k + 1, x0, x4 => (Hd.num_small.f x0).bind fun t600 => (if t600.toList = ([110, 97, 110] : List UInt8) then (some ((9221120237041090561 : Int).toNat, 0)) else (if t600.toList = ([105, 110, 102] : List UInt8) then (some (((Go.bits .or .u64 9218868437227405312 x4) : Int).toNat, 0)) else (if t600.toList = ([105, 110, 102, 105, 110, 105, 116, 121] : List UInt8) then (some (((Go.bits .or .u64 9218868437227405312 x4) : Int).toNat, 0)) else ((num_read.f k x0).bind fun bt601 => (if bt601.2.2 = true then ((num_decimal_bits.f k bt601.1 bt601.2.1).bind fun t605 => (some (((Go.bits .or .u64 t605 x4) : Int).toNat, 0))) else (some (0, 8)))))))
end
def num_Parse.f (k : Nat) (a0 : ByteArray) : Option (Nat × Int) := if (a0.size : Int) > 400 then (some (0, 8)) else (if a0.toList = ([] : List UInt8) then (num_Parse.j0 k a0 0 false) else (if 0 < (a0.size : Int) then (if (bt a0 0) = 43 then (num_Parse.j0 k a0 0 true) else (num_Parse.j0 k a0 0 ((bt a0 0) == 45))) else (none)))
theorem num_Parse.mono_l : ∀ k, (∀ y0 y1 y2, LeO (num_Parse.j0 k y0 y1 y2) (num_Parse.j0 (k + 1) y0 y1 y2)) ∧ (∀ y0 y1, LeO (num_Parse.j1 k y0 y1) (num_Parse.j1 (k + 1) y0 y1))
 | 0 => ⟨fun _ _ _ r h => by simp [num_Parse.j0] at h, fun _ _ r h => by simp [num_Parse.j1] at h⟩
 | k + 1 => by
  obtain ⟨ih0, ih1⟩ := num_Parse.mono_l k
  refine ⟨?_, ?_⟩
  ·
   intro y0 y1 y2
   unfold num_Parse.j0
   repeat' first
   | (with_reducible exact ih0 _ _ _)
   | (with_reducible exact ih1 _ _)
   | (with_reducible exact num_decimal_bits.mono _ _ _)
   | (with_reducible exact num_read.mono _ _)
   | (with_reducible exact LeO.refl _)
   | (with_reducible exact LeO.none _)
   | (with_reducible refine LeO.ite ?_ ?_)
   | (with_reducible refine LeO.bind ?_ (fun _ => ?_))
   | exact ih0 _ _ _
   | exact ih1 _ _
   | exact num_decimal_bits.mono _ _ _
   | exact num_read.mono _ _
   | exact LeO.none _
   | refine LeO.ite ?_ ?_
   | refine LeO.bind ?_ (fun _ => ?_)
  ·
   intro y0 y1
   unfold num_Parse.j1
   repeat' first
   | (with_reducible exact ih0 _ _ _)
   | (with_reducible exact ih1 _ _)
   | (with_reducible exact num_decimal_bits.mono _ _ _)
   | (with_reducible exact num_read.mono _ _)
   | (with_reducible exact LeO.refl _)
   | (with_reducible exact LeO.none _)
   | (with_reducible refine LeO.ite ?_ ?_)
   | (with_reducible refine LeO.bind ?_ (fun _ => ?_))
   | exact ih0 _ _ _
   | exact ih1 _ _
   | exact num_decimal_bits.mono _ _ _
   | exact num_read.mono _ _
   | exact LeO.none _
   | refine LeO.ite ?_ ?_
   | refine LeO.bind ?_ (fun _ => ?_)
theorem num_Parse.mono : ∀ a0 k, LeO (num_Parse.f k a0) (num_Parse.f (k + 1) a0) := by
 intro a0 k
 obtain ⟨ih0, ih1⟩ := num_Parse.mono_l k
 unfold num_Parse.f
 repeat' first
   | (with_reducible exact ih0 _ _ _)
   | (with_reducible exact ih1 _ _)
   | (with_reducible exact num_decimal_bits.mono _ _ _)
   | (with_reducible exact num_read.mono _ _)
   | (with_reducible exact LeO.refl _)
   | (with_reducible exact LeO.none _)
   | (with_reducible refine LeO.ite ?_ ?_)
   | (with_reducible refine LeO.bind ?_ (fun _ => ?_))
   | exact ih0 _ _ _
   | exact ih1 _ _
   | exact num_decimal_bits.mono _ _ _
   | exact num_read.mono _ _
   | exact LeO.none _
   | refine LeO.ite ?_ ?_
   | refine LeO.bind ?_ (fun _ => ?_)
set_option maxHeartbeats 8000000 in
set_option maxRecDepth 100000 in
theorem num_Parse.calls (k : Nat) (a0 : ByteArray) (r1 : Nat) (r2 : Int) (w : World) (h : num_Parse.f k a0 = some (r1, r2)) :
  Calls Tryd.prog 18 #[.string a0] w fun e w' => e = .returned (.tuple #[.float .f64 r1, .int .i64 r2]) ∧ Below w.heap.size w w' := by
 have hu79 := Tryd.underlying79
 have HB := Aside0.mk (Below.refl w.heap.size w)
 have H : (if (a0.size : Int) > 400 then (some (0, 8)) else (if a0.toList = ([] : List UInt8) then (num_Parse.j0 k a0 0 false) else (if 0 < (a0.size : Int) then (if (bt a0 0) = 43 then (num_Parse.j0 k a0 0 true) else (num_Parse.j0 k a0 0 ((bt a0 0) == 45))) else (none)))) = some (r1, r2) := h
 clear h
 by_cases c2 : (a0.size : Int) > 400
 ·
  rw [if_pos c2] at H
  have c2b0 : decide (400 < (a0.size : Int)) = true := decide_eq_true c2
  have c2b1 : decide (400 < a0.size) = true := decide_eq_true (by omega)
  clear c2
  simp only [Option.some.injEq, Prod.mk.injEq] at H
  obtain ⟨rfl, rfl⟩ := H
  have hext0 := Hd.ext12
  go_enter Tryd.func18, Tryd.ntmps18
  go_wp2
  go_ret2
  exact ⟨by first | rfl | (simp [errW_none, errW_some] <;> rfl) | (simp [*, errW_none, errW_some] <;> rfl), by repeat (first | (with_reducible first | exact HB.out | apply below_alloc | apply pw_below_drewN | apply below_drew1) | exact HB.out)⟩
 ·
  rw [if_neg c2] at H
  have c2b0 : decide (400 < (a0.size : Int)) = false := decide_eq_false c2
  have c2b1 : decide (400 < a0.size) = false := decide_eq_false (by omega)
  clear c2
  have HC3 := Aside0.mk H
  clear H
  have hext0 := Hd.ext12
  go_enter Tryd.func18, Tryd.ntmps18
  go_upto_region 4 with (fail)
  go_cut [21] (fun v21 wc => ∃ (kq : Nat) (x21_2 : Bool), v21 = .bool x21_2 ∧ Aside0 (num_Parse.j0 kq a0 0 x21_2 = some (r1, r2)) ∧ Aside0 (kq ≤ k) ∧ Aside0 (Below w.heap.size w wc))
  case first =>
   have H := HC3.out
   clear HC3
   by_cases c4 : a0.toList = ([] : List UInt8)
   ·
    rw [if_pos c4] at H
    have c4b0 : (a0.toList == ([] : List UInt8)) = true := beq_iff_eq.mpr c4
    have c4b1 : (a0.toList != ([] : List UInt8)) = false := bne_eq_false_iff_eq.mpr c4
    clear c4
    (first | rw [c4b0] | (simp only [i64_w, i32_w]; rw [c4b0]) | skip)
    have H' := Aside0.mk H
    clear H
    go_wp2
    go_meet
    case rel => exact ⟨_, (false), (by first | rfl | (simp; done) | (simp [*]; done)), H', ⟨by first | omega | exact Nat.le_refl _⟩, ⟨by repeat (first | (with_reducible first | exact HB.out | apply below_alloc | apply pw_below_drewN | apply below_drew1) | exact HB.out)⟩⟩
   ·
    rw [if_neg c4] at H
    have c4b0 : (a0.toList == ([] : List UInt8)) = false := beq_eq_false_iff_ne.mpr c4
    have c4b1 : (a0.toList != ([] : List UInt8)) = true := bne_iff_ne.mpr c4
    (first | rw [c4b0] | (simp only [i64_w, i32_w]; rw [c4b0]) | skip)
    by_cases c5 : 0 < (a0.size : Int)
    ·
     rw [if_pos c5] at H
     have c5b0 : decide (0 < (a0.size : Int)) = true := decide_eq_true c5
     have c5b1 : decide (0 < a0.size) = true := decide_eq_true (by omega)
     clear c5
     by_cases c7 : (bt a0 0) = 43
     ·
      rw [if_pos c7] at H
      have c7b0 : ((bt a0 0) == 43) = true := beq_iff_eq.mpr c7
      have c7b1 : ((bt a0 0) != 43) = false := bne_eq_false_iff_eq.mpr c7
      clear c7
      have H' := Aside0.mk H
      clear H
      have p6 : 0 ≤ (0 : Int) := (by omega)
      have q6 : 0 < a0.size := (by have : (0 : Int) < (a0.size : Int) := of_decide_eq_true (by first | (with_reducible assumption) | assumption); omega)
      have hx6 : ∀ h : 0 < a0.size, ((a0[0]'h).toNat : Int) = bt a0 0 := bt_at a0 0
      clear p6
      have qi6 : (0 < (a0.size : Int)) = True := eq_true (of_decide_eq_true (by first | (with_reducible assumption) | assumption))
      replace q6 := eq_true q6
      go_wp2
      go_meet
      case rel => exact ⟨_, (true), (by first | rfl | (simp; done) | (simp [*]; done)), H', ⟨by first | omega | exact Nat.le_refl _⟩, ⟨by repeat (first | (with_reducible first | exact HB.out | apply below_alloc | apply pw_below_drewN | apply below_drew1) | exact HB.out)⟩⟩
     ·
      rw [if_neg c7] at H
      have c7b0 : ((bt a0 0) == 43) = false := beq_eq_false_iff_ne.mpr c7
      have c7b1 : ((bt a0 0) != 43) = true := bne_iff_ne.mpr c7
      have H' := Aside0.mk H
      clear H
      have p6 : 0 ≤ (0 : Int) := (by omega)
      have q6 : 0 < a0.size := (by have : (0 : Int) < (a0.size : Int) := of_decide_eq_true (by first | (with_reducible assumption) | assumption); omega)
      have hx6 : ∀ h : 0 < a0.size, ((a0[0]'h).toNat : Int) = bt a0 0 := bt_at a0 0
      clear p6
      have qi6 : (0 < (a0.size : Int)) = True := eq_true (of_decide_eq_true (by first | (with_reducible assumption) | assumption))
      replace q6 := eq_true q6
      have p8 : 0 ≤ (0 : Int) := (by omega)
      have q8 : 0 < a0.size := (by have : (0 : Int) < (a0.size : Int) := of_decide_eq_true (by first | (with_reducible assumption) | assumption); omega)
      have hx8 : ∀ h : 0 < a0.size, ((a0[0]'h).toNat : Int) = bt a0 0 := bt_at a0 0
      clear p8
      have qi8 : (0 < (a0.size : Int)) = True := eq_true (of_decide_eq_true (by first | (with_reducible assumption) | assumption))
      replace q8 := eq_true q8
      go_wp2
      go_meet
      case rel => exact ⟨_, (((bt a0 0) == 45)), (by first | rfl | (simp; done) | (simp [*]; done)), H', ⟨by first | omega | exact Nat.le_refl _⟩, ⟨by repeat (first | (with_reducible first | exact HB.out | apply below_alloc | apply pw_below_drewN | apply below_drew1) | exact HB.out)⟩⟩
    ·
     rw [if_neg c5] at H
     exact absurd H (by simp)
  case rest =>
   clear HC3
   try clear c1
   try clear c2
   try clear c2b0
   try clear c2b1
   try clear p2
   try clear c4
   try clear c4b0
   try clear c4b1
   try clear c5
   try clear c5b0
   try clear c5b1
   try clear p6
   try clear q6
   try clear hx6
   try clear qi6
   try clear c7
   try clear c7b0
   try clear c7b1
   try clear p8
   try clear q8
   try clear hx8
   try clear qi8
   try clear p6
   try clear p8
   try clear q6
   try clear q8
   obtain ⟨kq, x21_2, rfl, HA, HJ2, HB⟩ := hcut
   cases kq with
   | zero => exact absurd HA.out (by simp [num_Parse.j0])
   | succ kj2 =>
    have H := HA.out
    clear HA
    simp only [num_Parse.j0] at H
    have HC9 := Aside0.mk H
    clear H
    go_upto_if 21 with (fail)
    go_cut [0, 4] (fun v0 v4 wc => ∃ (kq : Nat) (x0_8 : ByteArray) (x4_8 : Int), v0 = .string x0_8 ∧ v4 = .int .u64 x4_8 ∧ Aside0 (num_Parse.j1 kq x0_8 x4_8 = some (r1, r2)) ∧ Aside0 (kq ≤ kj2) ∧ Aside0 (Below w.heap.size w wc))
    case first =>
     have H := HC9.out
     clear HC9
     by_cases c10 : x21_2 = true
     ·
      subst c10
      have H1 : (if 0 < (a0.size : Int) then (if (bt a0 0) = 45 then (if 1 ≤ (a0.size : Int) then (num_Parse.j1 kj2 (a0.extract 1 a0.size) 9223372036854775808) else (none)) else (if 1 ≤ (a0.size : Int) then (num_Parse.j1 kj2 (a0.extract 1 a0.size) 0) else (none))) else (none)) = some (r1, r2) := by rw [if_pos rfl] at H; exact H
      clear H
      have H := H1
      clear H1
      by_cases c11 : 0 < (a0.size : Int)
      ·
       rw [if_pos c11] at H
       have c11b0 : decide (0 < (a0.size : Int)) = true := decide_eq_true c11
       have c11b1 : decide (0 < a0.size) = true := decide_eq_true (by omega)
       clear c11
       (first | rw [c11b0] | (simp only [i64_w, i32_w]; rw [c11b0]) | skip)
       by_cases c13 : (bt a0 0) = 45
       ·
        rw [if_pos c13] at H
        have c13b0 : ((bt a0 0) == 45) = true := beq_iff_eq.mpr c13
        have c13b1 : ((bt a0 0) != 45) = false := bne_eq_false_iff_eq.mpr c13
        clear c13
        by_cases c14 : 1 ≤ (a0.size : Int)
        ·
         rw [if_pos c14] at H
         have c14b0 := eq_true c14
         have c14b1 : decide (1 ≤ (a0.size : Int)) = true := decide_eq_true c14
         clear c14
         obtain ⟨y598, hy598⟩ : ∃ y_ : ByteArray, y_ = (a0.extract 1 a0.size) := ⟨_, rfl⟩
         replace H : (num_Parse.j1 kj2 y598 9223372036854775808) = some (r1, r2) := by first | (rw [hy598]; with_reducible exact H) | (have H2_ := (Option.bind_some _ _).symm.trans H; rw [hy598]; with_reducible exact H2_) | (have H2_ := (Option.bind_some _ _).symm.trans H; with_reducible exact H2_) | with_reducible exact H | (rw [hy598]; exact H) | exact H
         have Ny598 := Aside0.mk hy598
         clear hy598
         have H' := Aside0.mk H
         clear H
         have p12 : 0 ≤ (0 : Int) := (by omega)
         have q12 : 0 < a0.size := (by have : (0 : Int) < (a0.size : Int) := of_decide_eq_true (by first | (with_reducible assumption) | assumption); omega)
         have hx12 : ∀ h : 0 < a0.size, ((a0[0]'h).toNat : Int) = bt a0 0 := bt_at a0 0
         clear p12
         have qi12 : (0 < (a0.size : Int)) = True := eq_true (of_decide_eq_true (by first | (with_reducible assumption) | assumption))
         replace q12 := eq_true q12
         have hcs15 := Hd.str_from (P := Tryd.prog) (k := .i64) Tryd.underlying9 (i := 1) (s := a0) (y := y598) (by first | (with_reducible assumption) | exact of_decide_eq_true (by first | (with_reducible assumption) | assumption) | omega) (by first | (with_reducible assumption) | exact of_decide_eq_true (by first | (with_reducible assumption) | assumption) | omega) Ny598.out
         go_wp2
         go_meet
         case rel => exact ⟨_, (y598), (9223372036854775808), (by first | rfl | (simp; done) | (simp [*]; done)), (by first | rfl | (simp; done) | (simp [*]; done)), H', ⟨by have := HJ2.out; first | omega | exact Nat.le_refl _⟩, ⟨by repeat (first | (with_reducible first | exact HB.out | apply below_alloc | apply pw_below_drewN | apply below_drew1) | exact HB.out)⟩⟩
        ·
         rw [if_neg c14] at H
         exact absurd H (by simp)
       ·
        rw [if_neg c13] at H
        have c13b0 : ((bt a0 0) == 45) = false := beq_eq_false_iff_ne.mpr c13
        have c13b1 : ((bt a0 0) != 45) = true := bne_iff_ne.mpr c13
        by_cases c16 : 1 ≤ (a0.size : Int)
        ·
         rw [if_pos c16] at H
         have c16b0 := eq_true c16
         have c16b1 : decide (1 ≤ (a0.size : Int)) = true := decide_eq_true c16
         clear c16
         obtain ⟨y599, hy599⟩ : ∃ y_ : ByteArray, y_ = (a0.extract 1 a0.size) := ⟨_, rfl⟩
         replace H : (num_Parse.j1 kj2 y599 0) = some (r1, r2) := by first | (rw [hy599]; with_reducible exact H) | (have H2_ := (Option.bind_some _ _).symm.trans H; rw [hy599]; with_reducible exact H2_) | (have H2_ := (Option.bind_some _ _).symm.trans H; with_reducible exact H2_) | with_reducible exact H | (rw [hy599]; exact H) | exact H
         have Ny599 := Aside0.mk hy599
         clear hy599
         have H' := Aside0.mk H
         clear H
         have p12 : 0 ≤ (0 : Int) := (by omega)
         have q12 : 0 < a0.size := (by have : (0 : Int) < (a0.size : Int) := of_decide_eq_true (by first | (with_reducible assumption) | assumption); omega)
         have hx12 : ∀ h : 0 < a0.size, ((a0[0]'h).toNat : Int) = bt a0 0 := bt_at a0 0
         clear p12
         have qi12 : (0 < (a0.size : Int)) = True := eq_true (of_decide_eq_true (by first | (with_reducible assumption) | assumption))
         replace q12 := eq_true q12
         have hcs17 := Hd.str_from (P := Tryd.prog) (k := .i64) Tryd.underlying9 (i := 1) (s := a0) (y := y599) (by first | (with_reducible assumption) | exact of_decide_eq_true (by first | (with_reducible assumption) | assumption) | omega) (by first | (with_reducible assumption) | exact of_decide_eq_true (by first | (with_reducible assumption) | assumption) | omega) Ny599.out
         go_wp2
         go_meet
         case rel => exact ⟨_, (y599), (0), (by first | rfl | (simp; done) | (simp [*]; done)), (by first | rfl | (simp; done) | (simp [*]; done)), H', ⟨by have := HJ2.out; first | omega | exact Nat.le_refl _⟩, ⟨by repeat (first | (with_reducible first | exact HB.out | apply below_alloc | apply pw_below_drewN | apply below_drew1) | exact HB.out)⟩⟩
        ·
         rw [if_neg c16] at H
         exact absurd H (by simp)
      ·
       rw [if_neg c11] at H
       exact absurd H (by simp)
     ·
      replace c10 := Bool.eq_false_iff.mpr c10
      subst c10
      have H1 : (num_Parse.j1 kj2 a0 0) = some (r1, r2) := by rw [if_neg (show ¬ (false = true) by decide)] at H; exact H
      clear H
      have H := H1
      clear H1
      have H' := Aside0.mk H
      clear H
      go_wp2
      go_meet
      case rel => exact ⟨_, (a0), (0), (by first | rfl | (simp; done) | (simp [*]; done)), (by first | rfl | (simp; done) | (simp [*]; done)), H', ⟨by have := HJ2.out; first | omega | exact Nat.le_refl _⟩, ⟨by repeat (first | (with_reducible first | exact HB.out | apply below_alloc | apply pw_below_drewN | apply below_drew1) | exact HB.out)⟩⟩
    case rest =>
     clear HC9
     try clear c1
     try clear p1
     try clear q1
     try clear hx1
     try clear qi1
     try clear c2
     try clear c2b0
     try clear c2b1
     try clear p2
     try clear c4
     try clear c4b0
     try clear c4b1
     try clear c5
     try clear c5b0
     try clear c5b1
     try clear p6
     try clear q6
     try clear hx6
     try clear qi6
     try clear c7
     try clear c7b0
     try clear c7b1
     try clear p8
     try clear q8
     try clear hx8
     try clear qi8
     try clear c10
     try clear c11
     try clear c11b0
     try clear c11b1
     try clear p12
     try clear q12
     try clear hx12
     try clear qi12
     try clear c13
     try clear c13b0
     try clear c13b1
     try clear c14
     try clear c14b0
     try clear c14b1
     try clear c16
     try clear c16b0
     try clear c16b1
     try clear p12
     try clear p2
     try clear p6
     try clear p8
     try clear q12
     try clear q6
     try clear q8
     obtain ⟨kq, x0_8, x4_8, rfl, rfl, HA, HJ8, HB⟩ := hcut
     cases kq with
     | zero => exact absurd HA.out (by simp [num_Parse.j1])
     | succ kj8 =>
      have H := HA.out
      clear HA
      simp only [num_Parse.j1] at H
      replace H := Option.bind_eq_some_iff.mp H
      obtain ⟨t600, A180, H⟩ := H
      replace H : (if t600.toList = ([110, 97, 110] : List UInt8) then (some ((9221120237041090561 : Int).toNat, 0)) else (if t600.toList = ([105, 110, 102] : List UInt8) then (some (((Go.bits .or .u64 9218868437227405312 x4_8) : Int).toNat, 0)) else (if t600.toList = ([105, 110, 102, 105, 110, 105, 116, 121] : List UInt8) then (some (((Go.bits .or .u64 9218868437227405312 x4_8) : Int).toNat, 0)) else ((num_read.f kj8 x0_8).bind fun bt601 => (if bt601.2.2 = true then ((num_decimal_bits.f kj8 bt601.1 bt601.2.1).bind fun t605 => (some (((Go.bits .or .u64 t605 x4_8) : Int).toNat, 0))) else (some (0, 8))))))) = some (r1, r2) := H
      have A18 := Aside0.mk A180
      clear A180
      by_cases c19 : t600.toList = ([110, 97, 110] : List UInt8)
      ·
       rw [if_pos c19] at H
       have c19b0 : (t600.toList == ([110, 97, 110] : List UInt8)) = true := beq_iff_eq.mpr c19
       have c19b1 : (t600.toList != ([110, 97, 110] : List UInt8)) = false := bne_eq_false_iff_eq.mpr c19
       clear c19
       simp only [Option.some.injEq, Prod.mk.injEq] at H
       obtain ⟨rfl, rfl⟩ := H
       go_wp2_with (first | ((with_reducible refine gate_callee (f := 65) rfl ?_); refine goesL_ (some 28) rfl rfl Tryd.func65 (by kernel_rfl) rfl #[.string x0_8] rfl (by (try simp only [List.map_toArray, List.map_cons, List.map_nil]); first | done | rfl | (simp only [List.length_drop, List.length_take]; rfl) | (simp [Act.eval, Hd.wrap_u8]; done)) ?_; (with_reducible refine (Hd.num_small.calls x0_8 t600 _ A18.out).mono ?_); rintro e w20 ⟨rfl, hb⟩; refine ⟨_, rfl, ?_⟩; have n0_ := Aside0.mk (below_step (by repeat (first | (with_reducible first | exact HB.out | apply below_alloc | apply pw_below_drewN | apply below_drew1) | exact HB.out)) hb); clear HB; have HB := n0_; clear n0_; (try clear hb); (try clear hb2); (try clear hk); (try clear hi)))
       go_ret2
       exact ⟨by first | rfl | (simp [errW_none, errW_some] <;> rfl) | (simp [*, errW_none, errW_some] <;> rfl), by repeat (first | (with_reducible first | exact HB.out | apply below_alloc | apply pw_below_drewN | apply below_drew1) | exact HB.out)⟩
      ·
       rw [if_neg c19] at H
       have c19b0 : (t600.toList == ([110, 97, 110] : List UInt8)) = false := beq_eq_false_iff_ne.mpr c19
       have c19b1 : (t600.toList != ([110, 97, 110] : List UInt8)) = true := bne_iff_ne.mpr c19
       by_cases c21 : t600.toList = ([105, 110, 102] : List UInt8)
       ·
        rw [if_pos c21] at H
        have c21b0 : (t600.toList == ([105, 110, 102] : List UInt8)) = true := beq_iff_eq.mpr c21
        have c21b1 : (t600.toList != ([105, 110, 102] : List UInt8)) = false := bne_eq_false_iff_eq.mpr c21
        clear c21
        simp only [Option.some.injEq, Prod.mk.injEq] at H
        obtain ⟨rfl, rfl⟩ := H
        go_wp2_with (first | ((with_reducible refine gate_callee (f := 65) rfl ?_); refine goesL_ (some 28) rfl rfl Tryd.func65 (by kernel_rfl) rfl #[.string x0_8] rfl (by (try simp only [List.map_toArray, List.map_cons, List.map_nil]); first | done | rfl | (simp only [List.length_drop, List.length_take]; rfl) | (simp [Act.eval, Hd.wrap_u8]; done)) ?_; (with_reducible refine (Hd.num_small.calls x0_8 t600 _ A18.out).mono ?_); rintro e w22 ⟨rfl, hb⟩; refine ⟨_, rfl, ?_⟩; have n0_ := Aside0.mk (below_step (by repeat (first | (with_reducible first | exact HB.out | apply below_alloc | apply pw_below_drewN | apply below_drew1) | exact HB.out)) hb); clear HB; have HB := n0_; clear n0_; (try clear hb); (try clear hb2); (try clear hk); (try clear hi)))
        go_ret2
        exact ⟨by first | rfl | (simp [errW_none, errW_some] <;> rfl) | (simp [*, errW_none, errW_some] <;> rfl), by repeat (first | (with_reducible first | exact HB.out | apply below_alloc | apply pw_below_drewN | apply below_drew1) | exact HB.out)⟩
       ·
        rw [if_neg c21] at H
        have c21b0 : (t600.toList == ([105, 110, 102] : List UInt8)) = false := beq_eq_false_iff_ne.mpr c21
        have c21b1 : (t600.toList != ([105, 110, 102] : List UInt8)) = true := bne_iff_ne.mpr c21
        by_cases c23 : t600.toList = ([105, 110, 102, 105, 110, 105, 116, 121] : List UInt8)
        ·
         rw [if_pos c23] at H
         have c23b0 : (t600.toList == ([105, 110, 102, 105, 110, 105, 116, 121] : List UInt8)) = true := beq_iff_eq.mpr c23
         have c23b1 : (t600.toList != ([105, 110, 102, 105, 110, 105, 116, 121] : List UInt8)) = false := bne_eq_false_iff_eq.mpr c23
         clear c23
         simp only [Option.some.injEq, Prod.mk.injEq] at H
         obtain ⟨rfl, rfl⟩ := H
         go_wp2_with (first | ((with_reducible refine gate_callee (f := 65) rfl ?_); refine goesL_ (some 28) rfl rfl Tryd.func65 (by kernel_rfl) rfl #[.string x0_8] rfl (by (try simp only [List.map_toArray, List.map_cons, List.map_nil]); first | done | rfl | (simp only [List.length_drop, List.length_take]; rfl) | (simp [Act.eval, Hd.wrap_u8]; done)) ?_; (with_reducible refine (Hd.num_small.calls x0_8 t600 _ A18.out).mono ?_); rintro e w24 ⟨rfl, hb⟩; refine ⟨_, rfl, ?_⟩; have n0_ := Aside0.mk (below_step (by repeat (first | (with_reducible first | exact HB.out | apply below_alloc | apply pw_below_drewN | apply below_drew1) | exact HB.out)) hb); clear HB; have HB := n0_; clear n0_; (try clear hb); (try clear hb2); (try clear hk); (try clear hi)))
         go_ret2
         exact ⟨by first | rfl | (simp [errW_none, errW_some] <;> rfl) | (simp [*, errW_none, errW_some] <;> rfl), by repeat (first | (with_reducible first | exact HB.out | apply below_alloc | apply pw_below_drewN | apply below_drew1) | exact HB.out)⟩
        ·
         rw [if_neg c23] at H
         have c23b0 : (t600.toList == ([105, 110, 102, 105, 110, 105, 116, 121] : List UInt8)) = false := beq_eq_false_iff_ne.mpr c23
         have c23b1 : (t600.toList != ([105, 110, 102, 105, 110, 105, 116, 121] : List UInt8)) = true := bne_iff_ne.mpr c23
         replace H := Option.bind_eq_some_iff.mp H
         obtain ⟨⟨t601, t602, t603⟩, A250, H⟩ := H
         replace H : (if t603 = true then ((num_decimal_bits.f kj8 t601 t602).bind fun t605 => (some (((Go.bits .or .u64 t605 x4_8) : Int).toNat, 0))) else (some (0, 8))) = some (r1, r2) := H
         have A25 := Aside0.mk A250
         clear A250
         by_cases c26 : t603 = true
         ·
          subst c26
          have H1 : ((num_decimal_bits.f kj8 t601 t602).bind fun t605 => (some (((Go.bits .or .u64 t605 x4_8) : Int).toNat, 0))) = some (r1, r2) := by rw [if_pos rfl] at H; exact H
          clear H
          have H := H1
          clear H1
          replace H := Option.bind_eq_some_iff.mp H
          obtain ⟨t605, A270, H⟩ := H
          replace H : (some (((Go.bits .or .u64 t605 x4_8) : Int).toNat, 0)) = some (r1, r2) := H
          have A27 := Aside0.mk A270
          clear A270
          simp only [Option.some.injEq, Prod.mk.injEq] at H
          obtain ⟨rfl, rfl⟩ := H
          go_wp2_with (first | ((with_reducible refine gate_callee (f := 65) rfl ?_); refine goesL_ (some 28) rfl rfl Tryd.func65 (by kernel_rfl) rfl #[.string x0_8] rfl (by (try simp only [List.map_toArray, List.map_cons, List.map_nil]); first | done | rfl | (simp only [List.length_drop, List.length_take]; rfl) | (simp [Act.eval, Hd.wrap_u8]; done)) ?_; (with_reducible refine (Hd.num_small.calls x0_8 t600 _ A18.out).mono ?_); rintro e w28 ⟨rfl, hb⟩; refine ⟨_, rfl, ?_⟩; have n0_ := Aside0.mk (below_step (by repeat (first | (with_reducible first | exact HB.out | apply below_alloc | apply pw_below_drewN | apply below_drew1) | exact HB.out)) hb); clear HB; have HB := n0_; clear n0_; (try clear hb); (try clear hb2); (try clear hk); (try clear hi)) | ((with_reducible refine gate_callee (f := 66) rfl ?_); refine goesL_ (some 40) rfl rfl Tryd.func66 (by kernel_rfl) rfl #[.string x0_8] rfl (by (try simp only [List.map_toArray, List.map_cons, List.map_nil]); first | done | rfl | (simp only [List.length_drop, List.length_take]; rfl) | (simp [Act.eval, Hd.wrap_u8]; done)) ?_; (with_reducible refine (num_read.calls kj8 x0_8 t601 t602 true _ A25.out).mono ?_); rintro e w29 ⟨rfl, hb⟩; refine ⟨_, rfl, ?_⟩; have n0_ := Aside0.mk (below_step (by repeat (first | (with_reducible first | exact HB.out | apply below_alloc | apply pw_below_drewN | apply below_drew1) | exact HB.out)) hb); clear HB; have HB := n0_; clear n0_; (try clear hb); (try clear hb2); (try clear hk); (try clear hi)) | ((with_reducible refine gate_dst (N := 5) rfl ?_); refine box_event ?hg (N := 5) ?hd (cs := #[.string (⟨#[]⟩ : ByteArray), .int .i64 0]) (t := 79) ?hr ?_; (case hd => rfl); (case hg => rfl); (case hr => first | (go_simp; done) | (go_simp; rfl)); intro gb604 hg w30 hbox hb; have n0_ := Aside0.mk (below_step (by repeat (first | (with_reducible first | exact HB.out | apply below_alloc | apply pw_below_drewN | apply below_drew1) | exact HB.out)) hb); have n1_ := Aside0.mk (hbox); have n2_ := Aside0.mk ((by rw [hg]; exact (below_size (by repeat (first | (with_reducible first | exact HB.out | apply below_alloc | apply pw_below_drewN | apply below_drew1) | exact HB.out))) : w.heap.size ≤ gb604)); have n3_ := Aside0.mk ((by rw [hg]; exact (below_size (by repeat (first | (with_reducible first | exact HB.out | apply below_alloc | apply pw_below_drewN | apply below_drew1) | exact HB.out))) : w.heap.size ≤ gb604)); clear HB; have HB := n0_; have BK604 := n1_; have GW604 := n2_; have GE604 := n3_; clear n0_ n1_ n2_ n3_; clear hb hbox hg; have hcz31_0 : w30.cell? ⟨gb604, 0, none⟩ = some (.string (⟨#[]⟩ : ByteArray)) := (blk_cell BK604.out 0).trans rfl; have hcz31_1 : w30.cell? ⟨gb604, 1, none⟩ = some (.int .i64 0) := (blk_cell BK604.out 1).trans rfl; have hfz31_0 := blk_frozen BK604.out 0; have hfz31_1 := blk_frozen BK604.out 1) | ((with_reducible refine gate_callee (f := 67) rfl ?_); refine goesL_ (some 46) rfl rfl Tryd.func67 (by kernel_rfl) rfl #[.agg #[.string t601, .int .i64 t602]] rfl (by (try simp only [List.map_toArray, List.map_cons, List.map_nil]); first | done | rfl | (simp only [List.length_drop, List.length_take]; rfl) | (simp [Act.eval, Hd.wrap_u8]; done)) ?_; (with_reducible refine (num_decimal_bits.calls kj8 t601 t602 t605 _ A27.out).mono ?_); rintro e w32 ⟨rfl, hb⟩; refine ⟨_, rfl, ?_⟩; have n0_ := Aside0.mk (blk_below (g := gb604) (o := .cells #[.string t601, .int .i64 t602] 79 (0, 0)) (by (with_reducible repeat (first | refine blk_drewN ?_ _ | refine blk_drew ?_ | refine blk_alloc ?_ _)); refine blk_put (cs := #[.string t601, .int .i64 0]) ?_ 1 _ rfl; (with_reducible repeat (first | refine blk_drewN ?_ _ | refine blk_drew ?_ | refine blk_alloc ?_ _)); refine blk_put (cs := #[.string (⟨#[]⟩ : ByteArray), .int .i64 0]) ?_ 0 _ rfl; (with_reducible repeat (first | refine blk_drewN ?_ _ | refine blk_drew ?_ | refine blk_alloc ?_ _)); exact BK604.out) hb); have n1_ := Aside0.mk (below_step (by repeat (first | (with_reducible first | exact HB.out | apply below_alloc | apply pw_below_drewN | apply below_drew1 | refine below_set ?_ GE604.out) | exact HB.out)) hb); clear BK604; clear HB; have BK604 := n0_; have HB := n1_; clear n0_ n1_; (try clear hb); (try clear hb2); (try clear hk); (try clear hi)))
          go_ret2
          exact ⟨by first | rfl | (simp [errW_none, errW_some] <;> rfl) | (simp [*, errW_none, errW_some] <;> rfl), by repeat (first | (with_reducible first | exact HB.out | apply below_alloc | apply pw_below_drewN | apply below_drew1 | refine below_set ?_ GE604.out) | exact HB.out)⟩
         ·
          replace c26 := Bool.eq_false_iff.mpr c26
          subst c26
          have H1 : (some (0, 8)) = some (r1, r2) := by rw [if_neg (show ¬ (false = true) by decide)] at H; exact H
          clear H
          have H := H1
          clear H1
          simp only [Option.some.injEq, Prod.mk.injEq] at H
          obtain ⟨rfl, rfl⟩ := H
          go_wp2_with (first | ((with_reducible refine gate_callee (f := 65) rfl ?_); refine goesL_ (some 28) rfl rfl Tryd.func65 (by kernel_rfl) rfl #[.string x0_8] rfl (by (try simp only [List.map_toArray, List.map_cons, List.map_nil]); first | done | rfl | (simp only [List.length_drop, List.length_take]; rfl) | (simp [Act.eval, Hd.wrap_u8]; done)) ?_; (with_reducible refine (Hd.num_small.calls x0_8 t600 _ A18.out).mono ?_); rintro e w33 ⟨rfl, hb⟩; refine ⟨_, rfl, ?_⟩; have n0_ := Aside0.mk (below_step (by repeat (first | (with_reducible first | exact HB.out | apply below_alloc | apply pw_below_drewN | apply below_drew1) | exact HB.out)) hb); clear HB; have HB := n0_; clear n0_; (try clear hb); (try clear hb2); (try clear hk); (try clear hi)) | ((with_reducible refine gate_callee (f := 66) rfl ?_); refine goesL_ (some 40) rfl rfl Tryd.func66 (by kernel_rfl) rfl #[.string x0_8] rfl (by (try simp only [List.map_toArray, List.map_cons, List.map_nil]); first | done | rfl | (simp only [List.length_drop, List.length_take]; rfl) | (simp [Act.eval, Hd.wrap_u8]; done)) ?_; (with_reducible refine (num_read.calls kj8 x0_8 t601 t602 false _ A25.out).mono ?_); rintro e w34 ⟨rfl, hb⟩; refine ⟨_, rfl, ?_⟩; have n0_ := Aside0.mk (below_step (by repeat (first | (with_reducible first | exact HB.out | apply below_alloc | apply pw_below_drewN | apply below_drew1) | exact HB.out)) hb); clear HB; have HB := n0_; clear n0_; (try clear hb); (try clear hb2); (try clear hk); (try clear hi)) | ((with_reducible refine gate_dst (N := 5) rfl ?_); refine box_event ?hg (N := 5) ?hd (cs := #[.string (⟨#[]⟩ : ByteArray), .int .i64 0]) (t := 79) ?hr ?_; (case hd => rfl); (case hg => rfl); (case hr => first | (go_simp; done) | (go_simp; rfl)); intro gb604 hg w35 hbox hb; have n0_ := Aside0.mk (below_step (by repeat (first | (with_reducible first | exact HB.out | apply below_alloc | apply pw_below_drewN | apply below_drew1) | exact HB.out)) hb); have n1_ := Aside0.mk (hbox); have n2_ := Aside0.mk ((by rw [hg]; exact (below_size (by repeat (first | (with_reducible first | exact HB.out | apply below_alloc | apply pw_below_drewN | apply below_drew1) | exact HB.out))) : w.heap.size ≤ gb604)); have n3_ := Aside0.mk ((by rw [hg]; exact (below_size (by repeat (first | (with_reducible first | exact HB.out | apply below_alloc | apply pw_below_drewN | apply below_drew1) | exact HB.out))) : w.heap.size ≤ gb604)); clear HB; have HB := n0_; have BK604 := n1_; have GW604 := n2_; have GE604 := n3_; clear n0_ n1_ n2_ n3_; clear hb hbox hg; have hcz36_0 : w35.cell? ⟨gb604, 0, none⟩ = some (.string (⟨#[]⟩ : ByteArray)) := (blk_cell BK604.out 0).trans rfl; have hcz36_1 : w35.cell? ⟨gb604, 1, none⟩ = some (.int .i64 0) := (blk_cell BK604.out 1).trans rfl; have hfz36_0 := blk_frozen BK604.out 0; have hfz36_1 := blk_frozen BK604.out 1))
          go_ret2
          exact ⟨by first | rfl | (simp [errW_none, errW_some] <;> rfl) | (simp [*, errW_none, errW_some] <;> rfl), by repeat (first | (with_reducible first | exact HB.out | apply below_alloc | apply pw_below_drewN | apply below_drew1 | refine below_set ?_ GE604.out) | exact HB.out)⟩

end Go.Proofs.YtjlnfnfdibfniaaDoor.F

-- Written by a program of this session (wip/vprint.py): Lean checks it.
namespace Go.Proofs.YtjlnfnfdibfniaaDoor.F
open Go.RowKit Go.Proofs.YtjlnfnfdibfniaaDoorW.PrintWords Go.Proofs.YtjlnfnfdibfniaaDoorW.PrintLast Go.Proofs.YtjlnfnfdibfniaaDoorW.PrintMore
attribute [local go_sem] max2_int min2_int max_two min_two max_three min_three max_four min_four   -- for this text's walks alone
set_option linter.unusedVariables false
set_option linter.unusedSimpArgs false

/-! ### num_units: function 77 -/
def num_units.f  : Option ((List (S98))) := some (([(⟨(⟨#[121]⟩ : ByteArray), 31536000000⟩ : S98), (⟨(⟨#[119]⟩ : ByteArray), 604800000⟩ : S98), (⟨(⟨#[100]⟩ : ByteArray), 86400000⟩ : S98), (⟨(⟨#[104]⟩ : ByteArray), 3600000⟩ : S98), (⟨(⟨#[109]⟩ : ByteArray), 60000⟩ : S98), (⟨(⟨#[115]⟩ : ByteArray), 1000⟩ : S98), (⟨(⟨#[109, 115]⟩ : ByteArray), 1⟩ : S98)] : List (S98)))
set_option maxHeartbeats 8000000 in
set_option maxRecDepth 100000 in
theorem num_units.calls  (r : List (S98)) (w : World) (h : num_units.f  = some r) :
  Calls Tryd.prog 77 #[] w fun e w' => ∃ v0_ : Value, e = .returned (v0_) ∧ Kd.R k98 98 w' w.heap.size (fun _ => True) v0_ r ∧ Below w.heap.size w w' := by
 have hu98 := Tryd.underlying98
 have HB := Aside0.mk (Below.refl w.heap.size w)
 have H : (some (([(⟨(⟨#[121]⟩ : ByteArray), 31536000000⟩ : S98), (⟨(⟨#[119]⟩ : ByteArray), 604800000⟩ : S98), (⟨(⟨#[100]⟩ : ByteArray), 86400000⟩ : S98), (⟨(⟨#[104]⟩ : ByteArray), 3600000⟩ : S98), (⟨(⟨#[109]⟩ : ByteArray), 60000⟩ : S98), (⟨(⟨#[115]⟩ : ByteArray), 1000⟩ : S98), (⟨(⟨#[109, 115]⟩ : ByteArray), 1⟩ : S98)] : List (S98)))) = some r := h
 clear h
 obtain ⟨y606, hy606⟩ : ∃ y_ : List (S98), y_ = (([(⟨(⟨#[121]⟩ : ByteArray), 31536000000⟩ : S98), (⟨(⟨#[119]⟩ : ByteArray), 604800000⟩ : S98), (⟨(⟨#[100]⟩ : ByteArray), 86400000⟩ : S98), (⟨(⟨#[104]⟩ : ByteArray), 3600000⟩ : S98), (⟨(⟨#[109]⟩ : ByteArray), 60000⟩ : S98), (⟨(⟨#[115]⟩ : ByteArray), 1000⟩ : S98), (⟨(⟨#[109, 115]⟩ : ByteArray), 1⟩ : S98)] : List (S98))) := ⟨_, rfl⟩
 replace H : (some y606) = some r := by first | (rw [hy606]; with_reducible exact H) | (have H2_ := (Option.bind_some _ _).symm.trans H; rw [hy606]; with_reducible exact H2_) | (have H2_ := (Option.bind_some _ _).symm.trans H; with_reducible exact H2_) | with_reducible exact H | (rw [hy606]; exact H) | exact H
 have Ny606 := Aside0.mk hy606
 clear hy606
 obtain rfl := Option.some.inj H
 go_enter Tryd.func77, Tryd.ntmps77
 go_wp2_with (first | ((with_reducible refine gate_dst (N := 8) rfl ?_); refine Kd.R_lit k98 _ 98 ?hg (N := 8) ?hd (xs := ([(⟨(⟨#[121]⟩ : ByteArray), 31536000000⟩ : S98), (⟨(⟨#[119]⟩ : ByteArray), 604800000⟩ : S98), (⟨(⟨#[100]⟩ : ByteArray), 86400000⟩ : S98), (⟨(⟨#[104]⟩ : ByteArray), 3600000⟩ : S98), (⟨(⟨#[109]⟩ : ByteArray), 60000⟩ : S98), (⟨(⟨#[115]⟩ : ByteArray), 1000⟩ : S98), (⟨(⟨#[109, 115]⟩ : ByteArray), 1⟩ : S98)] : List (S98))) (inner := [.string (⟨#[121]⟩ : ByteArray), .int .i64 31536000000, .string (⟨#[119]⟩ : ByteArray), .int .i64 604800000, .string (⟨#[100]⟩ : ByteArray), .int .i64 86400000, .string (⟨#[104]⟩ : ByteArray), .int .i64 3600000, .string (⟨#[109]⟩ : ByteArray), .int .i64 60000, .string (⟨#[115]⟩ : ByteArray), .int .i64 1000, .string (⟨#[109, 115]⟩ : ByteArray), .int .i64 1]) (ok := fun _ => True) (okp := fun _ => True) ?hr ?hp (fun _ hk => hk) trivial (Below.refl _ _) (Nat.le_refl _) (by simp) ?_; (case hd => rfl); (case hg => rfl); (case hr => first | (go_simp; done) | (go_simp; rfl)); (case hp => exact (Reps.c2 (show Kd.M k98 _ _ _ (⟨(⟨#[121]⟩ : ByteArray), 31536000000⟩ : S98) [.string (⟨#[121]⟩ : ByteArray), .int .i64 31536000000] from (k98_mkM _ _ _ (⟨(⟨#[121]⟩ : ByteArray), 31536000000⟩ : S98) )) (Reps.c2 (show Kd.M k98 _ _ _ (⟨(⟨#[119]⟩ : ByteArray), 604800000⟩ : S98) [.string (⟨#[119]⟩ : ByteArray), .int .i64 604800000] from (k98_mkM _ _ _ (⟨(⟨#[119]⟩ : ByteArray), 604800000⟩ : S98) )) (Reps.c2 (show Kd.M k98 _ _ _ (⟨(⟨#[100]⟩ : ByteArray), 86400000⟩ : S98) [.string (⟨#[100]⟩ : ByteArray), .int .i64 86400000] from (k98_mkM _ _ _ (⟨(⟨#[100]⟩ : ByteArray), 86400000⟩ : S98) )) (Reps.c2 (show Kd.M k98 _ _ _ (⟨(⟨#[104]⟩ : ByteArray), 3600000⟩ : S98) [.string (⟨#[104]⟩ : ByteArray), .int .i64 3600000] from (k98_mkM _ _ _ (⟨(⟨#[104]⟩ : ByteArray), 3600000⟩ : S98) )) (Reps.c2 (show Kd.M k98 _ _ _ (⟨(⟨#[109]⟩ : ByteArray), 60000⟩ : S98) [.string (⟨#[109]⟩ : ByteArray), .int .i64 60000] from (k98_mkM _ _ _ (⟨(⟨#[109]⟩ : ByteArray), 60000⟩ : S98) )) (Reps.c2 (show Kd.M k98 _ _ _ (⟨(⟨#[115]⟩ : ByteArray), 1000⟩ : S98) [.string (⟨#[115]⟩ : ByteArray), .int .i64 1000] from (k98_mkM _ _ _ (⟨(⟨#[115]⟩ : ByteArray), 1000⟩ : S98) )) (Reps.c2 (show Kd.M k98 _ _ _ (⟨(⟨#[109, 115]⟩ : ByteArray), 1⟩ : S98) [.string (⟨#[109, 115]⟩ : ByteArray), .int .i64 1] from (k98_mkM _ _ _ (⟨(⟨#[109, 115]⟩ : ByteArray), 1⟩ : S98) )) (Reps.none _ _))))))))); intro v607 w1 ho2 hb hg_ hnew_; clear hg_ hnew_; (first | rw [← Ny606.out] at ho2 | (simp only [Int.reduceToNat] at ho2; rw [← Ny606.out] at ho2)); have n0_ := Aside0.mk (Kd.R_lower ho2 (below_size (by repeat (first | (with_reducible first | exact HB.out | apply below_alloc | apply pw_below_drewN | apply below_drew1) | exact HB.out)))); have n1_ := Aside0.mk (below_step (by repeat (first | (with_reducible first | exact HB.out | apply below_alloc | apply pw_below_drewN | apply below_drew1) | exact HB.out)) hb); clear HB; have HO608 := n0_; have HB := n1_; clear n0_ n1_; clear hb ho2))
 go_ret
 exact ⟨_, by first | rfl | (simp [errW_none, errW_some] <;> rfl) | (simp [*, errW_none, errW_some] <;> rfl), by (with_reducible repeat (first | apply Kd.R_alloc | apply Kd.R_drewN | apply Kd.R_drew)); exact HO608.out, by repeat (first | (with_reducible first | exact HB.out | apply below_alloc | apply pw_below_drewN | apply below_drew1) | exact HB.out)⟩

end Go.Proofs.YtjlnfnfdibfniaaDoor.F

-- Written by a program of this session (wip/vprint.py): Lean checks it.
namespace Go.Proofs.YtjlnfnfdibfniaaDoor.F
open Go.RowKit Go.Proofs.YtjlnfnfdibfniaaDoorW.PrintWords Go.Proofs.YtjlnfnfdibfniaaDoorW.PrintLast Go.Proofs.YtjlnfnfdibfniaaDoorW.PrintMore
attribute [local go_sem] max2_int min2_int max_two min_two max_three min_three max_four min_four   -- for this text's walks alone
set_option linter.unusedVariables false
set_option linter.unusedSimpArgs false

/-! ### num_DurationText: function 38 -/
mutual
def num_DurationText.j0 : Nat → Int → ByteArray → Option (ByteArray)
 | 0, _, _ => none
 | k + 1, x3, x4 => (num_units.f).bind fun t609 => (num_DurationText.l0 k x3 x4 t609 (t609.length : Int) 0)
def num_DurationText.l0 : Nat → Int → ByteArray → List (S98) → Int → Int → Option (ByteArray)
 | 0, _, _, _, _, _ => none
 | k + 1, x3, x4, x16, x17, x18 => if x18 < x17 then (if 0 ≤ x18 then (if x18 < (x16.length : Int) then (if (IntKind.u64.wrap ((rd_T98 x16 x18).f1)) = 0 then (none) else (if (IntKind.u64.wrap (Int.tdiv x3 (IntKind.u64.wrap ((rd_T98 x16 x18).f1)))) > 0 then ((Hd.num_IntText.f (wrap64 (IntKind.u64.wrap (Int.tdiv x3 (IntKind.u64.wrap ((rd_T98 x16 x18).f1)))))).bind fun t614 => (if t614.size + ((rd_T98 x16 x18).f0).size ≤ 9223372036854775807 then ((some (t614 ++ ((rd_T98 x16 x18).f0) : ByteArray)).bind fun y615 => (if x4.size + y615.size ≤ 9223372036854775807 then (num_DurationText.l0 k (Int.tmod x3 (IntKind.u64.wrap ((rd_T98 x16 x18).f1))) (x4 ++ y615) x16 x17 (wrap64 (x18 + 1))) else (none))) else (none))) else (num_DurationText.l0 k x3 x4 x16 x17 (wrap64 (x18 + 1))))) else (none)) else (none)) else (some x4)
end
def num_DurationText.f (k : Nat) (a0 : Int) : Option (ByteArray) := if a0 = 0 then (some (⟨#[48, 115]⟩ : ByteArray)) else (if a0 < 0 then (num_DurationText.j0 k (IntKind.u64.wrap (-(IntKind.u64.wrap (a0)))) (⟨#[45]⟩ : ByteArray)) else (num_DurationText.j0 k (IntKind.u64.wrap (a0)) (⟨#[]⟩ : ByteArray)))
theorem num_DurationText.mono_l : ∀ k, (∀ y0 y1, LeO (num_DurationText.j0 k y0 y1) (num_DurationText.j0 (k + 1) y0 y1)) ∧ (∀ y0 y1 y2 y3 y4, LeO (num_DurationText.l0 k y0 y1 y2 y3 y4) (num_DurationText.l0 (k + 1) y0 y1 y2 y3 y4))
 | 0 => ⟨fun _ _ r h => by simp [num_DurationText.j0] at h, fun _ _ _ _ _ r h => by simp [num_DurationText.l0] at h⟩
 | k + 1 => by
  obtain ⟨ih0, ih1⟩ := num_DurationText.mono_l k
  refine ⟨?_, ?_⟩
  ·
   intro y0 y1
   unfold num_DurationText.j0
   repeat' first
   | (with_reducible exact ih0 _ _)
   | (with_reducible exact ih1 _ _ _ _ _)
   | (with_reducible exact LeO.refl _)
   | (with_reducible exact LeO.none _)
   | (with_reducible refine LeO.ite ?_ ?_)
   | (with_reducible refine LeO.bind ?_ (fun _ => ?_))
   | exact ih0 _ _
   | exact ih1 _ _ _ _ _
   | exact LeO.none _
   | refine LeO.ite ?_ ?_
   | refine LeO.bind ?_ (fun _ => ?_)
  ·
   intro y0 y1 y2 y3 y4
   unfold num_DurationText.l0
   repeat' first
   | (with_reducible exact ih0 _ _)
   | (with_reducible exact ih1 _ _ _ _ _)
   | (with_reducible exact LeO.refl _)
   | (with_reducible exact LeO.none _)
   | (with_reducible refine LeO.ite ?_ ?_)
   | (with_reducible refine LeO.bind ?_ (fun _ => ?_))
   | exact ih0 _ _
   | exact ih1 _ _ _ _ _
   | exact LeO.none _
   | refine LeO.ite ?_ ?_
   | refine LeO.bind ?_ (fun _ => ?_)
theorem num_DurationText.mono : ∀ a0 k, LeO (num_DurationText.f k a0) (num_DurationText.f (k + 1) a0) := by
 intro a0 k
 obtain ⟨ih0, ih1⟩ := num_DurationText.mono_l k
 unfold num_DurationText.f
 repeat' first
   | (with_reducible exact ih0 _ _)
   | (with_reducible exact ih1 _ _ _ _ _)
   | (with_reducible exact LeO.refl _)
   | (with_reducible exact LeO.none _)
   | (with_reducible refine LeO.ite ?_ ?_)
   | (with_reducible refine LeO.bind ?_ (fun _ => ?_))
   | exact ih0 _ _
   | exact ih1 _ _ _ _ _
   | exact LeO.none _
   | refine LeO.ite ?_ ?_
   | refine LeO.bind ?_ (fun _ => ?_)
def num_DurationText.T11 : Bool × List (List Nat × List Nat) := (true, [([], []), ([], []), ([1], [1]), ([2], [2]), ([], []), ([4], [4]), ([3, 5], [3, 5]), ([0, 6], [0, 6]), ([7, 3, 0, 1, 2, 3, 4, 5, 6, 7], [0, 7])])
def num_DurationText.B11 : List Nat := [0, 0, 2, 6, 0, 16, 62, 127, 255]
theorem num_DurationText.tab11 : rtab .any (opsOf Tryd.f38 11) = num_DurationText.T11 := by kernel_rfl
theorem num_DurationText.bits11 : waitsOk num_DurationText.T11.2 num_DurationText.B11 = true := by kernel_rfl
set_option maxHeartbeats 8000000 in
set_option maxRecDepth 100000 in
theorem num_DurationText.calls (k : Nat) (a0 : Int) (r : ByteArray) (w : World) (h : num_DurationText.f k a0 = some r) :
  Calls Tryd.prog 38 #[.int .i64 a0] w fun e w' => e = .returned (.string r) ∧ Below w.heap.size w w' := by
 have hu98 := Tryd.underlying98
 have HB := Aside0.mk (Below.refl w.heap.size w)
 have H : (if a0 = 0 then (some (⟨#[48, 115]⟩ : ByteArray)) else (if a0 < 0 then (num_DurationText.j0 k (IntKind.u64.wrap (-(IntKind.u64.wrap (a0)))) (⟨#[45]⟩ : ByteArray)) else (num_DurationText.j0 k (IntKind.u64.wrap (a0)) (⟨#[]⟩ : ByteArray)))) = some r := h
 clear h
 by_cases c2 : a0 = 0
 ·
  rw [if_pos c2] at H
  have c2b0 : (a0 == 0) = true := beq_iff_eq.mpr c2
  have c2b1 : (a0 != 0) = false := bne_eq_false_iff_eq.mpr c2
  clear c2
  obtain rfl := Option.some.inj H
  go_enter Tryd.func38, Tryd.ntmps38
  go_wp2
  go_ret
  exact ⟨by first | rfl | (simp [errW_none, errW_some] <;> rfl) | (simp [*, errW_none, errW_some] <;> rfl), by repeat (first | (with_reducible first | exact HB.out | apply below_alloc | apply pw_below_drewN | apply below_drew1) | exact HB.out)⟩
 ·
  rw [if_neg c2] at H
  have c2b0 : (a0 == 0) = false := beq_eq_false_iff_ne.mpr c2
  have c2b1 : (a0 != 0) = true := bne_iff_ne.mpr c2
  have HC3 := Aside0.mk H
  clear H
  go_enter Tryd.func38, Tryd.ntmps38
  go_upto_if 13 with (fail)
  go_cut [3, 4] (fun v3 v4 wc => ∃ (kq : Nat) (x3_2 : Int) (x4_2 : ByteArray), v3 = .int .u64 x3_2 ∧ v4 = .string x4_2 ∧ Aside0 (num_DurationText.j0 kq x3_2 x4_2 = some r) ∧ Aside0 (kq ≤ k) ∧ Aside0 (Below w.heap.size w wc))
  case first =>
   have H := HC3.out
   clear HC3
   by_cases c4 : a0 < 0
   ·
    rw [if_pos c4] at H
    have c4b0 : decide (a0 < 0) = true := decide_eq_true c4
    clear c4
    (first | rw [c4b0] | (simp only [i64_w, i32_w]; rw [c4b0]) | skip)
    have H' := Aside0.mk H
    clear H
    go_wp2
    go_meet
    case rel => exact ⟨_, (IntKind.u64.wrap (-(IntKind.u64.wrap (a0)))), ((⟨#[45]⟩ : ByteArray)), (by first | rfl | (simp; done) | (simp [*]; done)), (by first | rfl | (simp; done) | (simp [*]; done)), H', ⟨by first | omega | exact Nat.le_refl _⟩, ⟨by repeat (first | (with_reducible first | exact HB.out | apply below_alloc | apply pw_below_drewN | apply below_drew1) | exact HB.out)⟩⟩
   ·
    rw [if_neg c4] at H
    have c4b0 : decide (a0 < 0) = false := decide_eq_false c4
    clear c4
    (first | rw [c4b0] | (simp only [i64_w, i32_w]; rw [c4b0]) | skip)
    have H' := Aside0.mk H
    clear H
    go_wp2
    go_meet
    case rel => exact ⟨_, (IntKind.u64.wrap (a0)), ((⟨#[]⟩ : ByteArray)), (by first | rfl | (simp; done) | (simp [*]; done)), (by first | rfl | (simp; done) | (simp [*]; done)), H', ⟨by first | omega | exact Nat.le_refl _⟩, ⟨by repeat (first | (with_reducible first | exact HB.out | apply below_alloc | apply pw_below_drewN | apply below_drew1) | exact HB.out)⟩⟩
  case rest =>
   clear HC3
   try clear c2
   try clear c2b0
   try clear c2b1
   try clear p2
   try clear c3
   try clear c4
   try clear c4b0
   obtain ⟨kq, x3_2, x4_2, rfl, rfl, HA, HJ2, HB⟩ := hcut
   cases kq with
   | zero => exact absurd HA.out (by simp [num_DurationText.j0])
   | succ kj2 =>
    have H := HA.out
    clear HA
    simp only [num_DurationText.j0] at H
    replace H := Option.bind_eq_some_iff.mp H
    obtain ⟨t609, A50, H⟩ := H
    replace H : (num_DurationText.l0 kj2 x3_2 x4_2 t609 (t609.length : Int) 0) = some r := H
    have A5 := Aside0.mk A50
    clear A50
    have H' := Aside0.mk H
    clear H
    go_wp2_with (first | ((with_reducible refine gate_callee (f := 77) rfl ?_); refine goesL_ (some 16) rfl rfl Tryd.func77 (by kernel_rfl) rfl #[] rfl (by (try simp only [List.map_toArray, List.map_cons, List.map_nil]); first | done | rfl | (simp only [List.length_drop, List.length_take]; rfl) | (simp [Act.eval, Hd.wrap_u8]; done)) ?_; (with_reducible refine (num_units.calls  t609 _ A5.out).mono ?_); rintro e w6 ⟨v610, rfl, ho0, hb⟩; refine ⟨_, rfl, ?_⟩; have n0_ := Aside0.mk (Kd.R_lower ho0 (below_size (by repeat (first | (with_reducible first | exact HB.out | apply below_alloc | apply pw_below_drewN | apply below_drew1) | exact HB.out)))); have n1_ := Aside0.mk (below_step (by repeat (first | (with_reducible first | exact HB.out | apply below_alloc | apply pw_below_drewN | apply below_drew1) | exact HB.out)) hb); clear HB; have HO611 := n0_; have HB := n1_; clear n0_ n1_; (try clear hb); (try clear hb2); (try clear hk); (try clear hi); (try clear ho0); obtain ⟨Ao7, co7, eo7⟩ := Kd.R_slice HO611.out; subst eo7))
    go_loopg [3, 4, 18] kj2 (fun kq v3 v4 v18 w' => ∃ (x3_2 : Int) (x4_2 : ByteArray) (x18_2 : Int), v3 = .int .u64 x3_2 ∧ v4 = .string x4_2 ∧ v18 = .int .i64 x18_2 ∧ Aside0 (num_DurationText.l0 kq x3_2 x4_2 t609 (t609.length : Int) x18_2 = some r) ∧ Aside0 (kq ≤ kj2) ∧ Aside0 (Kd.R k98 98 w' w.heap.size (fun _ => True) (.slice Ao7 t609.length co7) t609) ∧ Aside0 (Below w.heap.size w w'))
    case atStart => exact ⟨(x3_2), (x4_2), (0), (by first | rfl | (simp; done) | (simp [*]; done)), (by first | rfl | (simp; done) | (simp [*]; done)), (by first | rfl | (simp; done) | (simp [*]; done)), H', ⟨Nat.le_refl _⟩, ⟨by (with_reducible repeat (first | apply Kd.R_alloc | apply Kd.R_drewN | apply Kd.R_drew)); exact HO611.out⟩, ⟨by repeat (first | (with_reducible first | exact HB.out | apply below_alloc | apply pw_below_drewN | apply below_drew1) | exact HB.out)⟩⟩
    case round =>
     clear H'
     try clear c2
     try clear c2b0
     try clear c2b1
     try clear p2
     try clear c3
     try clear c4
     try clear c4b0
     try clear c7
     try clear p2
     obtain ⟨x3_2, x4_2, x18_2, rfl, rfl, rfl, HA, HK2, HO_16, HB⟩ := hrel
     cases gk with
     | zero => exact absurd HA.out (by simp [num_DurationText.l0])
     | succ k2 =>
      have H := HA.out
      clear HA
      simp only [num_DurationText.l0] at H
      by_cases c8 : x18_2 < (t609.length : Int)
      ·
       rw [if_pos c8] at H
       have c8b0 : decide (x18_2 < (t609.length : Int)) = true := decide_eq_true c8
       clear c8
       by_cases c9 : 0 ≤ x18_2
       ·
        rw [if_pos c9] at H
        have c9b0 : decide (0 ≤ x18_2) = true := decide_eq_true c9
        clear c9
        by_cases c10 : x18_2 < (t609.length : Int)
        ·
         rw [if_pos c10] at H
         have c10b0 : decide (x18_2 < (t609.length : Int)) = true := decide_eq_true c10
         clear c10
         by_cases c11 : (IntKind.u64.wrap ((rd_T98 t609 x18_2).f1)) = 0
         ·
          rw [if_pos c11] at H
          exact absurd H (by simp)
         ·
          rw [if_neg c11] at H
          have c11b0 : ((IntKind.u64.wrap ((rd_T98 t609 x18_2).f1)) == 0) = false := beq_eq_false_iff_ne.mpr c11
          have c11b1 : ((IntKind.u64.wrap ((rd_T98 t609 x18_2).f1)) != 0) = true := bne_iff_ne.mpr c11
          by_cases c12 : (IntKind.u64.wrap (Int.tdiv x3_2 (IntKind.u64.wrap ((rd_T98 t609 x18_2).f1)))) > 0
          ·
           rw [if_pos c12] at H
           have c12b0 : decide (0 < (IntKind.u64.wrap (Int.tdiv x3_2 (IntKind.u64.wrap ((rd_T98 t609 x18_2).f1))))) = true := decide_eq_true c12
           clear c12
           replace H := Option.bind_eq_some_iff.mp H
           obtain ⟨t614, A130, H⟩ := H
           replace H : (if t614.size + ((rd_T98 t609 x18_2).f0).size ≤ 9223372036854775807 then ((some (t614 ++ ((rd_T98 t609 x18_2).f0) : ByteArray)).bind fun y615 => (if x4_2.size + y615.size ≤ 9223372036854775807 then (num_DurationText.l0 k2 (Int.tmod x3_2 (IntKind.u64.wrap ((rd_T98 t609 x18_2).f1))) (x4_2 ++ y615) t609 (t609.length : Int) (wrap64 (x18_2 + 1))) else (none))) else (none)) = some r := H
           have A13 := Aside0.mk A130
           clear A130
           by_cases c14 : t614.size + ((rd_T98 t609 x18_2).f0).size ≤ 9223372036854775807
           ·
            rw [if_pos c14] at H
            have c14b0 := eq_true c14
            have c14b1 : decide (t614.size + ((rd_T98 t609 x18_2).f0).size ≤ 9223372036854775807) = true := decide_eq_true c14
            try have c14b2 : (9223372036854775807 < t614.size + ((rd_T98 t609 x18_2).f0).size) = False := eq_false (Nat.not_lt.2 c14)
            obtain ⟨y615, hy615⟩ : ∃ y_ : ByteArray, y_ = (t614 ++ ((rd_T98 t609 x18_2).f0)) := ⟨_, rfl⟩
            replace H : (if x4_2.size + y615.size ≤ 9223372036854775807 then (num_DurationText.l0 k2 (Int.tmod x3_2 (IntKind.u64.wrap ((rd_T98 t609 x18_2).f1))) (x4_2 ++ y615) t609 (t609.length : Int) (wrap64 (x18_2 + 1))) else (none)) = some r := by first | (rw [hy615]; with_reducible exact H) | (have H2_ := (Option.bind_some _ _).symm.trans H; rw [hy615]; with_reducible exact H2_) | (have H2_ := (Option.bind_some _ _).symm.trans H; with_reducible exact H2_) | with_reducible exact H | (rw [hy615]; exact H) | exact H
            have Ny615 := Aside0.mk hy615
            clear hy615
            by_cases c15 : x4_2.size + y615.size ≤ 9223372036854775807
            ·
             rw [if_pos c15] at H
             have c15b0 := eq_true c15
             have c15b1 : decide (x4_2.size + y615.size ≤ 9223372036854775807) = true := decide_eq_true c15
             try have c15b2 : (9223372036854775807 < x4_2.size + y615.size) = False := eq_false (Nat.not_lt.2 c15)
             obtain ⟨y616, hy616⟩ : ∃ y_ : ByteArray, y_ = (x4_2 ++ y615) := ⟨_, rfl⟩
             replace H : (num_DurationText.l0 k2 (Int.tmod x3_2 (IntKind.u64.wrap ((rd_T98 t609 x18_2).f1))) y616 t609 (t609.length : Int) (wrap64 (x18_2 + 1))) = some r := by first | (rw [hy616]; with_reducible exact H) | (have H2_ := (Option.bind_some _ _).symm.trans H; rw [hy616]; with_reducible exact H2_) | (have H2_ := (Option.bind_some _ _).symm.trans H; with_reducible exact H2_) | with_reducible exact H | (rw [hy616]; exact H) | exact H
             have Ny616 := Aside0.mk hy616
             clear hy616
             have H' := Aside0.mk H
             clear H
             have p612 : 0 ≤ (x18_2 : Int) := of_decide_eq_true (by first | (with_reducible assumption) | assumption)
             have q612 : x18_2 < (t609.length : Int) := of_decide_eq_true (by first | (with_reducible assumption) | assumption)
             obtain ⟨ad612, e612, hx612_0, hx612_1⟩ := at_T98 (Kd.R_reads' HO_16.out).2.2 x18_2 p612 q612
             cases e612
             replace p612 := eq_true p612
             replace q612 := eq_true q612
             try go_wp2_with (first | ((with_reducible refine gate_dst (N := 6) rfl ?_); refine box_event ?hg (N := 6) ?hd (cs := #[.string (⟨#[]⟩ : ByteArray), .int .i64 0]) (t := 98) ?hr ?_; (case hd => rfl); (case hg => rfl); (case hr => first | (go_simp; done) | (go_simp; rfl)); intro gb613 hg w16 hbox hb; have n0_ := Aside0.mk (Kd.R_below (Kd.R_elderB (by (with_reducible repeat (first | apply Kd.R_alloc | apply Kd.R_drewN | apply Kd.R_drew)); exact HO_16.out) gb613 (Nat.le_of_eq hg.symm)) hb); have n1_ := Aside0.mk (below_step (by repeat (first | (with_reducible first | exact HB.out | apply below_alloc | apply pw_below_drewN | apply below_drew1) | exact HB.out)) hb); have n2_ := Aside0.mk (hbox); have n3_ := Aside0.mk ((by rw [hg]; exact (below_size (by repeat (first | (with_reducible first | exact HB.out | apply below_alloc | apply pw_below_drewN | apply below_drew1) | exact HB.out))) : w.heap.size ≤ gb613)); have n4_ := Aside0.mk ((by rw [hg]; exact (below_size (by repeat (first | (with_reducible first | exact HB.out | apply below_alloc | apply pw_below_drewN | apply below_drew1) | exact HB.out))) : w.heap.size ≤ gb613)); clear HO_16; clear HB; have HO_16 := n0_; have HB := n1_; have BK613 := n2_; have GW613 := n3_; have GE613 := n4_; clear n0_ n1_ n2_ n3_ n4_; clear hb hbox hg; have hcz17_0 : w16.cell? ⟨gb613, 0, none⟩ = some (.string (⟨#[]⟩ : ByteArray)) := (blk_cell BK613.out 0).trans rfl; have hcz17_1 : w16.cell? ⟨gb613, 1, none⟩ = some (.int .i64 0) := (blk_cell BK613.out 1).trans rfl; have hfz17_0 := blk_frozen BK613.out 0; have hfz17_1 := blk_frozen BK613.out 1))
             (first | refine Hd.letter_ (fun w18 hw => ?_) | refine Hd.letterL_ (fun w18 hw => ?_) | refine Hd.letterE_ (fun w18 hw => ?_))
             have n0_ : Aside0 (Kd.R k98 98 w18 w.heap.size (fun k_ => k_ ≠ gb613) (.slice (some ad612) t609.length co7) t609) := ⟨by rw [hw]; exact (by (with_reducible repeat (first | apply Kd.R_alloc | apply Kd.R_drewN | apply Kd.R_drew)); exact Kd.R_mono (Kd.R_far (p := ⟨gb613, 1, none⟩) (Kd.R_far (p := ⟨gb613, 0, none⟩) (Kd.R_mono HO_16.out (fun k_ hk => (⟨hk, hk.2⟩ : _ ∧ k_ ≠ gb613))) (fun _ hk => hk.2) (.string ((rd_T98 t609 x18_2).f0))) (fun _ hk => hk.2) (.int .i64 ((rd_T98 t609 x18_2).f1))) (fun _ hk => hk.1.2))⟩
             have n1_ : Aside0 (w18.heap[gb613]? = some (.cells #[.string ((rd_T98 t609 x18_2).f0), .int .i64 ((rd_T98 t609 x18_2).f1)] 98 (0, 0))) := ⟨by rw [hw]; exact (by (with_reducible repeat (first | refine blk_drewN ?_ _ | refine blk_drew ?_ | refine blk_alloc ?_ _)); refine blk_put (cs := #[.string ((rd_T98 t609 x18_2).f0), .int .i64 0]) ?_ 1 _ rfl; (with_reducible repeat (first | refine blk_drewN ?_ _ | refine blk_drew ?_ | refine blk_alloc ?_ _)); refine blk_put (cs := #[.string (⟨#[]⟩ : ByteArray), .int .i64 0]) ?_ 0 _ rfl; (with_reducible repeat (first | refine blk_drewN ?_ _ | refine blk_drew ?_ | refine blk_alloc ?_ _)); exact BK613.out)⟩
             have n2_ : Aside0 (Below w.heap.size w w18) := ⟨by rw [hw]; exact (by repeat (first | (with_reducible first | exact HB.out | apply below_alloc | apply pw_below_drewN | apply below_drew1 | refine below_set ?_ GE613.out) | exact HB.out))⟩
             clear hw
             (try clear HO_16)
             (try clear BK613)
             (try clear HB)
             have HO_16 := n0_
             have BK613 := n1_
             have HB := n2_
             clear n0_ n1_ n2_
             have n0_ := Aside0.mk (Kd.R_drew HO_16.out)
             have n1_ := Aside0.mk (blk_drew BK613.out)
             have n2_ := Aside0.mk (below_drew1 HB.out)
             clear HO_16
             clear BK613
             clear HB
             have HO_16 := n0_
             have BK613 := n1_
             have HB := n2_
             clear n0_ n1_ n2_
             refine start_ (n := 9) (S := fun w' => w'.cell? ⟨gb613, 0, none⟩ = some (.string ((rd_T98 t609 x18_2).f0)) ∧ w'.cell? ⟨gb613, 1, none⟩ = some (.int .i64 ((rd_T98 t609 x18_2).f1))) (ds := []) #[false, false, false, false, false, false, false, false, false] (by kernel_rfl) rfl rfl ⟨(blk_cell BK613.out 0).trans rfl, (blk_cell BK613.out 1).trans rfl⟩ (fun hHeld => ?_); refine with_tabW num_DurationText.tab11 num_DurationText.bits11 (fun HT_ HW_ => ?_)
             generalize w18.drew = w19 at HO_16 BK613 HB hHeld ⊢
             refine pure_ (i := 0) (N := some 29) (v := ?_) (a' := ?_) #[true, false, false, false, false, false, false, false, false] rfl rfl (any_of HT_.out (by kernel_rfl)) (fun _ _ _ h => h) (Or.inl ⟨by rfl, ?_⟩) ?_ ?_
             rotate_left
             ·
              intro w'
              go_simp
              with_reducible rfl
             rotate_left
             ·
              simp only [Act.put, List.setIfInBounds_toArray, List.set_cons_zero, List.set_cons_succ, i64_w, i32_w]
              rfl
             refine pure_ (i := 1) (N := some 30) (v := ?_) (a' := ?_) #[true, true, false, false, false, false, false, false, false] rfl rfl (any_of HT_.out (by kernel_rfl)) (fun _ _ _ h => h) (Or.inl ⟨by rfl, ?_⟩) ?_ ?_
             rotate_left
             ·
              intro w'
              go_simp
              with_reducible rfl
             rotate_left
             ·
              simp only [Act.put, List.setIfInBounds_toArray, List.set_cons_zero, List.set_cons_succ, i64_w, i32_w]
              rfl
             refine pure_ (i := 2) (N := some 31) (v := ?_) (a' := ?_) #[true, true, true, false, false, false, false, false, false] rfl rfl (any_of HT_.out (by kernel_rfl)) (fun _ _ _ h => h) (Or.inl ⟨by rfl, ?_⟩) ?_ ?_
             rotate_left
             ·
              intro w'
              go_simp
              with_reducible rfl
             rotate_left
             ·
              simp only [Act.put, List.setIfInBounds_toArray, List.set_cons_zero, List.set_cons_succ, i64_w, i32_w]
              rfl
             refine pure_ (i := 4) (N := some 33) (v := ?_) (a' := ?_) #[true, true, true, false, true, false, false, false, false] rfl rfl (any_of HT_.out (by kernel_rfl)) (fun _ _ _ h => h) (Or.inl ⟨by rfl, ?_⟩) ?_ ?_
             rotate_left
             ·
              intro w'
              go_simp
              with_reducible rfl
             rotate_left
             ·
              simp only [Act.put, List.setIfInBounds_toArray, List.set_cons_zero, List.set_cons_succ, i64_w, i32_w]
              rfl
             refine take_ (i := 5) (N := some 34) (v := ?_) (a' := ?_) #[true, true, true, false, true, true, false, false, false] rfl rfl (take_ofW HT_.out HW_.out (by kernel_rfl)) (fun _ _ _ h => h) (Or.inl ⟨by rfl, ?_⟩) hHeld ?_ ?_
             rotate_left
             ·
              rintro w' ⟨s0, s1⟩
              go_simp
              with_reducible rfl
             rotate_left
             ·
              simp only [Act.put, List.setIfInBounds_toArray, List.set_cons_zero, List.set_cons_succ, i64_w, i32_w]
              rfl
             refine one_ (i := 3) (N := some 32) #[true, true, true, true, true, true, false, false, false] rfl rfl (one_of HT_.out (by kernel_rfl)) (by decide) (fun K hK => ?_)
             refine goes_ Tryd.func26 (by kernel_rfl) rfl #[.int .i64 (wrap64 (IntKind.u64.wrap (Int.tdiv x3_2 (IntKind.u64.wrap ((rd_T98 t609 x18_2).f1)))))] (by rfl) rfl rfl (by (try simp only [List.map_toArray, List.map_cons, List.map_nil]); first | done | rfl | (simp only [List.length_drop, List.length_take]; rfl) | (simp [Act.eval, Hd.wrap_u8]; done)) ?_
             with_reducible refine (Hd.num_IntText.calls (wrap64 (IntKind.u64.wrap (Int.tdiv x3_2 (IntKind.u64.wrap ((rd_T98 t609 x18_2).f1))))) t614 _ A13.out).mono ?_
             rintro e w20 ⟨rfl, hb⟩
             refine ⟨_, rfl, ?_⟩
             have n0_ := Aside0.mk (Kd.R_below (by (with_reducible repeat (first | apply Kd.R_alloc | apply Kd.R_drewN | apply Kd.R_drew)); exact HO_16.out) hb)
             have n1_ := Aside0.mk (blk_below (g := gb613) (o := .cells #[.string ((rd_T98 t609 x18_2).f0), .int .i64 ((rd_T98 t609 x18_2).f1)] 98 (0, 0)) (by (with_reducible repeat (first | refine blk_drewN ?_ _ | refine blk_drew ?_ | refine blk_alloc ?_ _)); exact BK613.out) hb)
             have n2_ := Aside0.mk (below_step (by repeat (first | (with_reducible first | exact HB.out | apply below_alloc | apply pw_below_drewN | apply below_drew1 | refine below_set ?_ GE613.out) | exact HB.out)) hb)
             clear HO_16
             clear BK613
             clear HB
             have HO_16 := n0_
             have BK613 := n1_
             have HB := n2_
             clear n0_ n1_ n2_
             (try clear hb)
             (try clear hb2)
             (try clear hk)
             (try clear hi)
             have hcs21 := Hd.str_cat (P := Tryd.prog) (s := t614) (t := ((rd_T98 t609 x18_2).f0)) (y := y615) (by first | (with_reducible assumption) | assumption | exact of_eq_true (by assumption) | omega) Ny615.out
             have hcs21' := Hd.str_cat' (P := Tryd.prog) (s := t614) (t := ((rd_T98 t609 x18_2).f0)) (y := y615) (by first | (with_reducible assumption) | assumption | exact of_eq_true (by assumption) | omega) Ny615.out
             have hcs22 := Hd.str_cat (P := Tryd.prog) (s := x4_2) (t := y615) (y := y616) (by first | (with_reducible assumption) | assumption | exact of_eq_true (by assumption) | omega) Ny616.out
             have hcs22' := Hd.str_cat' (P := Tryd.prog) (s := x4_2) (t := y615) (y := y616) (by first | (with_reducible assumption) | assumption | exact of_eq_true (by assumption) | omega) Ny616.out
             refine hK.out _ _ ⟨(blk_cell BK613.out 0).trans rfl, (blk_cell BK613.out 1).trans rfl⟩ (fun hHeld => ?_)
             clear hK K
             refine norm_ (a' := ?_) ?_ ?_
             rotate_left
             ·
              show Act.put _ (some 32) _ = _
              simp only [Act.put, List.setIfInBounds_toArray, List.set_cons_zero, List.set_cons_succ, i64_w, i32_w]
              rfl
             refine pure_ (i := 6) (N := some 35) (v := ?_) (a' := ?_) #[true, true, true, true, true, true, true, false, false] rfl rfl (any_of HT_.out (by kernel_rfl)) (fun _ _ _ h => h) (Or.inl ⟨by rfl, ?_⟩) ?_ ?_
             rotate_left
             ·
              intro w'
              go_simp
              with_reducible rfl
             rotate_left
             ·
              simp only [Act.put, List.setIfInBounds_toArray, List.set_cons_zero, List.set_cons_succ, i64_w, i32_w]
              rfl
             refine pure_ (i := 7) (N := some 36) (v := ?_) (a' := ?_) #[true, true, true, true, true, true, true, true, false] rfl rfl (any_of HT_.out (by kernel_rfl)) (fun _ _ _ h => h) (Or.inl ⟨by rfl, ?_⟩) ?_ ?_
             rotate_left
             ·
              intro w'
              go_simp
              with_reducible rfl
             rotate_left
             ·
              simp only [Act.put, List.setIfInBounds_toArray, List.set_cons_zero, List.set_cons_succ, i64_w, i32_w]
              rfl
             refine pure_ (i := 8) (N := some 4) (v := ?_) (a' := ?_) #[true, true, true, true, true, true, true, true, true] rfl rfl (any_of HT_.out (by kernel_rfl)) (fun _ _ _ h => h) (Or.inl ⟨by rfl, ?_⟩) ?_ ?_
             rotate_left
             ·
              intro w'
              go_simp
              with_reducible rfl
             rotate_left
             ·
              simp only [Act.put, List.setIfInBounds_toArray, List.set_cons_zero, List.set_cons_succ, i64_w, i32_w]
              rfl
             refine done_ (done_of HT_.out (by kernel_rfl)) ?_
             have hcz23_0 : w20.cell? ⟨gb613, 0, none⟩ = some (.string ((rd_T98 t609 x18_2).f0)) := (blk_cell BK613.out 0).trans rfl
             have hcz23_1 : w20.cell? ⟨gb613, 1, none⟩ = some (.int .i64 ((rd_T98 t609 x18_2).f1)) := (blk_cell BK613.out 1).trans rfl
             have hfz23_0 := blk_frozen BK613.out 0
             have hfz23_1 := blk_frozen BK613.out 1
             try go_wp2
             go_roundg k2
             case measure => have := HJ2.out; have := HK2.out; omega
             case rel => exact ⟨(Int.tmod x3_2 (IntKind.u64.wrap ((rd_T98 t609 x18_2).f1))), (y616), (wrap64 (x18_2 + 1)), (by first | rfl | (simp; done) | (simp [*]; done)), (by first | rfl | (simp; done) | (simp [*]; done)), (by first | rfl | (simp; done) | (simp [*]; done)), H', ⟨by have := HJ2.out; have := HK2.out; omega⟩, ⟨by (with_reducible repeat (first | apply Kd.R_alloc | apply Kd.R_drewN | apply Kd.R_drew)); exact Kd.R_mono HO_16.out (fun _ hk => trivial)⟩, ⟨by repeat (first | (with_reducible first | exact HB.out | apply below_alloc | apply pw_below_drewN | apply below_drew1 | refine below_set ?_ GE613.out) | exact HB.out)⟩⟩
            ·
             rw [if_neg c15] at H
             exact absurd H (by simp)
           ·
            rw [if_neg c14] at H
            exact absurd H (by simp)
          ·
           rw [if_neg c12] at H
           have c12b0 : decide (0 < (IntKind.u64.wrap (Int.tdiv x3_2 (IntKind.u64.wrap ((rd_T98 t609 x18_2).f1))))) = false := decide_eq_false c12
           clear c12
           have H' := Aside0.mk H
           clear H
           have p612 : 0 ≤ (x18_2 : Int) := of_decide_eq_true (by first | (with_reducible assumption) | assumption)
           have q612 : x18_2 < (t609.length : Int) := of_decide_eq_true (by first | (with_reducible assumption) | assumption)
           obtain ⟨ad612, e612, hx612_0, hx612_1⟩ := at_T98 (Kd.R_reads' HO_16.out).2.2 x18_2 p612 q612
           cases e612
           replace p612 := eq_true p612
           replace q612 := eq_true q612
           go_wp2_with (first | ((with_reducible refine gate_dst (N := 6) rfl ?_); refine box_event ?hg (N := 6) ?hd (cs := #[.string (⟨#[]⟩ : ByteArray), .int .i64 0]) (t := 98) ?hr ?_; (case hd => rfl); (case hg => rfl); (case hr => first | (go_simp; done) | (go_simp; rfl)); intro gb613 hg w24 hbox hb; have n0_ := Aside0.mk (Kd.R_below (Kd.R_elderB (by (with_reducible repeat (first | apply Kd.R_alloc | apply Kd.R_drewN | apply Kd.R_drew)); exact HO_16.out) gb613 (Nat.le_of_eq hg.symm)) hb); have n1_ := Aside0.mk (below_step (by repeat (first | (with_reducible first | exact HB.out | apply below_alloc | apply pw_below_drewN | apply below_drew1) | exact HB.out)) hb); have n2_ := Aside0.mk (hbox); have n3_ := Aside0.mk ((by rw [hg]; exact (below_size (by repeat (first | (with_reducible first | exact HB.out | apply below_alloc | apply pw_below_drewN | apply below_drew1) | exact HB.out))) : w.heap.size ≤ gb613)); have n4_ := Aside0.mk ((by rw [hg]; exact (below_size (by repeat (first | (with_reducible first | exact HB.out | apply below_alloc | apply pw_below_drewN | apply below_drew1) | exact HB.out))) : w.heap.size ≤ gb613)); clear HO_16; clear HB; have HO_16 := n0_; have HB := n1_; have BK613 := n2_; have GW613 := n3_; have GE613 := n4_; clear n0_ n1_ n2_ n3_ n4_; clear hb hbox hg; have hcz25_0 : w24.cell? ⟨gb613, 0, none⟩ = some (.string (⟨#[]⟩ : ByteArray)) := (blk_cell BK613.out 0).trans rfl; have hcz25_1 : w24.cell? ⟨gb613, 1, none⟩ = some (.int .i64 0) := (blk_cell BK613.out 1).trans rfl; have hfz25_0 := blk_frozen BK613.out 0; have hfz25_1 := blk_frozen BK613.out 1))
           go_roundg k2
           case measure => have := HJ2.out; have := HK2.out; omega
           case rel => exact ⟨(x3_2), (x4_2), (wrap64 (x18_2 + 1)), (by first | rfl | (simp; done) | (simp [*]; done)), (by first | rfl | (simp; done) | (simp [*]; done)), (by first | rfl | (simp; done) | (simp [*]; done)), H', ⟨by have := HJ2.out; have := HK2.out; omega⟩, ⟨by (with_reducible repeat (first | apply Kd.R_alloc | apply Kd.R_drewN | apply Kd.R_drew)); exact Kd.R_mono (Kd.R_far (p := ⟨gb613, 1, none⟩) (Kd.R_far (p := ⟨gb613, 0, none⟩) (Kd.R_mono HO_16.out (fun k_ hk => (⟨hk, hk.2⟩ : _ ∧ k_ ≠ gb613))) (fun _ hk => hk.2) (.string ((rd_T98 t609 x18_2).f0))) (fun _ hk => hk.2) (.int .i64 ((rd_T98 t609 x18_2).f1))) (fun _ hk => trivial)⟩, ⟨by repeat (first | (with_reducible first | exact HB.out | apply below_alloc | apply pw_below_drewN | apply below_drew1 | refine below_set ?_ GE613.out) | exact HB.out)⟩⟩
        ·
         rw [if_neg c10] at H
         exact absurd H (by simp)
       ·
        rw [if_neg c9] at H
        exact absurd H (by simp)
      ·
       rw [if_neg c8] at H
       have c8b0 : decide (x18_2 < (t609.length : Int)) = false := decide_eq_false c8
       clear c8
       obtain rfl := Option.some.inj H
       go_wp2
       go_ret
       exact ⟨by first | rfl | (simp [errW_none, errW_some] <;> rfl) | (simp [*, errW_none, errW_some] <;> rfl), by repeat (first | (with_reducible first | exact HB.out | apply below_alloc | apply pw_below_drewN | apply below_drew1) | exact HB.out)⟩

end Go.Proofs.YtjlnfnfdibfniaaDoor.F

-- Written by a program of this session (wip/vprint.py): Lean checks it.
namespace Go.Proofs.YtjlnfnfdibfniaaDoor.F
open Go.RowKit Go.Proofs.YtjlnfnfdibfniaaDoorW.PrintWords Go.Proofs.YtjlnfnfdibfniaaDoorW.PrintLast Go.Proofs.YtjlnfnfdibfniaaDoorW.PrintMore
attribute [local go_sem] max2_int min2_int max_two min_two max_three min_three max_four min_four   -- for this text's walks alone
set_option linter.unusedVariables false
set_option linter.unusedSimpArgs false

/-! ### vigillaw03_wakes: function 17 -/
def vigillaw03_wakes.f (k : Nat)  : Option (Bool) := (num_Parse.f k (⟨#[50, 46, 53, 101, 45, 49]⟩ : ByteArray)).bind fun bt617 => (if bt617.2 = 0 then (if (FloatKind.f64.format.order bt617.1 4598175219545276416 == some Ordering.eq) = true then ((num_Text.f k 4591870180066957722).bind fun t619 => (if t619.toList = ([48, 46, 49] : List UInt8) then ((num_DurationText.f k 90000).bind fun t620 => (some (t620.toList == ([49, 109, 51, 48, 115] : List UInt8)))) else (some false))) else (some false)) else (some false))
theorem vigillaw03_wakes.mono : ∀ k, LeO (vigillaw03_wakes.f k ) (vigillaw03_wakes.f (k + 1) ) := by
 intro  k
 unfold vigillaw03_wakes.f
 repeat' first
   | (with_reducible exact num_DurationText.mono _ _)
   | (with_reducible exact num_Parse.mono _ _)
   | (with_reducible exact num_Text.mono _ _)
   | (with_reducible exact LeO.refl _)
   | (with_reducible exact LeO.none _)
   | (with_reducible refine LeO.ite ?_ ?_)
   | (with_reducible refine LeO.bind ?_ (fun _ => ?_))
   | exact num_DurationText.mono _ _
   | exact num_Parse.mono _ _
   | exact num_Text.mono _ _
   | exact LeO.none _
   | refine LeO.ite ?_ ?_
   | refine LeO.bind ?_ (fun _ => ?_)
set_option maxHeartbeats 8000000 in
set_option maxRecDepth 100000 in
theorem vigillaw03_wakes.calls (k : Nat)  (r : Bool) (w : World) (h : vigillaw03_wakes.f k  = some r) :
  Calls Tryd.prog 17 #[] w fun e w' => e = .returned (.bool r) ∧ Below w.heap.size w w' := by
 have HB := Aside0.mk (Below.refl w.heap.size w)
 have H : ((num_Parse.f k (⟨#[50, 46, 53, 101, 45, 49]⟩ : ByteArray)).bind fun bt617 => (if bt617.2 = 0 then (if (FloatKind.f64.format.order bt617.1 4598175219545276416 == some Ordering.eq) = true then ((num_Text.f k 4591870180066957722).bind fun t619 => (if t619.toList = ([48, 46, 49] : List UInt8) then ((num_DurationText.f k 90000).bind fun t620 => (some (t620.toList == ([49, 109, 51, 48, 115] : List UInt8)))) else (some false))) else (some false)) else (some false))) = some r := h
 clear h
 replace H := Option.bind_eq_some_iff.mp H
 obtain ⟨⟨t617, t618⟩, A10, H⟩ := H
 replace H : (if t618 = 0 then (if (FloatKind.f64.format.order t617 4598175219545276416 == some Ordering.eq) = true then ((num_Text.f k 4591870180066957722).bind fun t619 => (if t619.toList = ([48, 46, 49] : List UInt8) then ((num_DurationText.f k 90000).bind fun t620 => (some (t620.toList == ([49, 109, 51, 48, 115] : List UInt8)))) else (some false))) else (some false)) else (some false)) = some r := H
 have A1 := Aside0.mk A10
 clear A10
 by_cases c2 : t618 = 0
 ·
  rw [if_pos c2] at H
  have c2b0 : (t618 == 0) = true := beq_iff_eq.mpr c2
  have c2b1 : (t618 != 0) = false := bne_eq_false_iff_eq.mpr c2
  clear c2
  by_cases c3 : (FloatKind.f64.format.order t617 4598175219545276416 == some Ordering.eq) = true
  ·
   rw [if_pos c3] at H
   have c3b0 : (FloatKind.f64.format.order t617 4598175219545276416 == some Ordering.eq) = true := c3
   (try (have c3b1 : decide (FloatKind.f64.format.order t617 4598175219545276416 = some Ordering.eq) = true := by simpa using c3))
   (try (have c3b2 : (FloatKind.f64.format.order t617 4598175219545276416 == some Ordering.eq) = true := by simpa using c3))
   clear c3
   replace H := Option.bind_eq_some_iff.mp H
   obtain ⟨t619, A40, H⟩ := H
   replace H : (if t619.toList = ([48, 46, 49] : List UInt8) then ((num_DurationText.f k 90000).bind fun t620 => (some (t620.toList == ([49, 109, 51, 48, 115] : List UInt8)))) else (some false)) = some r := H
   have A4 := Aside0.mk A40
   clear A40
   by_cases c5 : t619.toList = ([48, 46, 49] : List UInt8)
   ·
    rw [if_pos c5] at H
    have c5b0 : (t619.toList == ([48, 46, 49] : List UInt8)) = true := beq_iff_eq.mpr c5
    have c5b1 : (t619.toList != ([48, 46, 49] : List UInt8)) = false := bne_eq_false_iff_eq.mpr c5
    clear c5
    replace H := Option.bind_eq_some_iff.mp H
    obtain ⟨t620, A60, H⟩ := H
    replace H : (some (t620.toList == ([49, 109, 51, 48, 115] : List UInt8))) = some r := H
    have A6 := Aside0.mk A60
    clear A60
    obtain rfl := Option.some.inj H
    go_enter Tryd.func17, Tryd.ntmps17
    go_wp2_with (first | ((with_reducible refine gate_callee (f := 18) rfl ?_); refine goesL_ (some 4) rfl rfl Tryd.func18 (by kernel_rfl) rfl #[.string (⟨#[50, 46, 53, 101, 45, 49]⟩ : ByteArray)] rfl (by (try simp only [List.map_toArray, List.map_cons, List.map_nil]); first | done | rfl | (simp only [List.length_drop, List.length_take]; rfl) | (simp [Act.eval, Hd.wrap_u8]; done)) ?_; (with_reducible refine (num_Parse.calls k (⟨#[50, 46, 53, 101, 45, 49]⟩ : ByteArray) t617 t618 _ A1.out).mono ?_); rintro e w7 ⟨rfl, hb⟩; refine ⟨_, rfl, ?_⟩; have n0_ := Aside0.mk (below_step (by repeat (first | (with_reducible first | exact HB.out | apply below_alloc | apply pw_below_drewN | apply below_drew1) | exact HB.out)) hb); clear HB; have HB := n0_; clear n0_; (try clear hb); (try clear hb2); (try clear hk); (try clear hi)) | (go_at_call 15; (with_reducible refine (num_Text.calls k 4591870180066957722 t619 _ A4.out).mono ?_); rintro e w8 ⟨rfl, hb⟩; have n0_ := Aside0.mk (below_step (by repeat (first | (with_reducible first | exact HB.out | apply below_alloc | apply pw_below_drewN | apply below_drew1) | exact HB.out)) hb); clear HB; have HB := n0_; clear n0_; (try clear hb); (try clear hb2); (try clear hk); (try clear hi)) | (go_at_call 38; (with_reducible refine (num_DurationText.calls k 90000 t620 _ A6.out).mono ?_); rintro e w9 ⟨rfl, hb⟩; have n0_ := Aside0.mk (below_step (by repeat (first | (with_reducible first | exact HB.out | apply below_alloc | apply pw_below_drewN | apply below_drew1) | exact HB.out)) hb); clear HB; have HB := n0_; clear n0_; (try clear hb); (try clear hb2); (try clear hk); (try clear hi)))
    go_ret
    exact ⟨by first | rfl | (simp [errW_none, errW_some] <;> rfl) | (simp [*, errW_none, errW_some] <;> rfl), by repeat (first | (with_reducible first | exact HB.out | apply below_alloc | apply pw_below_drewN | apply below_drew1) | exact HB.out)⟩
   ·
    rw [if_neg c5] at H
    have c5b0 : (t619.toList == ([48, 46, 49] : List UInt8)) = false := beq_eq_false_iff_ne.mpr c5
    have c5b1 : (t619.toList != ([48, 46, 49] : List UInt8)) = true := bne_iff_ne.mpr c5
    obtain rfl := Option.some.inj H
    go_enter Tryd.func17, Tryd.ntmps17
    go_wp2_with (first | ((with_reducible refine gate_callee (f := 18) rfl ?_); refine goesL_ (some 4) rfl rfl Tryd.func18 (by kernel_rfl) rfl #[.string (⟨#[50, 46, 53, 101, 45, 49]⟩ : ByteArray)] rfl (by (try simp only [List.map_toArray, List.map_cons, List.map_nil]); first | done | rfl | (simp only [List.length_drop, List.length_take]; rfl) | (simp [Act.eval, Hd.wrap_u8]; done)) ?_; (with_reducible refine (num_Parse.calls k (⟨#[50, 46, 53, 101, 45, 49]⟩ : ByteArray) t617 t618 _ A1.out).mono ?_); rintro e w10 ⟨rfl, hb⟩; refine ⟨_, rfl, ?_⟩; have n0_ := Aside0.mk (below_step (by repeat (first | (with_reducible first | exact HB.out | apply below_alloc | apply pw_below_drewN | apply below_drew1) | exact HB.out)) hb); clear HB; have HB := n0_; clear n0_; (try clear hb); (try clear hb2); (try clear hk); (try clear hi)) | (go_at_call 15; (with_reducible refine (num_Text.calls k 4591870180066957722 t619 _ A4.out).mono ?_); rintro e w11 ⟨rfl, hb⟩; have n0_ := Aside0.mk (below_step (by repeat (first | (with_reducible first | exact HB.out | apply below_alloc | apply pw_below_drewN | apply below_drew1) | exact HB.out)) hb); clear HB; have HB := n0_; clear n0_; (try clear hb); (try clear hb2); (try clear hk); (try clear hi)))
    go_ret
    exact ⟨by first | rfl | (simp [errW_none, errW_some] <;> rfl) | (simp [*, errW_none, errW_some] <;> rfl), by repeat (first | (with_reducible first | exact HB.out | apply below_alloc | apply pw_below_drewN | apply below_drew1) | exact HB.out)⟩
  ·
   rw [if_neg c3] at H
   have c3b0 : (FloatKind.f64.format.order t617 4598175219545276416 == some Ordering.eq) = false := by simpa using c3
   (try (have c3b1 : decide (FloatKind.f64.format.order t617 4598175219545276416 = some Ordering.eq) = false := by simpa using c3))
   (try (have c3b2 : (FloatKind.f64.format.order t617 4598175219545276416 == some Ordering.eq) = false := by simpa using c3))
   (try (have c3b3 : ¬ (FloatKind.f64.format.order t617 4598175219545276416 = some Ordering.eq) := by simpa using c3))
   clear c3
   obtain rfl := Option.some.inj H
   go_enter Tryd.func17, Tryd.ntmps17
   go_wp2_with (first | ((with_reducible refine gate_callee (f := 18) rfl ?_); refine goesL_ (some 4) rfl rfl Tryd.func18 (by kernel_rfl) rfl #[.string (⟨#[50, 46, 53, 101, 45, 49]⟩ : ByteArray)] rfl (by (try simp only [List.map_toArray, List.map_cons, List.map_nil]); first | done | rfl | (simp only [List.length_drop, List.length_take]; rfl) | (simp [Act.eval, Hd.wrap_u8]; done)) ?_; (with_reducible refine (num_Parse.calls k (⟨#[50, 46, 53, 101, 45, 49]⟩ : ByteArray) t617 t618 _ A1.out).mono ?_); rintro e w12 ⟨rfl, hb⟩; refine ⟨_, rfl, ?_⟩; have n0_ := Aside0.mk (below_step (by repeat (first | (with_reducible first | exact HB.out | apply below_alloc | apply pw_below_drewN | apply below_drew1) | exact HB.out)) hb); clear HB; have HB := n0_; clear n0_; (try clear hb); (try clear hb2); (try clear hk); (try clear hi)))
   go_ret
   exact ⟨by first | rfl | (simp [errW_none, errW_some] <;> rfl) | (simp [*, errW_none, errW_some] <;> rfl), by repeat (first | (with_reducible first | exact HB.out | apply below_alloc | apply pw_below_drewN | apply below_drew1) | exact HB.out)⟩
 ·
  rw [if_neg c2] at H
  have c2b0 : (t618 == 0) = false := beq_eq_false_iff_ne.mpr c2
  have c2b1 : (t618 != 0) = true := bne_iff_ne.mpr c2
  obtain rfl := Option.some.inj H
  go_enter Tryd.func17, Tryd.ntmps17
  go_wp2_with (first | ((with_reducible refine gate_callee (f := 18) rfl ?_); refine goesL_ (some 4) rfl rfl Tryd.func18 (by kernel_rfl) rfl #[.string (⟨#[50, 46, 53, 101, 45, 49]⟩ : ByteArray)] rfl (by (try simp only [List.map_toArray, List.map_cons, List.map_nil]); first | done | rfl | (simp only [List.length_drop, List.length_take]; rfl) | (simp [Act.eval, Hd.wrap_u8]; done)) ?_; (with_reducible refine (num_Parse.calls k (⟨#[50, 46, 53, 101, 45, 49]⟩ : ByteArray) t617 t618 _ A1.out).mono ?_); rintro e w13 ⟨rfl, hb⟩; refine ⟨_, rfl, ?_⟩; have n0_ := Aside0.mk (below_step (by repeat (first | (with_reducible first | exact HB.out | apply below_alloc | apply pw_below_drewN | apply below_drew1) | exact HB.out)) hb); clear HB; have HB := n0_; clear n0_; (try clear hb); (try clear hb2); (try clear hk); (try clear hi)))
  go_ret
  exact ⟨by first | rfl | (simp [errW_none, errW_some] <;> rfl) | (simp [*, errW_none, errW_some] <;> rfl), by repeat (first | (with_reducible first | exact HB.out | apply below_alloc | apply pw_below_drewN | apply below_drew1) | exact HB.out)⟩

end Go.Proofs.YtjlnfnfdibfniaaDoor.F

/- What the laws end with: a float is written, and read. -/
namespace Go.Proofs.YtjlnfnfdibfniaaDoor.Pl
theorem wakes : F.vigillaw03_wakes.f 400 = some true := by kernel_rfl
end Go.Proofs.YtjlnfnfdibfniaaDoor.Pl

-- Written by a program of this session (wip/vprint.py): Lean checks it.
namespace Go.Proofs.YtjlnfnfdibfniaaDoor.F
open Go.RowKit Go.Proofs.YtjlnfnfdibfniaaDoorW.PrintWords Go.Proofs.YtjlnfnfdibfniaaDoorW.PrintLast Go.Proofs.YtjlnfnfdibfniaaDoorW.PrintMore
attribute [local go_sem] max2_int min2_int max_two min_two max_three min_three max_four min_four   -- for this text's walks alone
set_option linter.unusedVariables false
set_option linter.unusedSimpArgs false

/-! ### vigilkeep_Bits: function 20 -/
def vigilkeep_Bits.f (a0 : Nat) (a1 : Nat) : Option (Bool) := some ((a0 : Int) == (a1 : Int))
set_option maxHeartbeats 8000000 in
set_option maxRecDepth 100000 in
theorem vigilkeep_Bits.calls (a0 : Nat) (a1 : Nat) (r : Bool) (w : World) (h : vigilkeep_Bits.f a0 a1 = some r) :
  Calls Tryd.prog 20 #[.float .f64 a0, .float .f64 a1] w fun e w' => e = .returned (.bool r) ∧ Drawn0 w w' := by
 have H : (some ((a0 : Int) == (a1 : Int))) = some r := h
 clear h
 obtain rfl := Option.some.inj H
 have hext0 := Hd.ext54
 go_enter Tryd.func20, Tryd.ntmps20
 go_wp2
 go_ret
 exact ⟨by first | rfl | (simp; done) | (simp [*]; done), by repeat (first | exact Drawn0.refl _ | apply Drawn0.step)⟩

end Go.Proofs.YtjlnfnfdibfniaaDoor.F

-- Written by a program of this session (wip/vprint.py): Lean checks it.
namespace Go.Proofs.YtjlnfnfdibfniaaDoor.F
open Go.RowKit Go.Proofs.YtjlnfnfdibfniaaDoorW.PrintWords Go.Proofs.YtjlnfnfdibfniaaDoorW.PrintLast Go.Proofs.YtjlnfnfdibfniaaDoorW.PrintMore
attribute [local go_sem] max2_int min2_int max_two min_two max_three min_three max_four min_four   -- for this text's walks alone
set_option linter.unusedVariables false
set_option linter.unusedSimpArgs false

/-! ### num_Next: function 29 -/
def num_Next.j0 : Nat → Nat → Int → Bool → Option (Nat)
 | 0, _, _, _ => none
 | k + 1, x0, x3, x6 => if x6 = true then (some x0) else (if (FloatKind.f64.format.order x0 0 == some Ordering.eq) = true then (some ((1 : Int).toNat)) else (if x3 ≥ 9223372036854775808 then (some (((IntKind.u64.wrap (x3 - 1)) : Int).toNat)) else (some (((IntKind.u64.wrap (x3 + 1)) : Int).toNat))))
def num_Next.f (k : Nat) (a0 : Nat) : Option (Nat) := (math_IsNaN.f a0).bind fun t762 => (if t762 = true then (num_Next.j0 k a0 (a0 : Int) true) else (num_Next.j0 k a0 (a0 : Int) ((a0 : Int) == 9218868437227405312)))
theorem num_Next.mono_l : ∀ k, (∀ y0 y1 y2, LeO (num_Next.j0 k y0 y1 y2) (num_Next.j0 (k + 1) y0 y1 y2))
 | 0 => fun _ _ _ r h => by simp [num_Next.j0] at h
 | k + 1 => by
  have ih0 := num_Next.mono_l k
  ·
   intro y0 y1 y2
   unfold num_Next.j0
   repeat' first
   | (with_reducible exact ih0 _ _ _)
   | (with_reducible exact LeO.refl _)
   | (with_reducible exact LeO.none _)
   | (with_reducible refine LeO.ite ?_ ?_)
   | (with_reducible refine LeO.bind ?_ (fun _ => ?_))
   | exact ih0 _ _ _
   | exact LeO.none _
   | refine LeO.ite ?_ ?_
   | refine LeO.bind ?_ (fun _ => ?_)
theorem num_Next.mono : ∀ a0 k, LeO (num_Next.f k a0) (num_Next.f (k + 1) a0) := by
 intro a0 k
 have ih0 := num_Next.mono_l k
 unfold num_Next.f
 repeat' first
   | (with_reducible exact ih0 _ _ _)
   | (with_reducible exact LeO.refl _)
   | (with_reducible exact LeO.none _)
   | (with_reducible refine LeO.ite ?_ ?_)
   | (with_reducible refine LeO.bind ?_ (fun _ => ?_))
   | exact ih0 _ _ _
   | exact LeO.none _
   | refine LeO.ite ?_ ?_
   | refine LeO.bind ?_ (fun _ => ?_)
set_option maxHeartbeats 8000000 in
set_option maxRecDepth 100000 in
theorem num_Next.calls (k : Nat) (a0 : Nat) (r : Nat) (w : World) (h : num_Next.f k a0 = some r) :
  Calls Tryd.prog 29 #[.float .f64 a0] w fun e w' => e = .returned (.float .f64 r) ∧ Drawn0 w w' := by
 have H : ((math_IsNaN.f a0).bind fun t762 => (if t762 = true then (num_Next.j0 k a0 (a0 : Int) true) else (num_Next.j0 k a0 (a0 : Int) ((a0 : Int) == 9218868437227405312)))) = some r := h
 clear h
 have HC2 := Aside0.mk H
 clear H
 have hext0 := Hd.ext12
 have hext1 := Hd.ext54
 go_enter Tryd.func29, Tryd.ntmps29
 go_upto_region 2 with (fail)
 go_cut [6] (fun v6 wc => ∃ (kq : Nat) (x6_1 : Bool), v6 = .bool x6_1 ∧ Aside0 (num_Next.j0 kq a0 (a0 : Int) x6_1 = some r) ∧ Aside0 (kq ≤ k) ∧ Drawn0 w wc)
 case first =>
  have H := HC2.out
  clear HC2
  replace H := Option.bind_eq_some_iff.mp H
  obtain ⟨t762, A30, H⟩ := H
  replace H : (if t762 = true then (num_Next.j0 k a0 (a0 : Int) true) else (num_Next.j0 k a0 (a0 : Int) ((a0 : Int) == 9218868437227405312))) = some r := H
  have A3 := Aside0.mk A30
  clear A30
  by_cases c4 : t762 = true
  ·
   subst c4
   have H1 : (num_Next.j0 k a0 (a0 : Int) true) = some r := by rw [if_pos rfl] at H; exact H
   clear H
   have H := H1
   clear H1
   have H' := Aside0.mk H
   clear H
   go_wp2_with (first | ((with_reducible refine gate_callee (f := 43) rfl ?_); refine goesL_ (some 8) rfl rfl Tryd.func43 (by kernel_rfl) rfl #[.float .f64 a0] rfl (by (try simp only [List.map_toArray, List.map_cons, List.map_nil]); first | done | rfl | (simp only [List.length_drop, List.length_take]; rfl) | (simp [Act.eval, Hd.wrap_u8]; done)) ?_; (with_reducible refine (math_IsNaN.calls a0 true _ A3.out).mono ?_); rintro e w' ⟨rfl, ⟨nd, rfl⟩⟩; refine ⟨_, rfl, ?_⟩))
   go_meet
   case rel => exact ⟨_, (true), (by first | rfl | (simp; done) | (simp [*]; done)), H', ⟨by first | omega | exact Nat.le_refl _⟩, by repeat (first | exact Drawn0.refl _ | apply Drawn0.step)⟩
  ·
   replace c4 := Bool.eq_false_iff.mpr c4
   subst c4
   have H1 : (num_Next.j0 k a0 (a0 : Int) ((a0 : Int) == 9218868437227405312)) = some r := by rw [if_neg (show ¬ (false = true) by decide)] at H; exact H
   clear H
   have H := H1
   clear H1
   have H' := Aside0.mk H
   clear H
   go_wp2_with (first | ((with_reducible refine gate_callee (f := 43) rfl ?_); refine goesL_ (some 8) rfl rfl Tryd.func43 (by kernel_rfl) rfl #[.float .f64 a0] rfl (by (try simp only [List.map_toArray, List.map_cons, List.map_nil]); first | done | rfl | (simp only [List.length_drop, List.length_take]; rfl) | (simp [Act.eval, Hd.wrap_u8]; done)) ?_; (with_reducible refine (math_IsNaN.calls a0 false _ A3.out).mono ?_); rintro e w' ⟨rfl, ⟨nd, rfl⟩⟩; refine ⟨_, rfl, ?_⟩))
   go_meet
   case rel => exact ⟨_, (((a0 : Int) == 9218868437227405312)), (by first | rfl | (simp; done) | (simp [*]; done)), H', ⟨by first | omega | exact Nat.le_refl _⟩, by repeat (first | exact Drawn0.refl _ | apply Drawn0.step)⟩
 case rest =>
  clear HC2
  try clear c2
  try clear p2
  try clear c4
  obtain ⟨kq, x6_1, rfl, HA, HJ1, ⟨mc1, rfl⟩⟩ := hcut
  cases kq with
  | zero => exact absurd HA.out (by simp [num_Next.j0])
  | succ kj1 =>
   have H := HA.out
   clear HA
   simp only [num_Next.j0] at H
   by_cases c5 : x6_1 = true
   ·
    subst c5
    have H1 : (some a0) = some r := by rw [if_pos rfl] at H; exact H
    clear H
    have H := H1
    clear H1
    obtain rfl := Option.some.inj H
    go_wp2
    go_ret
    exact ⟨by first | rfl | (simp; done) | (simp [*]; done), by repeat (first | exact Drawn0.refl _ | apply Drawn0.step)⟩
   ·
    replace c5 := Bool.eq_false_iff.mpr c5
    subst c5
    have H1 : (if (FloatKind.f64.format.order a0 0 == some Ordering.eq) = true then (some ((1 : Int).toNat)) else (if (a0 : Int) ≥ 9223372036854775808 then (some (((IntKind.u64.wrap ((a0 : Int) - 1)) : Int).toNat)) else (some (((IntKind.u64.wrap ((a0 : Int) + 1)) : Int).toNat)))) = some r := by rw [if_neg (show ¬ (false = true) by decide)] at H; exact H
    clear H
    have H := H1
    clear H1
    by_cases c6 : (FloatKind.f64.format.order a0 0 == some Ordering.eq) = true
    ·
     rw [if_pos c6] at H
     have c6b0 : (FloatKind.f64.format.order a0 0 == some Ordering.eq) = true := c6
     (try (have c6b1 : decide (FloatKind.f64.format.order a0 0 = some Ordering.eq) = true := by simpa using c6))
     (try (have c6b2 : (FloatKind.f64.format.order a0 0 == some Ordering.eq) = true := by simpa using c6))
     clear c6
     obtain rfl := Option.some.inj H
     go_wp2
     go_ret
     exact ⟨by first | rfl | (simp; done) | (simp [*]; done), by repeat (first | exact Drawn0.refl _ | apply Drawn0.step)⟩
    ·
     rw [if_neg c6] at H
     have c6b0 : (FloatKind.f64.format.order a0 0 == some Ordering.eq) = false := by simpa using c6
     (try (have c6b1 : decide (FloatKind.f64.format.order a0 0 = some Ordering.eq) = false := by simpa using c6))
     (try (have c6b2 : (FloatKind.f64.format.order a0 0 == some Ordering.eq) = false := by simpa using c6))
     (try (have c6b3 : ¬ (FloatKind.f64.format.order a0 0 = some Ordering.eq) := by simpa using c6))
     clear c6
     by_cases c7 : (a0 : Int) ≥ 9223372036854775808
     ·
      rw [if_pos c7] at H
      have c7b0 : decide (9223372036854775808 ≤ (a0 : Int)) = true := decide_eq_true c7
      clear c7
      obtain rfl := Option.some.inj H
      go_wp2
      go_ret
      exact ⟨by first | rfl | (simp; done) | (simp [*]; done), by repeat (first | exact Drawn0.refl _ | apply Drawn0.step)⟩
     ·
      rw [if_neg c7] at H
      have c7b0 : decide (9223372036854775808 ≤ (a0 : Int)) = false := decide_eq_false c7
      clear c7
      obtain rfl := Option.some.inj H
      go_wp2
      go_ret
      exact ⟨by first | rfl | (simp; done) | (simp [*]; done), by repeat (first | exact Drawn0.refl _ | apply Drawn0.step)⟩

end Go.Proofs.YtjlnfnfdibfniaaDoor.F

-- Written by a program of this session (wip/vprint.py): Lean checks it.
namespace Go.Proofs.YtjlnfnfdibfniaaDoor.F
open Go.RowKit Go.Proofs.YtjlnfnfdibfniaaDoorW.PrintWords Go.Proofs.YtjlnfnfdibfniaaDoorW.PrintLast Go.Proofs.YtjlnfnfdibfniaaDoorW.PrintMore
attribute [local go_sem] max2_int min2_int max_two min_two max_three min_three max_four min_four   -- for this text's walks alone
set_option linter.unusedVariables false
set_option linter.unusedSimpArgs false

/-! ### vigilref03_Next: function 30 -/
mutual
def vigilref03_Next.j0 : Nat → Nat → Int → Bool → Option (Nat)
 | 0, _, _, _ => none
 | k + 1, x0, x3, x6 => if x6 = true then (some x0) else (if x3 = 0 then (vigilref03_Next.j1 k x3 true) else (vigilref03_Next.j1 k x3 (x3 == 9223372036854775808)))
def vigilref03_Next.j1 : Nat → Int → Bool → Option (Nat)
 | 0, _, _ => none
 | k + 1, x3, x15 => if x15 = true then (some ((1 : Int).toNat)) else (if (x3 / 9223372036854775808) = 1 then (some (((IntKind.u64.wrap (x3 - 1)) : Int).toNat)) else (some (((IntKind.u64.wrap (x3 + 1)) : Int).toNat)))
end
def vigilref03_Next.f (k : Nat) (a0 : Nat) : Option (Nat) := if (FloatKind.f64.format.order a0 a0 != some Ordering.eq) = true then (vigilref03_Next.j0 k a0 (a0 : Int) true) else (vigilref03_Next.j0 k a0 (a0 : Int) ((a0 : Int) == 9218868437227405312))
theorem vigilref03_Next.mono_l : ∀ k, (∀ y0 y1 y2, LeO (vigilref03_Next.j0 k y0 y1 y2) (vigilref03_Next.j0 (k + 1) y0 y1 y2)) ∧ (∀ y0 y1, LeO (vigilref03_Next.j1 k y0 y1) (vigilref03_Next.j1 (k + 1) y0 y1))
 | 0 => ⟨fun _ _ _ r h => by simp [vigilref03_Next.j0] at h, fun _ _ r h => by simp [vigilref03_Next.j1] at h⟩
 | k + 1 => by
  obtain ⟨ih0, ih1⟩ := vigilref03_Next.mono_l k
  refine ⟨?_, ?_⟩
  ·
   intro y0 y1 y2
   unfold vigilref03_Next.j0
   repeat' first
   | (with_reducible exact ih0 _ _ _)
   | (with_reducible exact ih1 _ _)
   | (with_reducible exact LeO.refl _)
   | (with_reducible exact LeO.none _)
   | (with_reducible refine LeO.ite ?_ ?_)
   | (with_reducible refine LeO.bind ?_ (fun _ => ?_))
   | exact ih0 _ _ _
   | exact ih1 _ _
   | exact LeO.none _
   | refine LeO.ite ?_ ?_
   | refine LeO.bind ?_ (fun _ => ?_)
  ·
   intro y0 y1
   unfold vigilref03_Next.j1
   repeat' first
   | (with_reducible exact ih0 _ _ _)
   | (with_reducible exact ih1 _ _)
   | (with_reducible exact LeO.refl _)
   | (with_reducible exact LeO.none _)
   | (with_reducible refine LeO.ite ?_ ?_)
   | (with_reducible refine LeO.bind ?_ (fun _ => ?_))
   | exact ih0 _ _ _
   | exact ih1 _ _
   | exact LeO.none _
   | refine LeO.ite ?_ ?_
   | refine LeO.bind ?_ (fun _ => ?_)
theorem vigilref03_Next.mono : ∀ a0 k, LeO (vigilref03_Next.f k a0) (vigilref03_Next.f (k + 1) a0) := by
 intro a0 k
 obtain ⟨ih0, ih1⟩ := vigilref03_Next.mono_l k
 unfold vigilref03_Next.f
 repeat' first
   | (with_reducible exact ih0 _ _ _)
   | (with_reducible exact ih1 _ _)
   | (with_reducible exact LeO.refl _)
   | (with_reducible exact LeO.none _)
   | (with_reducible refine LeO.ite ?_ ?_)
   | (with_reducible refine LeO.bind ?_ (fun _ => ?_))
   | exact ih0 _ _ _
   | exact ih1 _ _
   | exact LeO.none _
   | refine LeO.ite ?_ ?_
   | refine LeO.bind ?_ (fun _ => ?_)
set_option maxHeartbeats 8000000 in
set_option maxRecDepth 100000 in
theorem vigilref03_Next.calls (k : Nat) (a0 : Nat) (r : Nat) (w : World) (h : vigilref03_Next.f k a0 = some r) :
  Calls Tryd.prog 30 #[.float .f64 a0] w fun e w' => e = .returned (.float .f64 r) ∧ Drawn0 w w' := by
 have H : (if (FloatKind.f64.format.order a0 a0 != some Ordering.eq) = true then (vigilref03_Next.j0 k a0 (a0 : Int) true) else (vigilref03_Next.j0 k a0 (a0 : Int) ((a0 : Int) == 9218868437227405312))) = some r := h
 clear h
 have HC2 := Aside0.mk H
 clear H
 have hext0 := Hd.ext12
 have hext1 := Hd.ext54
 go_enter Tryd.func30, Tryd.ntmps30
 go_upto_region 2 with (fail)
 go_cut [6] (fun v6 wc => ∃ (kq : Nat) (x6_1 : Bool), v6 = .bool x6_1 ∧ Aside0 (vigilref03_Next.j0 kq a0 (a0 : Int) x6_1 = some r) ∧ Aside0 (kq ≤ k) ∧ Drawn0 w wc)
 case first =>
  have H := HC2.out
  clear HC2
  by_cases c3 : (FloatKind.f64.format.order a0 a0 != some Ordering.eq) = true
  ·
   rw [if_pos c3] at H
   have c3b0 : (FloatKind.f64.format.order a0 a0 != some Ordering.eq) = true := c3
   (try (have c3b1 : decide (FloatKind.f64.format.order a0 a0 = some Ordering.eq) = false := by simpa using c3))
   (try (have c3b2 : (FloatKind.f64.format.order a0 a0 == some Ordering.eq) = false := by simpa using c3))
   (try (have c3b3 : ¬ (FloatKind.f64.format.order a0 a0 = some Ordering.eq) := by simpa using c3))
   clear c3
   (first | rw [c3b0] | (simp only [i64_w, i32_w]; rw [c3b0]) | skip)
   have H' := Aside0.mk H
   clear H
   go_wp2
   go_meet
   case rel => exact ⟨_, (true), (by first | rfl | (simp; done) | (simp [*]; done)), H', ⟨by first | omega | exact Nat.le_refl _⟩, by repeat (first | exact Drawn0.refl _ | apply Drawn0.step)⟩
  ·
   rw [if_neg c3] at H
   have c3b0 : (FloatKind.f64.format.order a0 a0 != some Ordering.eq) = false := by simpa using c3
   (try (have c3b1 : decide (FloatKind.f64.format.order a0 a0 = some Ordering.eq) = true := by simpa using c3))
   (try (have c3b2 : (FloatKind.f64.format.order a0 a0 == some Ordering.eq) = true := by simpa using c3))
   clear c3
   (first | rw [c3b0] | (simp only [i64_w, i32_w]; rw [c3b0]) | skip)
   have H' := Aside0.mk H
   clear H
   go_wp2
   go_meet
   case rel => exact ⟨_, (((a0 : Int) == 9218868437227405312)), (by first | rfl | (simp; done) | (simp [*]; done)), H', ⟨by first | omega | exact Nat.le_refl _⟩, by repeat (first | exact Drawn0.refl _ | apply Drawn0.step)⟩
 case rest =>
  clear HC2
  try clear p2
  try clear c3
  try clear c3b0
  try clear c3b1
  try clear c3b2
  obtain ⟨kq, x6_1, rfl, HA, HJ1, ⟨mc1, rfl⟩⟩ := hcut
  cases kq with
  | zero => exact absurd HA.out (by simp [vigilref03_Next.j0])
  | succ kj1 =>
   have H := HA.out
   clear HA
   simp only [vigilref03_Next.j0] at H
   by_cases c4 : x6_1 = true
   ·
    subst c4
    have H1 : (some a0) = some r := by rw [if_pos rfl] at H; exact H
    clear H
    have H := H1
    clear H1
    obtain rfl := Option.some.inj H
    go_wp2
    go_ret
    exact ⟨by first | rfl | (simp; done) | (simp [*]; done), by repeat (first | exact Drawn0.refl _ | apply Drawn0.step)⟩
   ·
    replace c4 := Bool.eq_false_iff.mpr c4
    subst c4
    have H1 : (if (a0 : Int) = 0 then (vigilref03_Next.j1 kj1 (a0 : Int) true) else (vigilref03_Next.j1 kj1 (a0 : Int) ((a0 : Int) == 9223372036854775808))) = some r := by rw [if_neg (show ¬ (false = true) by decide)] at H; exact H
    clear H
    have H := H1
    clear H1
    have HC5 := Aside0.mk H
    clear H
    go_upto_region 4 with (fail)
    go_cut [15] (fun v15 wc => ∃ (kq : Nat) (x15_4 : Bool), v15 = .bool x15_4 ∧ Aside0 (vigilref03_Next.j1 kq (a0 : Int) x15_4 = some r) ∧ Aside0 (kq ≤ kj1) ∧ Drawn0 w wc)
    case first =>
     have H := HC5.out
     clear HC5
     by_cases c6 : (a0 : Int) = 0
     ·
      rw [if_pos c6] at H
      have c6b0 : ((a0 : Int) == 0) = true := beq_iff_eq.mpr c6
      have c6b1 : ((a0 : Int) != 0) = false := bne_eq_false_iff_eq.mpr c6
      clear c6
      (first | rw [c6b0] | (simp only [i64_w, i32_w]; rw [c6b0]) | skip)
      have H' := Aside0.mk H
      clear H
      go_wp2
      go_meet
      case rel => exact ⟨_, (true), (by first | rfl | (simp; done) | (simp [*]; done)), H', ⟨by have := HJ1.out; first | omega | exact Nat.le_refl _⟩, by repeat (first | exact Drawn0.refl _ | apply Drawn0.step)⟩
     ·
      rw [if_neg c6] at H
      have c6b0 : ((a0 : Int) == 0) = false := beq_eq_false_iff_ne.mpr c6
      have c6b1 : ((a0 : Int) != 0) = true := bne_iff_ne.mpr c6
      (first | rw [c6b0] | (simp only [i64_w, i32_w]; rw [c6b0]) | skip)
      have H' := Aside0.mk H
      clear H
      go_wp2
      go_meet
      case rel => exact ⟨_, (((a0 : Int) == 9223372036854775808)), (by first | rfl | (simp; done) | (simp [*]; done)), H', ⟨by have := HJ1.out; first | omega | exact Nat.le_refl _⟩, by repeat (first | exact Drawn0.refl _ | apply Drawn0.step)⟩
    case rest =>
     clear HC5
     try clear c1
     try clear p2
     try clear c3
     try clear c3b0
     try clear c3b1
     try clear c3b2
     try clear c4
     try clear c6
     try clear c6b0
     try clear c6b1
     try clear p2
     obtain ⟨kq, x15_4, rfl, HA, HJ4, ⟨mc4, rfl⟩⟩ := hcut
     cases kq with
     | zero => exact absurd HA.out (by simp [vigilref03_Next.j1])
     | succ kj4 =>
      have H := HA.out
      clear HA
      simp only [vigilref03_Next.j1] at H
      by_cases c7 : x15_4 = true
      ·
       subst c7
       have H1 : (some ((1 : Int).toNat)) = some r := by rw [if_pos rfl] at H; exact H
       clear H
       have H := H1
       clear H1
       obtain rfl := Option.some.inj H
       go_wp2
       go_ret
       exact ⟨by first | rfl | (simp; done) | (simp [*]; done), by repeat (first | exact Drawn0.refl _ | apply Drawn0.step)⟩
      ·
       replace c7 := Bool.eq_false_iff.mpr c7
       subst c7
       have H1 : (if ((a0 : Int) / 9223372036854775808) = 1 then (some (((IntKind.u64.wrap ((a0 : Int) - 1)) : Int).toNat)) else (some (((IntKind.u64.wrap ((a0 : Int) + 1)) : Int).toNat))) = some r := by rw [if_neg (show ¬ (false = true) by decide)] at H; exact H
       clear H
       have H := H1
       clear H1
       by_cases c8 : ((a0 : Int) / 9223372036854775808) = 1
       ·
        rw [if_pos c8] at H
        have c8b0 : (((a0 : Int) / 9223372036854775808) == 1) = true := beq_iff_eq.mpr c8
        have c8b1 : (((a0 : Int) / 9223372036854775808) != 1) = false := bne_eq_false_iff_eq.mpr c8
        clear c8
        obtain rfl := Option.some.inj H
        go_wp2
        go_ret
        exact ⟨by first | rfl | (simp; done) | (simp [*]; done), by repeat (first | exact Drawn0.refl _ | apply Drawn0.step)⟩
       ·
        rw [if_neg c8] at H
        have c8b0 : (((a0 : Int) / 9223372036854775808) == 1) = false := beq_eq_false_iff_ne.mpr c8
        have c8b1 : (((a0 : Int) / 9223372036854775808) != 1) = true := bne_iff_ne.mpr c8
        obtain rfl := Option.some.inj H
        go_wp2
        go_ret
        exact ⟨by first | rfl | (simp; done) | (simp [*]; done), by repeat (first | exact Drawn0.refl _ | apply Drawn0.step)⟩

end Go.Proofs.YtjlnfnfdibfniaaDoor.F

-- Written by a program of this session (wip/vprint.py): Lean checks it.
namespace Go.Proofs.YtjlnfnfdibfniaaDoor.F
open Go.RowKit Go.Proofs.YtjlnfnfdibfniaaDoorW.PrintWords Go.Proofs.YtjlnfnfdibfniaaDoorW.PrintLast Go.Proofs.YtjlnfnfdibfniaaDoorW.PrintMore
attribute [local go_sem] max2_int min2_int max_two min_two max_three min_three max_four min_four   -- for this text's walks alone
set_option linter.unusedVariables false
set_option linter.unusedSimpArgs false

/-! ### num_Same: function 31 -/
def num_Same.f (a0 : Nat) (a1 : Nat) : Option (Bool) := some ((a0 : Int) == (a1 : Int))
set_option maxHeartbeats 8000000 in
set_option maxRecDepth 100000 in
theorem num_Same.calls (a0 : Nat) (a1 : Nat) (r : Bool) (w : World) (h : num_Same.f a0 a1 = some r) :
  Calls Tryd.prog 31 #[.float .f64 a0, .float .f64 a1] w fun e w' => e = .returned (.bool r) ∧ Drawn0 w w' := by
 have H : (some ((a0 : Int) == (a1 : Int))) = some r := h
 clear h
 obtain rfl := Option.some.inj H
 have hext0 := Hd.ext54
 go_enter Tryd.func31, Tryd.ntmps31
 go_wp2
 go_ret
 exact ⟨by first | rfl | (simp; done) | (simp [*]; done), by repeat (first | exact Drawn0.refl _ | apply Drawn0.step)⟩

end Go.Proofs.YtjlnfnfdibfniaaDoor.F

-- Written by a program of this session (wip/vprint.py): Lean checks it.
namespace Go.Proofs.YtjlnfnfdibfniaaDoor.F
open Go.RowKit Go.Proofs.YtjlnfnfdibfniaaDoorW.PrintWords Go.Proofs.YtjlnfnfdibfniaaDoorW.PrintLast Go.Proofs.YtjlnfnfdibfniaaDoorW.PrintMore
attribute [local go_sem] max2_int min2_int max_two min_two max_three min_three max_four min_four   -- for this text's walks alone
set_option linter.unusedVariables false
set_option linter.unusedSimpArgs false

/-! ### vigillaw03_NumNext: function 9 -/
def vigillaw03_NumNext.j0 : Nat → Nat → Nat → Nat → Bool → Option (Bool)
 | 0, _, _, _, _ => none
 | k + 1, x5, x6, x7, x33 => if x33 = true then (some false) else (if (FloatKind.f64.format.order x5 x5 == some Ordering.eq) = true then ((math_IsInf.f x5 1).bind fun t768 => (if t768 = true then ((vigillaw03_wakes.f k).bind fun t769 => (some t769)) else (if ((FloatKind.f64.format.order x7 x5 == some Ordering.gt) = true) then (if (FloatKind.f64.format.order x6 x5 == some Ordering.gt) = true then (if (FloatKind.f64.format.order x6 x7 == some Ordering.lt) = true then (some false) else ((vigillaw03_wakes.f k).bind fun t770 => (some t770))) else ((vigillaw03_wakes.f k).bind fun t771 => (some t771))) else (some false)))) else ((vigillaw03_wakes.f k).bind fun t772 => (some t772)))
def vigillaw03_NumNext.f (k : Nat) (a0 : Int) (a1 : Int) : Option (Bool) := (num_Next.f k ((a0 : Int).toNat)).bind fun t763 => ((vigilref03_Next.f k ((a0 : Int).toNat)).bind fun t764 => ((vigilkeep_Bits.f t763 t764).bind fun t765 => (if t765 = true then ((num_Same.f ((a0 : Int).toNat) ((a1 : Int).toNat)).bind fun t766 => (if (t766 != (a0 == a1)) = true then (vigillaw03_NumNext.j0 k ((a0 : Int).toNat) ((a1 : Int).toNat) t763 true) else ((num_Same.f ((a0 : Int).toNat) ((a0 : Int).toNat)).bind fun t767 => (vigillaw03_NumNext.j0 k ((a0 : Int).toNat) ((a1 : Int).toNat) t763 (!t767))))) else (vigillaw03_NumNext.j0 k ((a0 : Int).toNat) ((a1 : Int).toNat) t763 true))))
theorem vigillaw03_NumNext.mono_l : ∀ k, (∀ y0 y1 y2 y3, LeO (vigillaw03_NumNext.j0 k y0 y1 y2 y3) (vigillaw03_NumNext.j0 (k + 1) y0 y1 y2 y3))
 | 0 => fun _ _ _ _ r h => by simp [vigillaw03_NumNext.j0] at h
 | k + 1 => by
  have ih0 := vigillaw03_NumNext.mono_l k
  ·
   intro y0 y1 y2 y3
   unfold vigillaw03_NumNext.j0
   repeat' first
   | (with_reducible exact ih0 _ _ _ _)
   | (with_reducible exact num_Next.mono _ _)
   | (with_reducible exact vigillaw03_wakes.mono _)
   | (with_reducible exact vigilref03_Next.mono _ _)
   | (with_reducible exact LeO.refl _)
   | (with_reducible exact LeO.none _)
   | (with_reducible refine LeO.ite ?_ ?_)
   | (with_reducible refine LeO.bind ?_ (fun _ => ?_))
   | exact ih0 _ _ _ _
   | exact num_Next.mono _ _
   | exact vigillaw03_wakes.mono _
   | exact vigilref03_Next.mono _ _
   | exact LeO.none _
   | refine LeO.ite ?_ ?_
   | refine LeO.bind ?_ (fun _ => ?_)
theorem vigillaw03_NumNext.mono : ∀ a0 a1 k, LeO (vigillaw03_NumNext.f k a0 a1) (vigillaw03_NumNext.f (k + 1) a0 a1) := by
 intro a0 a1 k
 have ih0 := vigillaw03_NumNext.mono_l k
 unfold vigillaw03_NumNext.f
 repeat' first
   | (with_reducible exact ih0 _ _ _ _)
   | (with_reducible exact num_Next.mono _ _)
   | (with_reducible exact vigillaw03_wakes.mono _)
   | (with_reducible exact vigilref03_Next.mono _ _)
   | (with_reducible exact LeO.refl _)
   | (with_reducible exact LeO.none _)
   | (with_reducible refine LeO.ite ?_ ?_)
   | (with_reducible refine LeO.bind ?_ (fun _ => ?_))
   | exact ih0 _ _ _ _
   | exact num_Next.mono _ _
   | exact vigillaw03_wakes.mono _
   | exact vigilref03_Next.mono _ _
   | exact LeO.none _
   | refine LeO.ite ?_ ?_
   | refine LeO.bind ?_ (fun _ => ?_)
set_option maxHeartbeats 8000000 in
set_option maxRecDepth 100000 in
theorem vigillaw03_NumNext.calls (k : Nat) (a0 : Int) (a1 : Int) (r : Bool) (w : World) (h : vigillaw03_NumNext.f k a0 a1 = some r) :
  Calls Tryd.prog 9 #[.int .u64 a0, .int .u64 a1] w fun e w' => e = .returned (.bool r) ∧ Below w.heap.size w w' := by
 have HB := Aside0.mk (Below.refl w.heap.size w)
 have H : ((num_Next.f k ((a0 : Int).toNat)).bind fun t763 => ((vigilref03_Next.f k ((a0 : Int).toNat)).bind fun t764 => ((vigilkeep_Bits.f t763 t764).bind fun t765 => (if t765 = true then ((num_Same.f ((a0 : Int).toNat) ((a1 : Int).toNat)).bind fun t766 => (if (t766 != (a0 == a1)) = true then (vigillaw03_NumNext.j0 k ((a0 : Int).toNat) ((a1 : Int).toNat) t763 true) else ((num_Same.f ((a0 : Int).toNat) ((a0 : Int).toNat)).bind fun t767 => (vigillaw03_NumNext.j0 k ((a0 : Int).toNat) ((a1 : Int).toNat) t763 (!t767))))) else (vigillaw03_NumNext.j0 k ((a0 : Int).toNat) ((a1 : Int).toNat) t763 true))))) = some r := h
 clear h
 replace H := Option.bind_eq_some_iff.mp H
 obtain ⟨t763, A30, H⟩ := H
 replace H : ((vigilref03_Next.f k ((a0 : Int).toNat)).bind fun t764 => ((vigilkeep_Bits.f t763 t764).bind fun t765 => (if t765 = true then ((num_Same.f ((a0 : Int).toNat) ((a1 : Int).toNat)).bind fun t766 => (if (t766 != (a0 == a1)) = true then (vigillaw03_NumNext.j0 k ((a0 : Int).toNat) ((a1 : Int).toNat) t763 true) else ((num_Same.f ((a0 : Int).toNat) ((a0 : Int).toNat)).bind fun t767 => (vigillaw03_NumNext.j0 k ((a0 : Int).toNat) ((a1 : Int).toNat) t763 (!t767))))) else (vigillaw03_NumNext.j0 k ((a0 : Int).toNat) ((a1 : Int).toNat) t763 true)))) = some r := H
 have A3 := Aside0.mk A30
 clear A30
 have HC4 := Aside0.mk H
 clear H
 have hext0 := Hd.ext12
 go_enter Tryd.func9, Tryd.ntmps9
 go_upto_region 3 with (first | ((with_reducible refine gate_callee (f := 29) rfl ?_); refine goesL_ (some 13) rfl rfl Tryd.func29 (by kernel_rfl) rfl #[.float .f64 ((a0 : Int).toNat)] rfl (by (try simp only [List.map_toArray, List.map_cons, List.map_nil]); first | done | rfl | (simp only [List.length_drop, List.length_take]; rfl) | (simp [Act.eval, Hd.wrap_u8]; done)) ?_; (with_reducible refine (num_Next.calls k ((a0 : Int).toNat) t763 _ A3.out).mono ?_); rintro e w' ⟨rfl, ⟨nd, rfl⟩⟩; refine ⟨_, rfl, ?_⟩))
 (try simp only [Act.put, List.setIfInBounds_toArray, List.set_cons_zero, List.set_cons_succ])
 go_cut [33] (fun v33 wc => ∃ (kq : Nat) (x33_3 : Bool), v33 = .bool x33_3 ∧ Aside0 (vigillaw03_NumNext.j0 kq ((a0 : Int).toNat) ((a1 : Int).toNat) t763 x33_3 = some r) ∧ Aside0 (kq ≤ k) ∧ Aside0 (Below w.heap.size w wc))
 case first =>
  have H := HC4.out
  clear HC4
  replace H := Option.bind_eq_some_iff.mp H
  obtain ⟨t764, A50, H⟩ := H
  replace H : ((vigilkeep_Bits.f t763 t764).bind fun t765 => (if t765 = true then ((num_Same.f ((a0 : Int).toNat) ((a1 : Int).toNat)).bind fun t766 => (if (t766 != (a0 == a1)) = true then (vigillaw03_NumNext.j0 k ((a0 : Int).toNat) ((a1 : Int).toNat) t763 true) else ((num_Same.f ((a0 : Int).toNat) ((a0 : Int).toNat)).bind fun t767 => (vigillaw03_NumNext.j0 k ((a0 : Int).toNat) ((a1 : Int).toNat) t763 (!t767))))) else (vigillaw03_NumNext.j0 k ((a0 : Int).toNat) ((a1 : Int).toNat) t763 true))) = some r := H
  have A5 := Aside0.mk A50
  clear A50
  replace H := Option.bind_eq_some_iff.mp H
  obtain ⟨t765, A60, H⟩ := H
  replace H : (if t765 = true then ((num_Same.f ((a0 : Int).toNat) ((a1 : Int).toNat)).bind fun t766 => (if (t766 != (a0 == a1)) = true then (vigillaw03_NumNext.j0 k ((a0 : Int).toNat) ((a1 : Int).toNat) t763 true) else ((num_Same.f ((a0 : Int).toNat) ((a0 : Int).toNat)).bind fun t767 => (vigillaw03_NumNext.j0 k ((a0 : Int).toNat) ((a1 : Int).toNat) t763 (!t767))))) else (vigillaw03_NumNext.j0 k ((a0 : Int).toNat) ((a1 : Int).toNat) t763 true)) = some r := H
  have A6 := Aside0.mk A60
  clear A60
  by_cases c7 : t765 = true
  ·
   subst c7
   have H1 : ((num_Same.f ((a0 : Int).toNat) ((a1 : Int).toNat)).bind fun t766 => (if (t766 != (a0 == a1)) = true then (vigillaw03_NumNext.j0 k ((a0 : Int).toNat) ((a1 : Int).toNat) t763 true) else ((num_Same.f ((a0 : Int).toNat) ((a0 : Int).toNat)).bind fun t767 => (vigillaw03_NumNext.j0 k ((a0 : Int).toNat) ((a1 : Int).toNat) t763 (!t767))))) = some r := by rw [if_pos rfl] at H; exact H
   clear H
   have H := H1
   clear H1
   replace H := Option.bind_eq_some_iff.mp H
   obtain ⟨t766, A80, H⟩ := H
   replace H : (if (t766 != (a0 == a1)) = true then (vigillaw03_NumNext.j0 k ((a0 : Int).toNat) ((a1 : Int).toNat) t763 true) else ((num_Same.f ((a0 : Int).toNat) ((a0 : Int).toNat)).bind fun t767 => (vigillaw03_NumNext.j0 k ((a0 : Int).toNat) ((a1 : Int).toNat) t763 (!t767)))) = some r := H
   have A8 := Aside0.mk A80
   clear A80
   by_cases c9 : (t766 != (a0 == a1)) = true
   ·
    rw [if_pos c9] at H
    have c9b0 : (t766 != (a0 == a1)) = true := c9
    (try (have c9b1 : decide (t766 = (a0 == a1)) = false := by simpa using c9))
    (try (have c9b2 : (t766 == (a0 == a1)) = false := by simpa using c9))
    (try (have c9b3 : ¬ (t766 = (a0 == a1)) := by simpa using c9))
    clear c9
    (first | rw [c9b0] | (simp only [i64_w, i32_w]; rw [c9b0]) | skip)
    have H' := Aside0.mk H
    clear H
    go_wp2_with (first | ((with_reducible refine gate_callee (f := 30) rfl ?_); refine goesL_ (some 16) rfl rfl Tryd.func30 (by kernel_rfl) rfl #[.float .f64 ((a0 : Int).toNat)] rfl (by (try simp only [List.map_toArray, List.map_cons, List.map_nil]); first | done | rfl | (simp only [List.length_drop, List.length_take]; rfl) | (simp [Act.eval, Hd.wrap_u8]; done)) ?_; (with_reducible refine (vigilref03_Next.calls k ((a0 : Int).toNat) t764 _ A5.out).mono ?_); rintro e w' ⟨rfl, ⟨nd, rfl⟩⟩; refine ⟨_, rfl, ?_⟩) | ((with_reducible refine gate_callee (f := 20) rfl ?_); refine goesL_ (some 17) rfl rfl Tryd.func20 (by kernel_rfl) rfl #[.float .f64 t763, .float .f64 t764] rfl (by (try simp only [List.map_toArray, List.map_cons, List.map_nil]); first | done | rfl | (simp only [List.length_drop, List.length_take]; rfl) | (simp [Act.eval, Hd.wrap_u8]; done)) ?_; (with_reducible refine (vigilkeep_Bits.calls t763 t764 true _ A6.out).mono ?_); rintro e w' ⟨rfl, ⟨nd, rfl⟩⟩; refine ⟨_, rfl, ?_⟩) | (go_at_call 31; (with_reducible refine (num_Same.calls ((a0 : Int).toNat) ((a1 : Int).toNat) t766 _ A8.out).mono ?_); rintro e w' ⟨rfl, ⟨nd, rfl⟩⟩))
    go_meet
    case rel => exact ⟨_, (true), (by first | rfl | (simp; done) | (simp [*]; done)), H', ⟨by first | omega | exact Nat.le_refl _⟩, ⟨by repeat (first | (with_reducible first | exact HB.out | apply below_alloc | apply pw_below_drewN | apply below_drew1) | exact HB.out)⟩⟩
   ·
    rw [if_neg c9] at H
    have c9b0 : (t766 != (a0 == a1)) = false := by simpa using c9
    (try (have c9b1 : decide (t766 = (a0 == a1)) = true := by simpa using c9))
    (try (have c9b2 : (t766 == (a0 == a1)) = true := by simpa using c9))
    clear c9
    (first | rw [c9b0] | (simp only [i64_w, i32_w]; rw [c9b0]) | skip)
    replace H := Option.bind_eq_some_iff.mp H
    obtain ⟨t767, A100, H⟩ := H
    replace H : (vigillaw03_NumNext.j0 k ((a0 : Int).toNat) ((a1 : Int).toNat) t763 (!t767)) = some r := H
    have A10 := Aside0.mk A100
    clear A100
    have H' := Aside0.mk H
    clear H
    go_wp2_with (first | ((with_reducible refine gate_callee (f := 30) rfl ?_); refine goesL_ (some 16) rfl rfl Tryd.func30 (by kernel_rfl) rfl #[.float .f64 ((a0 : Int).toNat)] rfl (by (try simp only [List.map_toArray, List.map_cons, List.map_nil]); first | done | rfl | (simp only [List.length_drop, List.length_take]; rfl) | (simp [Act.eval, Hd.wrap_u8]; done)) ?_; (with_reducible refine (vigilref03_Next.calls k ((a0 : Int).toNat) t764 _ A5.out).mono ?_); rintro e w' ⟨rfl, ⟨nd, rfl⟩⟩; refine ⟨_, rfl, ?_⟩) | ((with_reducible refine gate_callee (f := 20) rfl ?_); refine goesL_ (some 17) rfl rfl Tryd.func20 (by kernel_rfl) rfl #[.float .f64 t763, .float .f64 t764] rfl (by (try simp only [List.map_toArray, List.map_cons, List.map_nil]); first | done | rfl | (simp only [List.length_drop, List.length_take]; rfl) | (simp [Act.eval, Hd.wrap_u8]; done)) ?_; (with_reducible refine (vigilkeep_Bits.calls t763 t764 true _ A6.out).mono ?_); rintro e w' ⟨rfl, ⟨nd, rfl⟩⟩; refine ⟨_, rfl, ?_⟩) | (go_at_call 31; (with_reducible refine (num_Same.calls ((a0 : Int).toNat) ((a1 : Int).toNat) t766 _ A8.out).mono ?_); rintro e w' ⟨rfl, ⟨nd, rfl⟩⟩) | (go_at_call 31; (with_reducible refine (num_Same.calls ((a0 : Int).toNat) ((a0 : Int).toNat) t767 _ A10.out).mono ?_); rintro e w' ⟨rfl, ⟨nd, rfl⟩⟩))
    go_meet
    case rel => exact ⟨_, (!t767), (by first | rfl | (simp; done) | (simp [*]; done)), H', ⟨by first | omega | exact Nat.le_refl _⟩, ⟨by repeat (first | (with_reducible first | exact HB.out | apply below_alloc | apply pw_below_drewN | apply below_drew1) | exact HB.out)⟩⟩
  ·
   replace c7 := Bool.eq_false_iff.mpr c7
   subst c7
   have H1 : (vigillaw03_NumNext.j0 k ((a0 : Int).toNat) ((a1 : Int).toNat) t763 true) = some r := by rw [if_neg (show ¬ (false = true) by decide)] at H; exact H
   clear H
   have H := H1
   clear H1
   have H' := Aside0.mk H
   clear H
   go_wp2_with (first | ((with_reducible refine gate_callee (f := 30) rfl ?_); refine goesL_ (some 16) rfl rfl Tryd.func30 (by kernel_rfl) rfl #[.float .f64 ((a0 : Int).toNat)] rfl (by (try simp only [List.map_toArray, List.map_cons, List.map_nil]); first | done | rfl | (simp only [List.length_drop, List.length_take]; rfl) | (simp [Act.eval, Hd.wrap_u8]; done)) ?_; (with_reducible refine (vigilref03_Next.calls k ((a0 : Int).toNat) t764 _ A5.out).mono ?_); rintro e w' ⟨rfl, ⟨nd, rfl⟩⟩; refine ⟨_, rfl, ?_⟩) | ((with_reducible refine gate_callee (f := 20) rfl ?_); refine goesL_ (some 17) rfl rfl Tryd.func20 (by kernel_rfl) rfl #[.float .f64 t763, .float .f64 t764] rfl (by (try simp only [List.map_toArray, List.map_cons, List.map_nil]); first | done | rfl | (simp only [List.length_drop, List.length_take]; rfl) | (simp [Act.eval, Hd.wrap_u8]; done)) ?_; (with_reducible refine (vigilkeep_Bits.calls t763 t764 false _ A6.out).mono ?_); rintro e w' ⟨rfl, ⟨nd, rfl⟩⟩; refine ⟨_, rfl, ?_⟩))
   go_meet
   case rel => exact ⟨_, (true), (by first | rfl | (simp; done) | (simp [*]; done)), H', ⟨by first | omega | exact Nat.le_refl _⟩, ⟨by repeat (first | (with_reducible first | exact HB.out | apply below_alloc | apply pw_below_drewN | apply below_drew1) | exact HB.out)⟩⟩
 case rest =>
  clear HC4
  try clear c2
  try clear p2
  try clear c3
  try clear c7
  try clear c9
  try clear c9b0
  try clear c9b1
  try clear c9b2
  obtain ⟨kq, x33_3, rfl, HA, HJ3, HB⟩ := hcut
  cases kq with
  | zero => exact absurd HA.out (by simp [vigillaw03_NumNext.j0])
  | succ kj3 =>
   have H := HA.out
   clear HA
   simp only [vigillaw03_NumNext.j0] at H
   by_cases c11 : x33_3 = true
   ·
    subst c11
    have H1 : (some false) = some r := by rw [if_pos rfl] at H; exact H
    clear H
    have H := H1
    clear H1
    obtain rfl := Option.some.inj H
    go_wp2
    go_ret
    exact ⟨by first | rfl | (simp [errW_none, errW_some] <;> rfl) | (simp [*, errW_none, errW_some] <;> rfl), by repeat (first | (with_reducible first | exact HB.out | apply below_alloc | apply pw_below_drewN | apply below_drew1) | exact HB.out)⟩
   ·
    replace c11 := Bool.eq_false_iff.mpr c11
    subst c11
    have H1 : (if (FloatKind.f64.format.order ((a0 : Int).toNat) ((a0 : Int).toNat) == some Ordering.eq) = true then ((math_IsInf.f ((a0 : Int).toNat) 1).bind fun t768 => (if t768 = true then ((vigillaw03_wakes.f kj3).bind fun t769 => (some t769)) else (if ((FloatKind.f64.format.order t763 ((a0 : Int).toNat) == some Ordering.gt) = true) then (if (FloatKind.f64.format.order ((a1 : Int).toNat) ((a0 : Int).toNat) == some Ordering.gt) = true then (if (FloatKind.f64.format.order ((a1 : Int).toNat) t763 == some Ordering.lt) = true then (some false) else ((vigillaw03_wakes.f kj3).bind fun t770 => (some t770))) else ((vigillaw03_wakes.f kj3).bind fun t771 => (some t771))) else (some false)))) else ((vigillaw03_wakes.f kj3).bind fun t772 => (some t772))) = some r := by rw [if_neg (show ¬ (false = true) by decide)] at H; exact H
    clear H
    have H := H1
    clear H1
    by_cases c12 : (FloatKind.f64.format.order ((a0 : Int).toNat) ((a0 : Int).toNat) == some Ordering.eq) = true
    ·
     rw [if_pos c12] at H
     have c12b0 : (FloatKind.f64.format.order ((a0 : Int).toNat) ((a0 : Int).toNat) == some Ordering.eq) = true := c12
     (try (have c12b1 : decide (FloatKind.f64.format.order ((a0 : Int).toNat) ((a0 : Int).toNat) = some Ordering.eq) = true := by simpa using c12))
     (try (have c12b2 : (FloatKind.f64.format.order ((a0 : Int).toNat) ((a0 : Int).toNat) == some Ordering.eq) = true := by simpa using c12))
     clear c12
     replace H := Option.bind_eq_some_iff.mp H
     obtain ⟨t768, A130, H⟩ := H
     replace H : (if t768 = true then ((vigillaw03_wakes.f kj3).bind fun t769 => (some t769)) else (if ((FloatKind.f64.format.order t763 ((a0 : Int).toNat) == some Ordering.gt) = true) then (if (FloatKind.f64.format.order ((a1 : Int).toNat) ((a0 : Int).toNat) == some Ordering.gt) = true then (if (FloatKind.f64.format.order ((a1 : Int).toNat) t763 == some Ordering.lt) = true then (some false) else ((vigillaw03_wakes.f kj3).bind fun t770 => (some t770))) else ((vigillaw03_wakes.f kj3).bind fun t771 => (some t771))) else (some false))) = some r := H
     have A13 := Aside0.mk A130
     clear A130
     by_cases c14 : t768 = true
     ·
      subst c14
      have H1 : ((vigillaw03_wakes.f kj3).bind fun t769 => (some t769)) = some r := by rw [if_pos rfl] at H; exact H
      clear H
      have H := H1
      clear H1
      replace H := Option.bind_eq_some_iff.mp H
      obtain ⟨t769, A150, H⟩ := H
      replace H : (some t769) = some r := H
      have A15 := Aside0.mk A150
      clear A150
      obtain rfl := Option.some.inj H
      go_wp2_with (first | (go_at_call 32; (with_reducible refine (math_IsInf.calls ((a0 : Int).toNat) 1 true _ A13.out).mono ?_); rintro e w' ⟨rfl, ⟨nd, rfl⟩⟩) | ((with_reducible refine gate_callee (f := 17) rfl ?_); refine goesL_ (some 58) rfl rfl Tryd.func17 (by kernel_rfl) rfl #[] rfl (by (try simp only [List.map_toArray, List.map_cons, List.map_nil]); first | done | rfl | (simp only [List.length_drop, List.length_take]; rfl) | (simp [Act.eval, Hd.wrap_u8]; done)) ?_; (with_reducible refine (vigillaw03_wakes.calls kj3  t769 _ A15.out).mono ?_); rintro e w16 ⟨rfl, hb⟩; refine ⟨_, rfl, ?_⟩; have n0_ := Aside0.mk (below_step (by repeat (first | (with_reducible first | exact HB.out | apply below_alloc | apply pw_below_drewN | apply below_drew1) | exact HB.out)) hb); clear HB; have HB := n0_; clear n0_; (try clear hb); (try clear hb2); (try clear hk); (try clear hi)))
      go_ret
      exact ⟨by first | rfl | (simp [errW_none, errW_some] <;> rfl) | (simp [*, errW_none, errW_some] <;> rfl), by repeat (first | (with_reducible first | exact HB.out | apply below_alloc | apply pw_below_drewN | apply below_drew1) | exact HB.out)⟩
     ·
      replace c14 := Bool.eq_false_iff.mpr c14
      subst c14
      have H1 : (if ((FloatKind.f64.format.order t763 ((a0 : Int).toNat) == some Ordering.gt) = true) then (if (FloatKind.f64.format.order ((a1 : Int).toNat) ((a0 : Int).toNat) == some Ordering.gt) = true then (if (FloatKind.f64.format.order ((a1 : Int).toNat) t763 == some Ordering.lt) = true then (some false) else ((vigillaw03_wakes.f kj3).bind fun t770 => (some t770))) else ((vigillaw03_wakes.f kj3).bind fun t771 => (some t771))) else (some false)) = some r := by rw [if_neg (show ¬ (false = true) by decide)] at H; exact H
      clear H
      have H := H1
      clear H1
      by_cases c17 : ((FloatKind.f64.format.order t763 ((a0 : Int).toNat) == some Ordering.gt) = true)
      ·
       rw [if_pos c17] at H
       have c17b0 : (FloatKind.f64.format.order t763 ((a0 : Int).toNat) == some Ordering.gt) = true := c17
       (try (have c17b1 : decide (FloatKind.f64.format.order t763 ((a0 : Int).toNat) = some Ordering.gt) = true := by simpa using c17))
       (try (have c17b2 : (FloatKind.f64.format.order t763 ((a0 : Int).toNat) == some Ordering.gt) = true := by simpa using c17))
       clear c17
       by_cases c18 : (FloatKind.f64.format.order ((a1 : Int).toNat) ((a0 : Int).toNat) == some Ordering.gt) = true
       ·
        rw [if_pos c18] at H
        have c18b0 : (FloatKind.f64.format.order ((a1 : Int).toNat) ((a0 : Int).toNat) == some Ordering.gt) = true := c18
        (try (have c18b1 : decide (FloatKind.f64.format.order ((a1 : Int).toNat) ((a0 : Int).toNat) = some Ordering.gt) = true := by simpa using c18))
        (try (have c18b2 : (FloatKind.f64.format.order ((a1 : Int).toNat) ((a0 : Int).toNat) == some Ordering.gt) = true := by simpa using c18))
        clear c18
        by_cases c19 : (FloatKind.f64.format.order ((a1 : Int).toNat) t763 == some Ordering.lt) = true
        ·
         rw [if_pos c19] at H
         have c19b0 : (FloatKind.f64.format.order ((a1 : Int).toNat) t763 == some Ordering.lt) = true := c19
         (try (have c19b1 : decide (FloatKind.f64.format.order ((a1 : Int).toNat) t763 = some Ordering.lt) = true := by simpa using c19))
         (try (have c19b2 : (FloatKind.f64.format.order ((a1 : Int).toNat) t763 == some Ordering.lt) = true := by simpa using c19))
         clear c19
         obtain rfl := Option.some.inj H
         go_wp2_with (first | (go_at_call 32; (with_reducible refine (math_IsInf.calls ((a0 : Int).toNat) 1 false _ A13.out).mono ?_); rintro e w' ⟨rfl, ⟨nd, rfl⟩⟩))
         go_ret
         exact ⟨by first | rfl | (simp [errW_none, errW_some] <;> rfl) | (simp [*, errW_none, errW_some] <;> rfl), by repeat (first | (with_reducible first | exact HB.out | apply below_alloc | apply pw_below_drewN | apply below_drew1) | exact HB.out)⟩
        ·
         rw [if_neg c19] at H
         have c19b0 : (FloatKind.f64.format.order ((a1 : Int).toNat) t763 == some Ordering.lt) = false := by simpa using c19
         (try (have c19b1 : decide (FloatKind.f64.format.order ((a1 : Int).toNat) t763 = some Ordering.lt) = false := by simpa using c19))
         (try (have c19b2 : (FloatKind.f64.format.order ((a1 : Int).toNat) t763 == some Ordering.lt) = false := by simpa using c19))
         (try (have c19b3 : ¬ (FloatKind.f64.format.order ((a1 : Int).toNat) t763 = some Ordering.lt) := by simpa using c19))
         clear c19
         replace H := Option.bind_eq_some_iff.mp H
         obtain ⟨t770, A200, H⟩ := H
         replace H : (some t770) = some r := H
         have A20 := Aside0.mk A200
         clear A200
         obtain rfl := Option.some.inj H
         go_wp2_with (first | (go_at_call 32; (with_reducible refine (math_IsInf.calls ((a0 : Int).toNat) 1 false _ A13.out).mono ?_); rintro e w' ⟨rfl, ⟨nd, rfl⟩⟩) | ((with_reducible refine gate_callee (f := 17) rfl ?_); refine goesL_ (some 58) rfl rfl Tryd.func17 (by kernel_rfl) rfl #[] rfl (by (try simp only [List.map_toArray, List.map_cons, List.map_nil]); first | done | rfl | (simp only [List.length_drop, List.length_take]; rfl) | (simp [Act.eval, Hd.wrap_u8]; done)) ?_; (with_reducible refine (vigillaw03_wakes.calls kj3  t770 _ A20.out).mono ?_); rintro e w21 ⟨rfl, hb⟩; refine ⟨_, rfl, ?_⟩; have n0_ := Aside0.mk (below_step (by repeat (first | (with_reducible first | exact HB.out | apply below_alloc | apply pw_below_drewN | apply below_drew1) | exact HB.out)) hb); clear HB; have HB := n0_; clear n0_; (try clear hb); (try clear hb2); (try clear hk); (try clear hi)))
         go_ret
         exact ⟨by first | rfl | (simp [errW_none, errW_some] <;> rfl) | (simp [*, errW_none, errW_some] <;> rfl), by repeat (first | (with_reducible first | exact HB.out | apply below_alloc | apply pw_below_drewN | apply below_drew1) | exact HB.out)⟩
       ·
        rw [if_neg c18] at H
        have c18b0 : (FloatKind.f64.format.order ((a1 : Int).toNat) ((a0 : Int).toNat) == some Ordering.gt) = false := by simpa using c18
        (try (have c18b1 : decide (FloatKind.f64.format.order ((a1 : Int).toNat) ((a0 : Int).toNat) = some Ordering.gt) = false := by simpa using c18))
        (try (have c18b2 : (FloatKind.f64.format.order ((a1 : Int).toNat) ((a0 : Int).toNat) == some Ordering.gt) = false := by simpa using c18))
        (try (have c18b3 : ¬ (FloatKind.f64.format.order ((a1 : Int).toNat) ((a0 : Int).toNat) = some Ordering.gt) := by simpa using c18))
        clear c18
        replace H := Option.bind_eq_some_iff.mp H
        obtain ⟨t771, A220, H⟩ := H
        replace H : (some t771) = some r := H
        have A22 := Aside0.mk A220
        clear A220
        obtain rfl := Option.some.inj H
        go_wp2_with (first | (go_at_call 32; (with_reducible refine (math_IsInf.calls ((a0 : Int).toNat) 1 false _ A13.out).mono ?_); rintro e w' ⟨rfl, ⟨nd, rfl⟩⟩) | ((with_reducible refine gate_callee (f := 17) rfl ?_); refine goesL_ (some 58) rfl rfl Tryd.func17 (by kernel_rfl) rfl #[] rfl (by (try simp only [List.map_toArray, List.map_cons, List.map_nil]); first | done | rfl | (simp only [List.length_drop, List.length_take]; rfl) | (simp [Act.eval, Hd.wrap_u8]; done)) ?_; (with_reducible refine (vigillaw03_wakes.calls kj3  t771 _ A22.out).mono ?_); rintro e w23 ⟨rfl, hb⟩; refine ⟨_, rfl, ?_⟩; have n0_ := Aside0.mk (below_step (by repeat (first | (with_reducible first | exact HB.out | apply below_alloc | apply pw_below_drewN | apply below_drew1) | exact HB.out)) hb); clear HB; have HB := n0_; clear n0_; (try clear hb); (try clear hb2); (try clear hk); (try clear hi)))
        go_ret
        exact ⟨by first | rfl | (simp [errW_none, errW_some] <;> rfl) | (simp [*, errW_none, errW_some] <;> rfl), by repeat (first | (with_reducible first | exact HB.out | apply below_alloc | apply pw_below_drewN | apply below_drew1) | exact HB.out)⟩
      ·
       rw [if_neg c17] at H
       have c17b0 : (FloatKind.f64.format.order t763 ((a0 : Int).toNat) == some Ordering.gt) = false := by simpa using c17
       (try (have c17b1 : decide (FloatKind.f64.format.order t763 ((a0 : Int).toNat) = some Ordering.gt) = false := by simpa using c17))
       (try (have c17b2 : (FloatKind.f64.format.order t763 ((a0 : Int).toNat) == some Ordering.gt) = false := by simpa using c17))
       (try (have c17b3 : ¬ (FloatKind.f64.format.order t763 ((a0 : Int).toNat) = some Ordering.gt) := by simpa using c17))
       clear c17
       obtain rfl := Option.some.inj H
       go_wp2_with (first | (go_at_call 32; (with_reducible refine (math_IsInf.calls ((a0 : Int).toNat) 1 false _ A13.out).mono ?_); rintro e w' ⟨rfl, ⟨nd, rfl⟩⟩))
       go_ret
       exact ⟨by first | rfl | (simp [errW_none, errW_some] <;> rfl) | (simp [*, errW_none, errW_some] <;> rfl), by repeat (first | (with_reducible first | exact HB.out | apply below_alloc | apply pw_below_drewN | apply below_drew1) | exact HB.out)⟩
    ·
     rw [if_neg c12] at H
     have c12b0 : (FloatKind.f64.format.order ((a0 : Int).toNat) ((a0 : Int).toNat) == some Ordering.eq) = false := by simpa using c12
     (try (have c12b1 : decide (FloatKind.f64.format.order ((a0 : Int).toNat) ((a0 : Int).toNat) = some Ordering.eq) = false := by simpa using c12))
     (try (have c12b2 : (FloatKind.f64.format.order ((a0 : Int).toNat) ((a0 : Int).toNat) == some Ordering.eq) = false := by simpa using c12))
     (try (have c12b3 : ¬ (FloatKind.f64.format.order ((a0 : Int).toNat) ((a0 : Int).toNat) = some Ordering.eq) := by simpa using c12))
     clear c12
     replace H := Option.bind_eq_some_iff.mp H
     obtain ⟨t772, A240, H⟩ := H
     replace H : (some t772) = some r := H
     have A24 := Aside0.mk A240
     clear A240
     obtain rfl := Option.some.inj H
     go_wp2_with (first | ((with_reducible refine gate_callee (f := 17) rfl ?_); refine goesL_ (some 58) rfl rfl Tryd.func17 (by kernel_rfl) rfl #[] rfl (by (try simp only [List.map_toArray, List.map_cons, List.map_nil]); first | done | rfl | (simp only [List.length_drop, List.length_take]; rfl) | (simp [Act.eval, Hd.wrap_u8]; done)) ?_; (with_reducible refine (vigillaw03_wakes.calls kj3  t772 _ A24.out).mono ?_); rintro e w25 ⟨rfl, hb⟩; refine ⟨_, rfl, ?_⟩; have n0_ := Aside0.mk (below_step (by repeat (first | (with_reducible first | exact HB.out | apply below_alloc | apply pw_below_drewN | apply below_drew1) | exact HB.out)) hb); clear HB; have HB := n0_; clear n0_; (try clear hb); (try clear hb2); (try clear hk); (try clear hi)))
     go_ret
     exact ⟨by first | rfl | (simp [errW_none, errW_some] <;> rfl) | (simp [*, errW_none, errW_some] <;> rfl), by repeat (first | (with_reducible first | exact HB.out | apply below_alloc | apply pw_below_drewN | apply below_drew1) | exact HB.out)⟩

/-- THE ONE PURE STATEMENT of vigillaw03_NumNext: yours. -/
def vigillaw03_NumNext.Pure : Prop := ∀ (a0 : Int) (a1 : Int), (Lit.int .u64 a0).wf = true → (Lit.int .u64 a1).wf = true → ∃ k, vigillaw03_NumNext.f k a0 a1 = some true
theorem vigillaw03_NumNext.walk (P : vigillaw03_NumNext.Pure) (a0 : Int) (a1 : Int) (w : World) (w0 : (Lit.int .u64 a0).wf = true) (w1 : (Lit.int .u64 a1).wf = true) :
  Calls Tryd.prog 9 #[.int .u64 a0, .int .u64 a1] w fun e w' => e = .returned (.bool true) ∧ Below w.heap.size w w' := by
 obtain ⟨k, h⟩ := P a0 a1 w0 w1
 refine (vigillaw03_NumNext.calls k a0 a1 true w h).mono ?_
 rintro e w' ⟨rfl, hd⟩
 exact ⟨rfl, hd⟩

end Go.Proofs.YtjlnfnfdibfniaaDoor.F

/- The plain law of NumNext: Next goes to the next float, as the floats stand in one row. -/
namespace Go.Proofs.YtjlnfnfdibfniaaDoor.Pl
open F Go.RowKit Go.Proofs.YtjlnfnfdibfniaaDoorW.PrintWords Go.Proofs.YtjlnfnfdibfniaaDoorW.PrintMore
theorem neq_iff {x y : Nat} : (FloatKind.f64.format.order x y != some Ordering.eq) = true ↔ ¬ (isNum x ∧ isNum y ∧ srung x = srung y) := by
  rw [← eq_iff]; simp [bne]
theorem nan_yes {x : Nat} (h : ¬ isNum x) : math_IsNaN.f x = some true := by
  unfold math_IsNaN.f
  rw [neq_iff.2 (fun hh => h hh.1)]
theorem nan_no {x : Nat} (h : isNum x) : math_IsNaN.f x = some false := by
  unfold math_IsNaN.f
  rw [Bool.eq_false_iff.mpr (fun hh => (neq_iff.1 hh) ⟨h, h, rfl⟩)]
theorem u64_wrap {z : Int} (h0 : 0 ≤ z) (h1 : z < 2 ^ 64) : IntKind.u64.wrap z = z := by
  unfold IntKind.wrap
  simp only [IntKind.bits, IntKind.signed]
  simp
  omega
/-- The next float's bits. -/
def nx (x : Nat) : Nat := if 9218868437227405312 < x % 2 ^ 63 ∨ x = 9218868437227405312 then x else if x % 2 ^ 63 = 0 then 1 else if 2 ^ 63 ≤ x then x - 1 else x + 1
theorem srung_lo {x : Nat} (h : x < 2 ^ 63) : srung x = x := by
  have h1 : x / 2 ^ 63 = 0 := by omega
  have h2 : x % 2 ^ 63 = x := by omega
  rw [srung_eq, h1, h2]; rfl
theorem srung_hi {x : Nat} (h : 2 ^ 63 ≤ x) (h' : x < 2 ^ 64) : srung x = -((x - 2 ^ 63 : Nat) : Int) := by
  have h1 : x / 2 ^ 63 = 1 := by omega
  have h2 : x % 2 ^ 63 = x - 2 ^ 63 := by omega
  rw [srung_eq, h1, h2]; simp only [sg]; simp
theorem srung_zero {x : Nat} (h' : x < 2 ^ 64) : srung x = 0 ↔ x % 2 ^ 63 = 0 := by
  by_cases h : x < 2 ^ 63
  · rw [srung_lo h]; omega
  · rw [srung_hi (by omega) h']; omega
theorem zero_iff {x : Nat} (h' : x < 2 ^ 64) (hn : isNum x) : (FloatKind.f64.format.order x 0 == some Ordering.eq) = true ↔ x % 2 ^ 63 = 0 := by
  rw [eq_iff]
  have h0 : srung 0 = 0 := rfl
  have hz : isNum 0 := by unfold isNum; omega
  rw [h0, srung_zero h']
  exact ⟨fun h => h.2.2, fun h => ⟨hn, hz, h⟩⟩
theorem Next_eq {x : Nat} (h' : x < 2 ^ 64) (k : Nat) : num_Next.f (k + 1) x = some (nx x) := by
  unfold num_Next.f nx
  by_cases hn : isNum x
  · have hn' := hn
    unfold isNum at hn'
    rw [nan_no hn, Option.bind_some, if_neg (by decide)]
    rw [num_Next.j0]
    by_cases hi : x = 9218868437227405312
    · have hb : ((x : Int) == 9218868437227405312) = true := by rw [hi]; rfl
      rw [if_pos hb, if_pos (show 9218868437227405312 < x % 2 ^ 63 ∨ x = 9218868437227405312 from .inr hi)]
    · have hb : ((x : Int) == 9218868437227405312) = false := by rw [beq_eq_false_iff_ne]; omega
      rw [hb, if_neg Bool.false_ne_true, if_neg (show ¬ (9218868437227405312 < x % 2 ^ 63 ∨ x = 9218868437227405312) by omega)]
      by_cases hz : x % 2 ^ 63 = 0
      · rw [if_pos ((zero_iff h' hn).2 hz), if_pos hz]; rfl
      · rw [if_neg (fun h => hz ((zero_iff h' hn).1 h)), if_neg hz]
        by_cases hh : 2 ^ 63 ≤ x
        · rw [if_pos (show (x : Int) ≥ 9223372036854775808 by omega), if_pos hh, u64_wrap (by omega) (by omega)]
          congr 1; omega
        · rw [if_neg (show ¬ (x : Int) ≥ 9223372036854775808 by omega), if_neg hh, u64_wrap (by omega) (by omega)]
          congr 1
  · have hn' := hn
    unfold isNum at hn'
    rw [nan_yes hn, Option.bind_some, if_pos rfl, if_pos (show 9218868437227405312 < x % 2 ^ 63 ∨ x = 9218868437227405312 by omega)]
    rfl
theorem refNext_eq {x : Nat} (h' : x < 2 ^ 64) (k : Nat) : vigilref03_Next.f (k + 2) x = some (nx x) := by
  unfold vigilref03_Next.f nx
  by_cases hn : isNum x
  · have hn' := hn
    unfold isNum at hn'
    rw [if_neg (fun h => neq_iff.1 h ⟨hn, hn, rfl⟩)]
    rw [vigilref03_Next.j0]
    by_cases hi : x = 9218868437227405312
    · have hb : ((x : Int) == 9218868437227405312) = true := by rw [hi]; rfl
      rw [if_pos hb, if_pos (show 9218868437227405312 < x % 2 ^ 63 ∨ x = 9218868437227405312 from .inr hi)]
    · have hb : ((x : Int) == 9218868437227405312) = false := by rw [beq_eq_false_iff_ne]; omega
      rw [hb, if_neg Bool.false_ne_true, if_neg (show ¬ (9218868437227405312 < x % 2 ^ 63 ∨ x = 9218868437227405312) by omega)]
      by_cases hz : x % 2 ^ 63 = 0
      · rw [if_pos hz]
        by_cases h0 : (x : Int) = 0
        · rw [if_pos h0]; rw [vigilref03_Next.j1]; rfl
        · have hb : ((x : Int) == 9223372036854775808) = true := by rw [beq_iff_eq]; omega
          rw [if_neg h0, hb]; rw [vigilref03_Next.j1]; rfl
      · have hb : ((x : Int) == 9223372036854775808) = false := by rw [beq_eq_false_iff_ne]; omega
        rw [if_neg hz, if_neg (show ¬ (x : Int) = 0 by omega), hb]
        rw [vigilref03_Next.j1, if_neg (by decide)]
        by_cases hh : 2 ^ 63 ≤ x
        · rw [if_pos (show (x : Int) / 9223372036854775808 = 1 by omega), if_pos hh, u64_wrap (by omega) (by omega)]
          congr 1; omega
        · rw [if_neg (show ¬ (x : Int) / 9223372036854775808 = 1 by omega), if_neg hh, u64_wrap (by omega) (by omega)]
          congr 1
  · have hn' := hn
    unfold isNum at hn'
    rw [if_pos (neq_iff.2 (fun hh => hn hh.1)), if_pos (show 9218868437227405312 < x % 2 ^ 63 ∨ x = 9218868437227405312 by omega)]
    rfl
theorem next_num {x : Nat} (h' : x < 2 ^ 64) (hn : isNum x) (hi : x ≠ 9218868437227405312) : isNum (nx x) ∧ nx x < 2 ^ 64 ∧ srung (nx x) = srung x + 1 := by
  unfold isNum at hn ⊢
  unfold nx
  rw [if_neg (show ¬ (9218868437227405312 < x % 2 ^ 63 ∨ x = 9218868437227405312) by omega)]
  by_cases hz : x % 2 ^ 63 = 0
  · rw [if_pos hz, (srung_zero h').2 hz]
    exact ⟨by omega, by omega, rfl⟩
  · rw [if_neg hz]
    by_cases hh : 2 ^ 63 ≤ x
    · rw [if_pos hh, srung_hi hh h', srung_hi (by omega) (by omega)]
      exact ⟨by omega, by omega, by omega⟩
    · rw [if_neg hh, srung_lo (x := x) (by omega), srung_lo (x := x + 1) (by omega)]
      exact ⟨by omega, by omega, by omega⟩
theorem inf_iff {x : Nat} (h' : x < 2 ^ 64) (hn : isNum x) : (FloatKind.f64.format.order x 9218868437227405311 == some Ordering.gt) = true ↔ x = 9218868437227405312 := by
  rw [gt_iff]
  have h0 : srung 9218868437227405311 = 9218868437227405311 := rfl
  have hz : isNum 9218868437227405311 := by unfold isNum; omega
  rw [h0]
  unfold isNum at hn
  by_cases h : x < 2 ^ 63
  · rw [srung_lo h]; exact ⟨fun hh => by omega, fun hh => ⟨hn, hz, by omega⟩⟩
  · rw [srung_hi (by omega) h']; exact ⟨fun hh => by omega, fun hh => by omega⟩
theorem law_next : vigillaw03_NumNext.Pure := by
  intro a0 a1 w0 w1
  have h0 : 0 ≤ a0 ∧ a0 < 2 ^ 64 := by simp [Lit.wf, IntKind.min, IntKind.max, IntKind.bits, IntKind.signed] at w0; omega
  have h1 : 0 ≤ a1 ∧ a1 < 2 ^ 64 := by simp [Lit.wf, IntKind.min, IntKind.max, IntKind.bits, IntKind.signed] at w1; omega
  obtain ⟨x, hx⟩ := Int.eq_ofNat_of_zero_le h0.1
  obtain ⟨y, hy⟩ := Int.eq_ofNat_of_zero_le h1.1
  subst hx hy
  have hx : x < 2 ^ 64 := by omega
  have hy : y < 2 ^ 64 := by omega
  refine ⟨401, ?_⟩
  unfold vigillaw03_NumNext.f
  simp only [Int.toNat_natCast]
  rw [Next_eq hx, Option.bind_some, refNext_eq hx, Option.bind_some]
  unfold vigilkeep_Bits.f num_Same.f
  simp only [Option.bind_some, beq_self_eq_true, if_true]
  rw [if_neg (by simp)]
  rw [vigillaw03_NumNext.j0, if_neg (by decide), wakes, Option.bind_some]
  by_cases hn : isNum x
  · rw [if_pos (eq_iff.2 ⟨hn, hn, rfl⟩)]
    unfold math_IsInf.f
    rw [if_neg (by decide), if_neg (by decide), Option.bind_some]
    by_cases hi : x = 9218868437227405312
    · rw [if_pos ((inf_iff hx hn).2 hi)]
    · obtain ⟨g1, g2, g3⟩ := next_num hx hn hi
      rw [if_neg (fun h => hi ((inf_iff hx hn).1 h)), if_pos (gt_iff.2 ⟨g1, hn, by omega⟩)]
      by_cases hg : (FloatKind.f64.format.order y x == some Ordering.gt) = true
      · rw [if_pos hg]
        have hg' := gt_iff.1 hg
        rw [if_neg (fun h => by have := lt_iff.1 h; omega)]
      · rw [if_neg hg]
  · rw [if_neg (fun h => hn (eq_iff.1 h).1)]
end Go.Proofs.YtjlnfnfdibfniaaDoor.Pl

namespace Go.Proofs.YtjlnfnfdibfniaaDoor.numNext
open Go.ChangeShapes Go.WideShapes Go.ChangeAt Go.RowKit
set_option linter.unusedVariables false
theorem own : ownKnob Tryd.prog.godebug = none := by kernel_rfl
set_option maxRecDepth 100000 in
theorem lifted (os : Os) (started : os.Started) (H : Type) (enc : TypeId × Value → H) :
    ReturnsInHanded {} Tryd.checked os 9 .any (fun w args => (Rows.numNextSpec.pre enc Tryd.prog Tryd.f9 [] false w args ∧ laidMetH Tryd.prog Rows.numNextRow.laid w) ∧ sizedMet enc Tryd.prog Tryd.f9 (OpenSpec.ofChange Rows.numNextSpec) false w args)
      (Rows.numNextSpec.post enc Tryd.prog Tryd.f9 false true false false) := by
  refine returnsInHanded_of_change_and (C := Tryd.checked) (X := fun w _ => laidMetH Tryd.prog Rows.numNextRow.laid w) (fun _ _ _ hh h => h.of_heap hh) own started (by kernel_rfl) Tryd.func9
    (ChangeSpec.witness_shaped (enc := enc) (C := Tryd.checked) (os := os) (X := fun w _ => laidMetH Tryd.prog Rows.numNextRow.laid w) false (World.laidAll Tryd.prog os Rows.numNextRow.laid) #[.int .u64 0, .int .u64 0] 8 (World.laidAll_os _ _ _)
      (World.shaped_of_ZipB (by kernel_rfl) (by kernel_rfl)) (by kernel_rfl) (by kernel_rfl) (by kernel_rfl)
      (by rw [MakeChecks.laidMetH_plain _ _ _ (by kernel_rfl)]; exact laidMet_laidAll _ (by kernel_rfl) (by kernel_rfl))) ?_
  intro W base args ds gs before hval0 hW _ _ _ _
  have hval : ∀ (j : Nat) t v, Tryd.f9.params[j]? = some t → args[j]? = some v → Value.okWide Tryd.prog W .any base t v := hval0
  have hW' := hW
  obtain ⟨p, q, hA0, hV, rfl, _, _⟩ := hW
  have hA : DataW.TrodAll enc Tryd.prog W 0 (fun _ => true) true Tryd.f9.params.toList args.toList ds p := hA0
  rw [Tryd.params9] at hA hval
  obtain ⟨v0, vs0, d0, ds0, p0, q0, hargs, rfl, rfl, h0, r0⟩ := trodAll_cons hA
  obtain ⟨v1, vs1, d1, ds1, p1, q1, rfl, rfl, rfl, h1, r1⟩ := trodAll_cons r0
  obtain ⟨rfl, rfl, rfl⟩ := trodAll_nil r1
  obtain rfl : args = #[v0, v1] := by cases args; simp_all
  obtain ⟨rfl, rfl⟩ := trodVars_none hV
  obtain ⟨a0, rfl, rfl, rfl, w0⟩ := open_int Tryd.underlying25 (hval 0 25 v0 rfl rfl) h0
  obtain ⟨a1, rfl, rfl, rfl, w1⟩ := open_int Tryd.underlying25 (hval 1 25 v1 rfl rfl) h1
  clear hA0 hval0
  refine (F.vigillaw03_NumNext.walk Pl.law_next a0 a1 W w0 w1).mono fun e W' ⟨he, bel⟩ => ?_
  subst he
  exact ⟨_, rfl, _, _, _, [], _, [], hW', trodAll_mk1 (shut_bool Tryd.underlying4 _), (trodAll_cons_mk (shut_int Tryd.underlying25 w0) (trodAll_cons_mk (shut_int Tryd.underlying25 w1) trodAll_mk0)), rfl, bel.frame _, fun h => by cases h⟩
theorem over : Rows.numNextRow.holds Tryd.pinned (OpenSpec.ofChange Rows.numNextSpec) :=
  OpenClaim.holds_of_wide 9 Tryd.f9 rfl rfl rfl rfl rfl rfl rfl ⟨rfl, rfl, rfl, rfl, rfl⟩ rfl rfl rfl rfl rfl (by kernel_rfl) Tryd.func9 (by kernel_rfl)
    (of_decide_eq_true (by kernel_rfl)) (by unfold Func.isWrapper; first | (rw [if_pos (by decide +kernel)]; kernel_rfl) | (rw [if_neg (by decide +kernel)]; exact ⟨rfl, rfl⟩))
    (fun os started H enc _ => lifted os started H enc)
theorem card_holds : Rows.NumNextCardSaid :=
  Claim7.holds_tied_plain_at .later [] [.data, .pinned] true (true, "a90acdf829413157ef6e6e8aea78a484b42a66cc9924c82fc4fb50f94bff3414") false over (fun _ h => by cases h) (by kernel_rfl) (fun _ h => by cases h) numNext_row_tie rfl ⟨rfl, rfl⟩ (by kernel_rfl) rfl
    (fun f fn hf hfn => by
      obtain rfl : f = 9 := Option.some.inj ((show Tryd.prog.funcNamed "vigil/vigillaw03.NumNext" = some 9 by kernel_rfl).symm.trans hf) |>.symm
      obtain rfl : fn = Tryd.f9 := (Option.some.inj (Tryd.func9.symm.trans hfn)).symm
      exact ⟨by kernel_rfl, fun j t ht => by
        rw [Tryd.params9] at ht
        have hm : t ∈ [25] := by simpa using Array.mem_of_getElem? ht
        have hall : ([25].all fun u => !Tryd.prog.wantsStandIn u) = true := by kernel_rfl
        exact (show Tryd.prog.wantsStandIn t = false by simpa using List.all_eq_true.1 hall t hm)⟩)
    (by kernel_rfl)
#print axioms card_holds
end Go.Proofs.YtjlnfnfdibfniaaDoor.numNext
namespace Go.Proofs.YtjlnfnfdibfniaaDoor
/-- The card, under a short name, for the claim. -/
theorem numNext_card : Rows.NumNextCardSaid := numNext.card_holds
end Go.Proofs.YtjlnfnfdibfniaaDoor

