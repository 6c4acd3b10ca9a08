/- Words and walked functions of the proof (part 3). -/
import Derived.Test.YtjlnfnfdibfniaaDoorCParse2
import Derived.Below
import Derived.Laws.IdiomStrings
import Derived.Outline
namespace Go.Proofs.YtjlnfnfdibfniaaDoor.F
open Go.RowKit Go.Proofs.YtjlnfnfdibfniaaDoorW.PrintWords Go.Proofs.YtjlnfnfdibfniaaDoorW.PrintLast Go.Proofs.YtjlnfnfdibfniaaDoorW.PrintMore
attribute [local go_sem] max2_int min2_int max_two min_two max_three min_three max_four min_four
set_option linter.unusedVariables false
set_option linter.unusedSimpArgs false
mutual
def num_read.j0 : Nat → ByteArray → ByteArray → Int → Option (ByteArray × Int × Bool)
 | 0, _, _, _ => none
 | k + 1, x0, x556000, x556001 => if x556000.toList = ([] : List UInt8) then (some (x556000, x556001, false)) else ((strings_TrimLeft.f k x556000 (⟨#[48]⟩ : ByteArray)).bind fun t563 => (if x0.toList = ([] : List UInt8) then (some (t563, x556001, true)) else (if 0 < (x0.size : Int) then (if (bt x0 0) = 101 then (num_read.j1 k x0 false t563 x556001) else (num_read.j1 k x0 ((bt x0 0) != 69) t563 x556001)) else (none))))
def num_read.j1 : Nat → ByteArray → Bool → ByteArray → Int → Option (ByteArray × Int × Bool)
 | 0, _, _, _, _ => none
 | k + 1, x0, x56, x556000, x556001 => if x56 = true then (some (x556000, x556001, false)) else (if 1 ≤ (x0.size : Int) then ((some (x0.extract 1 x0.size : ByteArray)).bind fun y564 => (if y564.toList = ([] : List UInt8) then (num_read.j2 k y564 1 false x556000 x556001) else (if 0 < (y564.size : Int) then (if (bt y564 0) = 43 then (num_read.j2 k y564 1 true x556000 x556001) else (num_read.j2 k y564 1 ((bt y564 0) == 45) x556000 x556001)) else (none)))) else (none))
def num_read.j2 : Nat → ByteArray → Int → Bool → ByteArray → Int → Option (ByteArray × Int × Bool)
 | 0, _, _, _, _, _ => none
 | k + 1, x0, x6, x71, x556000, x556001 => if x71 = true then (if 0 < (x0.size : Int) then (if (bt x0 0) = 45 then (if 1 ≤ (x0.size : Int) then (num_read.j3 k (x0.extract 1 x0.size) (-1) x556000 x556001) else (none)) else (if 1 ≤ (x0.size : Int) then (num_read.j3 k (x0.extract 1 x0.size) x6 x556000 x556001) else (none))) else (none)) else (num_read.j3 k x0 x6 x556000 x556001)
def num_read.j3 : Nat → ByteArray → Int → ByteArray → Int → Option (ByteArray × Int × Bool)
 | 0, _, _, _, _ => none
 | k + 1, x0, x6, x556000, x556001 => if x0.toList = ([] : List UInt8) then (num_read.j4 k x0 x6 true x556000 x556001) else ((num_run.f k x0).bind fun t567 => (num_read.j4 k x0 x6 (t567 != (x0.size : Int)) x556000 x556001))
def num_read.j4 : Nat → ByteArray → Int → Bool → ByteArray → Int → Option (ByteArray × Int × Bool)
 | 0, _, _, _, _, _ => none
 | k + 1, x0, x6, x85, x556000, x556001 => if x85 = true then (some (x556000, x556001, false)) else (num_read.l0 k x0 x6 0 (x0.size : Int) 0 x556000 x556001)
def num_read.l0 : Nat → ByteArray → Int → Int → Int → Int → ByteArray → Int → Option (ByteArray × Int × Bool)
 | 0, _, _, _, _, _, _, _ => none
 | k + 1, x0, x6, x7, x88, x89, x556000, x556001 => if x89 < x88 then (if 0 ≤ x89 then (if x89 < (x0.size : Int) then (num_read.l0 k x0 x6 (mn (wrap64 ((wrap64 (10 * x7)) + (((bt x0 x89) - 48) % 256))) 100000) x88 (wrap64 (x89 + 1)) x556000 x556001) else (none)) else (none)) else (some (x556000, wrap64 (x556001 + (wrap64 (x6 * x7))), true))
end
def num_read.f (k : Nat) (a0 : ByteArray) : Option (ByteArray × Int × Bool) := (num_run.f k a0).bind fun t553 => (if 0 ≤ t553 then (if t553 ≤ (a0.size : Int) then ((some (a0.extract 0 (t553 : Int).toNat : ByteArray)).bind fun y554 => ((some (a0.extract (t553 : Int).toNat a0.size : ByteArray)).bind fun y556 => ((strings_HasPrefix.f y556 (⟨#[46]⟩ : ByteArray)).bind fun t557 => (if t557 = true then (if 1 ≤ (y556.size : Int) then ((num_run.f k (y556.extract 1 y556.size)).bind fun t559 => (if 1 ≤ (wrap64 (1 + t559)) then (if (wrap64 (1 + t559)) ≤ (y556.size : Int) then ((some (y556.extract 1 ((wrap64 (1 + t559)) : Int).toNat : ByteArray)).bind fun y560 => (if y554.size + y560.size ≤ 9223372036854775807 then (if 0 ≤ (wrap64 (1 + t559)) then (num_read.j0 k (y556.extract ((wrap64 (1 + t559)) : Int).toNat y556.size) (y554 ++ y560) (wrap64 (-t559))) else (none)) else (none))) else (none)) else (none))) else (none)) else (num_read.j0 k y556 y554 0))))) else (none)) else (none))
theorem num_read.mono_l : ∀ k, (∀ y0 y1 y2, LeO (num_read.j0 k y0 y1 y2) (num_read.j0 (k + 1) y0 y1 y2)) ∧ (∀ y0 y1 y2 y3, LeO (num_read.j1 k y0 y1 y2 y3) (num_read.j1 (k + 1) y0 y1 y2 y3)) ∧ (∀ y0 y1 y2 y3 y4, LeO (num_read.j2 k y0 y1 y2 y3 y4) (num_read.j2 (k + 1) y0 y1 y2 y3 y4)) ∧ (∀ y0 y1 y2 y3, LeO (num_read.j3 k y0 y1 y2 y3) (num_read.j3 (k + 1) y0 y1 y2 y3)) ∧ (∀ y0 y1 y2 y3 y4, LeO (num_read.j4 k y0 y1 y2 y3 y4) (num_read.j4 (k + 1) y0 y1 y2 y3 y4)) ∧ (∀ y0 y1 y2 y3 y4 y5 y6, LeO (num_read.l0 k y0 y1 y2 y3 y4 y5 y6) (num_read.l0 (k + 1) y0 y1 y2 y3 y4 y5 y6))
 | 0 => ⟨fun _ _ _ r h => by simp [num_read.j0] at h, fun _ _ _ _ r h => by simp [num_read.j1] at h, fun _ _ _ _ _ r h => by simp [num_read.j2] at h, fun _ _ _ _ r h => by simp [num_read.j3] at h, fun _ _ _ _ _ r h => by simp [num_read.j4] at h, fun _ _ _ _ _ _ _ r h => by simp [num_read.l0] at h⟩
 | k + 1 => by
  obtain ⟨ih0, ih1, ih2, ih3, ih4, ih5⟩ := num_read.mono_l k
  refine ⟨?_, ?_, ?_, ?_, ?_, ?_⟩
  ·
   intro y0 y1 y2
   unfold num_read.j0
   repeat' (with_reducible first | exact ih0 _ _ _ | exact ih1 _ _ _ _ | exact ih2 _ _ _ _ _ | exact ih3 _ _ _ _ | exact ih4 _ _ _ _ _ | exact ih5 _ _ _ _ _ _ _ | exact num_run.mono _ _ | exact strings_TrimLeft.mono _ _ _ | exact LeO.refl _ | exact LeO.none _ | refine LeO.ite ?_ ?_ | refine LeO.bind ?_ (fun _ => ?_))
  ·
   intro y0 y1 y2 y3
   unfold num_read.j1
   repeat' (with_reducible first | exact ih0 _ _ _ | exact ih1 _ _ _ _ | exact ih2 _ _ _ _ _ | exact ih3 _ _ _ _ | exact ih4 _ _ _ _ _ | exact ih5 _ _ _ _ _ _ _ | exact num_run.mono _ _ | exact strings_TrimLeft.mono _ _ _ | exact LeO.refl _ | exact LeO.none _ | refine LeO.ite ?_ ?_ | refine LeO.bind ?_ (fun _ => ?_))
  ·
   intro y0 y1 y2 y3 y4
   unfold num_read.j2
   repeat' (with_reducible first | exact ih0 _ _ _ | exact ih1 _ _ _ _ | exact ih2 _ _ _ _ _ | exact ih3 _ _ _ _ | exact ih4 _ _ _ _ _ | exact ih5 _ _ _ _ _ _ _ | exact num_run.mono _ _ | exact strings_TrimLeft.mono _ _ _ | exact LeO.refl _ | exact LeO.none _ | refine LeO.ite ?_ ?_ | refine LeO.bind ?_ (fun _ => ?_))
  ·
   intro y0 y1 y2 y3
   unfold num_read.j3
   repeat' (with_reducible first | exact ih0 _ _ _ | exact ih1 _ _ _ _ | exact ih2 _ _ _ _ _ | exact ih3 _ _ _ _ | exact ih4 _ _ _ _ _ | exact ih5 _ _ _ _ _ _ _ | exact num_run.mono _ _ | exact strings_TrimLeft.mono _ _ _ | exact LeO.refl _ | exact LeO.none _ | refine LeO.ite ?_ ?_ | refine LeO.bind ?_ (fun _ => ?_))
  ·
   intro y0 y1 y2 y3 y4
   unfold num_read.j4
   repeat' (with_reducible first | exact ih0 _ _ _ | exact ih1 _ _ _ _ | exact ih2 _ _ _ _ _ | exact ih3 _ _ _ _ | exact ih4 _ _ _ _ _ | exact ih5 _ _ _ _ _ _ _ | exact num_run.mono _ _ | exact strings_TrimLeft.mono _ _ _ | exact LeO.refl _ | exact LeO.none _ | refine LeO.ite ?_ ?_ | refine LeO.bind ?_ (fun _ => ?_))
  intro y0 y1 y2 y3 y4 y5 y6
  unfold num_read.l0
  repeat' (with_reducible first | exact ih0 _ _ _ | exact ih1 _ _ _ _ | exact ih2 _ _ _ _ _ | exact ih3 _ _ _ _ | exact ih4 _ _ _ _ _ | exact ih5 _ _ _ _ _ _ _ | exact num_run.mono _ _ | exact strings_TrimLeft.mono _ _ _ | exact LeO.refl _ | exact LeO.none _ | refine LeO.ite ?_ ?_ | refine LeO.bind ?_ (fun _ => ?_))
theorem num_read.mono : ∀ a0 k, LeO (num_read.f k a0) (num_read.f (k + 1) a0) := by
 intro a0 k
 obtain ⟨ih0, ih1, ih2, ih3, ih4, ih5⟩ := num_read.mono_l k
 unfold num_read.f
 repeat' (with_reducible first | exact ih0 _ _ _ | exact ih1 _ _ _ _ | exact ih2 _ _ _ _ _ | exact ih3 _ _ _ _ | exact ih4 _ _ _ _ _ | exact ih5 _ _ _ _ _ _ _ | exact num_run.mono _ _ | exact strings_TrimLeft.mono _ _ _ | exact LeO.refl _ | exact LeO.none _ | refine LeO.ite ?_ ?_ | refine LeO.bind ?_ (fun _ => ?_))
def num_read.T6 : Bool × List (List Nat × List Nat) := (true, [([], []), ([0], [0]), ([], []), ([], []), ([3], [3]), ([2, 4], [2, 4]), ([1, 5], [1, 5]), ([0, 1, 2, 3, 4, 5, 6], []), ([7, 6, 0, 1, 2, 3, 4, 5, 6], [6, 7])])
def num_read.B6 : List Nat := [0, 1, 0, 0, 8, 28, 63, 127, 255]
theorem num_read.tab6 : rtab .any (opsOf Tryd.f66 6) = num_read.T6 := by kernel_rfl
theorem num_read.bits6 : waitsOk num_read.T6.2 num_read.B6 = true := by kernel_rfl
set_option maxHeartbeats 8000000 in
set_option maxRecDepth 100000 in
theorem num_read.calls (k : Nat) (a0 : ByteArray) (r1 : ByteArray) (r2 : Int) (r3 : Bool) (w : World) (h : num_read.f k a0 = some (r1, r2, r3)) :
  Calls Tryd.prog 66 #[.string a0] w fun e w' => e = .returned (.tuple #[.agg #[.string r1, .int .i64 r2], .bool r3]) ∧ Below w.heap.size w w' := by
 have hu79 := Tryd.underlying79
 have HB := Aside0.mk (Below.refl w.heap.size w)
 have H : ((num_run.f k a0).bind fun t553 => (if 0 ≤ t553 then (if t553 ≤ (a0.size : Int) then ((some (a0.extract 0 (t553 : Int).toNat : ByteArray)).bind fun y554 => ((some (a0.extract (t553 : Int).toNat a0.size : ByteArray)).bind fun y556 => ((strings_HasPrefix.f y556 (⟨#[46]⟩ : ByteArray)).bind fun t557 => (if t557 = true then (if 1 ≤ (y556.size : Int) then ((num_run.f k (y556.extract 1 y556.size)).bind fun t559 => (if 1 ≤ (wrap64 (1 + t559)) then (if (wrap64 (1 + t559)) ≤ (y556.size : Int) then ((some (y556.extract 1 ((wrap64 (1 + t559)) : Int).toNat : ByteArray)).bind fun y560 => (if y554.size + y560.size ≤ 9223372036854775807 then (if 0 ≤ (wrap64 (1 + t559)) then (num_read.j0 k (y556.extract ((wrap64 (1 + t559)) : Int).toNat y556.size) (y554 ++ y560) (wrap64 (-t559))) else (none)) else (none))) else (none)) else (none))) else (none)) else (num_read.j0 k y556 y554 0))))) else (none)) else (none))) = some (r1, r2, r3) := h
 clear h
 replace H := Option.bind_eq_some_iff.mp H
 obtain ⟨t553, A20, H⟩ := H
 replace H : (if 0 ≤ t553 then (if t553 ≤ (a0.size : Int) then ((some (a0.extract 0 (t553 : Int).toNat : ByteArray)).bind fun y554 => ((some (a0.extract (t553 : Int).toNat a0.size : ByteArray)).bind fun y556 => ((strings_HasPrefix.f y556 (⟨#[46]⟩ : ByteArray)).bind fun t557 => (if t557 = true then (if 1 ≤ (y556.size : Int) then ((num_run.f k (y556.extract 1 y556.size)).bind fun t559 => (if 1 ≤ (wrap64 (1 + t559)) then (if (wrap64 (1 + t559)) ≤ (y556.size : Int) then ((some (y556.extract 1 ((wrap64 (1 + t559)) : Int).toNat : ByteArray)).bind fun y560 => (if y554.size + y560.size ≤ 9223372036854775807 then (if 0 ≤ (wrap64 (1 + t559)) then (num_read.j0 k (y556.extract ((wrap64 (1 + t559)) : Int).toNat y556.size) (y554 ++ y560) (wrap64 (-t559))) else (none)) else (none))) else (none)) else (none))) else (none)) else (num_read.j0 k y556 y554 0))))) else (none)) else (none)) = some (r1, r2, r3) := H
 have A2 := Aside0.mk A20
 clear A20
 by_cases c3 : 0 ≤ t553
 ·
  rw [if_pos c3] at H
  have c3b0 := eq_true c3
  have c3b1 : decide (0 ≤ t553) = true := decide_eq_true c3
  clear c3
  by_cases c4 : t553 ≤ (a0.size : Int)
  ·
   rw [if_pos c4] at H
   have c4b0 := eq_true c4
   have c4b1 : decide (t553 ≤ (a0.size : Int)) = true := decide_eq_true c4
   clear c4
   obtain ⟨y554, hy554⟩ : ∃ y_ : ByteArray, y_ = (a0.extract 0 (t553 : Int).toNat) := ⟨_, rfl⟩
   replace H : ((some (a0.extract (t553 : Int).toNat a0.size : ByteArray)).bind fun y556 => ((strings_HasPrefix.f y556 (⟨#[46]⟩ : ByteArray)).bind fun t557 => (if t557 = true then (if 1 ≤ (y556.size : Int) then ((num_run.f k (y556.extract 1 y556.size)).bind fun t559 => (if 1 ≤ (wrap64 (1 + t559)) then (if (wrap64 (1 + t559)) ≤ (y556.size : Int) then ((some (y556.extract 1 ((wrap64 (1 + t559)) : Int).toNat : ByteArray)).bind fun y560 => (if y554.size + y560.size ≤ 9223372036854775807 then (if 0 ≤ (wrap64 (1 + t559)) then (num_read.j0 k (y556.extract ((wrap64 (1 + t559)) : Int).toNat y556.size) (y554 ++ y560) (wrap64 (-t559))) else (none)) else (none))) else (none)) else (none))) else (none)) else (num_read.j0 k y556 y554 0)))) = some (r1, r2, r3) := by first | (rw [hy554]; with_reducible exact H) | (rw [hy554]; with_reducible exact (hs H :)) | with_reducible exact (hs H :) | with_reducible exact H | (rw [hy554]; exact H) | exact H
   have Ny554 := Aside0.mk hy554
   clear hy554
   have c5b0 := eq_true (of_decide_eq_true (by first | (with_reducible assumption) | assumption) : 0 ≤ t553)
   have c6b0 := eq_true (of_decide_eq_true (by first | (with_reducible assumption) | assumption) : t553 ≤ (a0.size : Int))
   obtain ⟨y556, hy556⟩ : ∃ y_ : ByteArray, y_ = (a0.extract (t553 : Int).toNat a0.size) := ⟨_, rfl⟩
   replace H : ((strings_HasPrefix.f y556 (⟨#[46]⟩ : ByteArray)).bind fun t557 => (if t557 = true then (if 1 ≤ (y556.size : Int) then ((num_run.f k (y556.extract 1 y556.size)).bind fun t559 => (if 1 ≤ (wrap64 (1 + t559)) then (if (wrap64 (1 + t559)) ≤ (y556.size : Int) then ((some (y556.extract 1 ((wrap64 (1 + t559)) : Int).toNat : ByteArray)).bind fun y560 => (if y554.size + y560.size ≤ 9223372036854775807 then (if 0 ≤ (wrap64 (1 + t559)) then (num_read.j0 k (y556.extract ((wrap64 (1 + t559)) : Int).toNat y556.size) (y554 ++ y560) (wrap64 (-t559))) else (none)) else (none))) else (none)) else (none))) else (none)) else (num_read.j0 k y556 y554 0))) = some (r1, r2, r3) := by first | (rw [hy556]; with_reducible exact H) | (rw [hy556]; with_reducible exact (hs H :)) | with_reducible exact (hs H :) | with_reducible exact H | (rw [hy556]; exact H) | exact H
   have Ny556 := Aside0.mk hy556
   clear hy556
   replace H := Option.bind_eq_some_iff.mp H
   obtain ⟨t557, A70, H⟩ := H
   replace H : (if t557 = true then (if 1 ≤ (y556.size : Int) then ((num_run.f k (y556.extract 1 y556.size)).bind fun t559 => (if 1 ≤ (wrap64 (1 + t559)) then (if (wrap64 (1 + t559)) ≤ (y556.size : Int) then ((some (y556.extract 1 ((wrap64 (1 + t559)) : Int).toNat : ByteArray)).bind fun y560 => (if y554.size + y560.size ≤ 9223372036854775807 then (if 0 ≤ (wrap64 (1 + t559)) then (num_read.j0 k (y556.extract ((wrap64 (1 + t559)) : Int).toNat y556.size) (y554 ++ y560) (wrap64 (-t559))) else (none)) else (none))) else (none)) else (none))) else (none)) else (num_read.j0 k y556 y554 0)) = some (r1, r2, r3) := H
   have A7 := Aside0.mk A70
   clear A70
   have HC8 := Aside0.mk H
   clear H
   go_enter Tryd.func66, Tryd.ntmps66
   go_upto_if 19 with (first | ((with_reducible refine gate_dst (N := 2) rfl ?_); (try (refine gate_guard (by rfl) ?_; dsimp only)); refine box_event ?hg (N := 2) ?hd (cs := #[.string (⟨#[]⟩ : ByteArray), .int .i64 0]) (t := 79) ?hr ?_; (case hd => rfl); (case hg => rfl); (case hr => first | (go_simp; done) | (go_simp; rfl)); intro gb552 hg w9 hbox hb; have BK552 := Aside0.mk (hbox); have GW552 := Aside0.mk ((by rw [hg]; exact (below_size (lk HB)) : w.heap.size ≤ gb552)); have GE552 := Aside0.mk ((by rw [hg]; exact (below_size (lk HB)) : w.heap.size ≤ gb552)); replace HB := lb HB hb; clear hb hbox hg) | ((with_reducible refine gate_callee (f := 76) rfl ?_); refine gL (some 10) Tryd.func76 #[.string a0] ?_; (with_reducible refine (num_run.calls k a0 t553 _ A2.out).mono ?_); rintro e w' ⟨rfl, ⟨nd, rfl⟩⟩; refine ⟨_, rfl, ?_⟩; (try (rw [drewN_self w9]; generalize hq_ : World.drewN w9 _ = w9; have n0_ : Aside0 (w9.heap[gb552]? = some (.cells #[.string (⟨#[]⟩ : ByteArray), .int .i64 0] 79 (0, 0))) := ⟨by rw [← hq_]; exact (bk BK552)⟩; have n1_ : Aside0 (Below w.heap.size w w9) := ⟨by rw [← hq_]; exact (lk HB)⟩; clear BK552 HB hq_; have BK552 := n0_; have HB := n1_; clear n0_ n1_)); have hcs10 := Hd.str_to (P := Tryd.prog) (k := .i64) Tryd.underlying9 (j := t553) (s := a0) (y := y554) (by first | (with_reducible assumption) | exact of_decide_eq_true (by first | (with_reducible assumption) | assumption) | omega) (by first | (with_reducible assumption) | exact of_decide_eq_true (by first | (with_reducible assumption) | assumption) | omega) Ny554.out) | ((with_reducible refine gate_dst (N := 5) rfl ?_); (try (refine gate_guard (by rfl) ?_; dsimp only)); refine box_event ?hg (N := 5) ?hd (cs := #[.string (⟨#[]⟩ : ByteArray), .int .i64 0]) (t := 79) ?hr ?_; (case hd => rfl); (case hg => rfl); (case hr => first | (go_simp; done) | (go_simp; rfl)); intro gb555 hg w11 hbox hb; have BK555 := Aside0.mk (hbox); have GW555 := Aside0.mk ((by rw [hg]; exact (below_size (lk HB)) : w.heap.size ≤ gb555)); have GE555 := Aside0.mk ((by rw [hg]; exact (below_size (lk HB)) : w.heap.size ≤ gb555)); replace HB := lb HB hb; have NB552_555 := Aside0.mk ((by rw [hg]; exact Nat.ne_of_lt (blk_lt (bk BK552)) : gb552 ≠ gb555)); have NB555_552 := Aside0.mk ((by rw [hg]; exact Nat.ne_of_gt (blk_lt (bk BK552)) : gb555 ≠ gb552)); replace BK552 := bb BK552 hb; clear hb hbox hg; have hnb12 := NB555_552.out; have hnc12 := NB552_555.out; have hcz13_0 : w11.cell? ⟨gb555, 0, none⟩ = some (.string (⟨#[]⟩ : ByteArray)) := (blk_cell BK555.out 0).trans rfl; have hcz13_1 : w11.cell? ⟨gb555, 1, none⟩ = some (.int .i64 0) := (blk_cell BK555.out 1).trans rfl; have hfz13_0 := blk_frozen BK555.out 0; have hfz13_1 := blk_frozen BK555.out 1; have hcs14 := Hd.str_from (P := Tryd.prog) (k := .i64) Tryd.underlying9 (i := t553) (s := a0) (y := y556) (by first | (with_reducible assumption) | exact of_decide_eq_true (by first | (with_reducible assumption) | assumption) | omega) (by first | (with_reducible assumption) | exact of_decide_eq_true (by first | (with_reducible assumption) | assumption) | omega) Ny556.out) | ((with_reducible refine gate_callee (f := 96) rfl ?_); refine gL (some 19) Tryd.func96 #[.string y556, .string (⟨#[46]⟩ : ByteArray)] ?_; (with_reducible refine (strings_HasPrefix.calls y556 (⟨#[46]⟩ : ByteArray) t557 _ A7.out).mono ?_); rintro e w' ⟨rfl, ⟨nd, rfl⟩⟩; refine ⟨_, rfl, ?_⟩))
   (try simp only [Act.put, List.setIfInBounds_toArray, List.set_cons_zero, List.set_cons_succ])
   go_cut [0] (fun v0 wc => ∃ (kq : Nat) (x0_7 : ByteArray) (x556000_7 : ByteArray) (x556001_7 : Int), v0 = .string x0_7 ∧ Aside0 (num_read.j0 kq x0_7 x556000_7 x556001_7 = some (r1, r2, r3)) ∧ Aside0 (kq ≤ k) ∧ Aside0 (wc.heap[gb552]? = some (.cells #[.string (⟨#[]⟩ : ByteArray), .int .i64 0] 79 (0, 0))) ∧ Aside0 (wc.heap[gb555]? = some (.cells #[.string x556000_7, .int .i64 x556001_7] 79 (0, 0))) ∧ Aside0 (Below w.heap.size w wc))
   case first =>
    have H := HC8.out
    clear HC8
    by_cases c15 : t557 = true
    ·
     subst c15
     have H1 : (if 1 ≤ (y556.size : Int) then ((num_run.f k (y556.extract 1 y556.size)).bind fun t559 => (if 1 ≤ (wrap64 (1 + t559)) then (if (wrap64 (1 + t559)) ≤ (y556.size : Int) then ((some (y556.extract 1 ((wrap64 (1 + t559)) : Int).toNat : ByteArray)).bind fun y560 => (if y554.size + y560.size ≤ 9223372036854775807 then (if 0 ≤ (wrap64 (1 + t559)) then (num_read.j0 k (y556.extract ((wrap64 (1 + t559)) : Int).toNat y556.size) (y554 ++ y560) (wrap64 (-t559))) else (none)) else (none))) else (none)) else (none))) else (none)) = some (r1, r2, r3) := by rw [if_pos rfl] at H; exact H
     clear H
     have H := H1
     clear H1
     by_cases c16 : 1 ≤ (y556.size : Int)
     ·
      rw [if_pos c16] at H
      have c16b0 := eq_true c16
      have c16b1 : decide (1 ≤ (y556.size : Int)) = true := decide_eq_true c16
      clear c16
      obtain ⟨y558, hy558⟩ : ∃ y_ : ByteArray, y_ = (y556.extract 1 y556.size) := ⟨_, rfl⟩
      replace H : ((num_run.f k y558).bind fun t559 => (if 1 ≤ (wrap64 (1 + t559)) then (if (wrap64 (1 + t559)) ≤ (y556.size : Int) then ((some (y556.extract 1 ((wrap64 (1 + t559)) : Int).toNat : ByteArray)).bind fun y560 => (if y554.size + y560.size ≤ 9223372036854775807 then (if 0 ≤ (wrap64 (1 + t559)) then (num_read.j0 k (y556.extract ((wrap64 (1 + t559)) : Int).toNat y556.size) (y554 ++ y560) (wrap64 (-t559))) else (none)) else (none))) else (none)) else (none))) = some (r1, r2, r3) := by first | (rw [hy558]; with_reducible exact H) | (rw [hy558]; with_reducible exact (hs H :)) | with_reducible exact (hs H :) | with_reducible exact H | (rw [hy558]; exact H) | exact H
      have Ny558 := Aside0.mk hy558
      clear hy558
      replace H := Option.bind_eq_some_iff.mp H
      obtain ⟨t559, A170, H⟩ := H
      replace H : (if 1 ≤ (wrap64 (1 + t559)) then (if (wrap64 (1 + t559)) ≤ (y556.size : Int) then ((some (y556.extract 1 ((wrap64 (1 + t559)) : Int).toNat : ByteArray)).bind fun y560 => (if y554.size + y560.size ≤ 9223372036854775807 then (if 0 ≤ (wrap64 (1 + t559)) then (num_read.j0 k (y556.extract ((wrap64 (1 + t559)) : Int).toNat y556.size) (y554 ++ y560) (wrap64 (-t559))) else (none)) else (none))) else (none)) else (none)) = some (r1, r2, r3) := H
      have A17 := Aside0.mk A170
      clear A170
      by_cases c18 : 1 ≤ (wrap64 (1 + t559))
      ·
       rw [if_pos c18] at H
       have c18b0 := eq_true c18
       have c18b1 : decide (1 ≤ (wrap64 (1 + t559))) = true := decide_eq_true c18
       by_cases c19 : (wrap64 (1 + t559)) ≤ (y556.size : Int)
       ·
        rw [if_pos c19] at H
        have c19b0 := eq_true c19
        have c19b1 : decide ((wrap64 (1 + t559)) ≤ (y556.size : Int)) = true := decide_eq_true c19
        obtain ⟨y560, hy560⟩ : ∃ y_ : ByteArray, y_ = (y556.extract 1 ((wrap64 (1 + t559)) : Int).toNat) := ⟨_, rfl⟩
        replace H : (if y554.size + y560.size ≤ 9223372036854775807 then (if 0 ≤ (wrap64 (1 + t559)) then (num_read.j0 k (y556.extract ((wrap64 (1 + t559)) : Int).toNat y556.size) (y554 ++ y560) (wrap64 (-t559))) else (none)) else (none)) = some (r1, r2, r3) := by first | (rw [hy560]; with_reducible exact H) | (rw [hy560]; with_reducible exact (hs H :)) | with_reducible exact (hs H :) | with_reducible exact H | (rw [hy560]; exact H) | exact H
        have Ny560 := Aside0.mk hy560
        clear hy560
        by_cases c20 : y554.size + y560.size ≤ 9223372036854775807
        ·
         rw [if_pos c20] at H
         have c20b0 := eq_true c20
         have c20b1 : decide (y554.size + y560.size ≤ 9223372036854775807) = true := decide_eq_true c20
         try have c20b2 : (9223372036854775807 < y554.size + y560.size) = False := eq_false (Nat.not_lt.2 c20)
         obtain ⟨y561, hy561⟩ : ∃ y_ : ByteArray, y_ = (y554 ++ y560) := ⟨_, rfl⟩
         replace H : (if 0 ≤ (wrap64 (1 + t559)) then (num_read.j0 k (y556.extract ((wrap64 (1 + t559)) : Int).toNat y556.size) y561 (wrap64 (-t559))) else (none)) = some (r1, r2, r3) := by first | (rw [hy561]; with_reducible exact H) | (rw [hy561]; with_reducible exact (hs H :)) | with_reducible exact (hs H :) | with_reducible exact H | (rw [hy561]; exact H) | exact H
         have Ny561 := Aside0.mk hy561
         clear hy561
         obtain ⟨ji21, hji21⟩ : ∃ j_ : Int, (wrap64 (1 + t559)) = j_ := ⟨_, rfl⟩
         replace H : (if 0 ≤ (ji21) then (num_read.j0 k (y556.extract ((ji21) : Int).toNat y556.size) y561 (wrap64 (-t559))) else (none)) = some (r1, r2, r3) := by first | (rw [hji21] at H; exact H) | (simp only [hji21] at H ⊢; exact H)
         (try rw [hji21] at c18b0)
         (try rw [hji21] at c18b1)
         (try rw [hji21] at c18)
         (try rw [hji21] at c19b0)
         (try rw [hji21] at c19b1)
         (try rw [hji21] at c19)
         (try rw [hji21] at A17)
         (try rw [hji21] at Ny560)
         have hji21w : (IntKind.i64.wrap (1 + t559)) = ji21 := (i64_w _).trans hji21
         by_cases c22 : 0 ≤ (ji21)
         ·
          rw [if_pos c22] at H
          have c22b0 := eq_true c22
          have c22b1 : decide (0 ≤ (ji21)) = true := decide_eq_true c22
          clear c22
          have c23b0 := eq_true (of_decide_eq_true (by first | (with_reducible assumption) | assumption) : (ji21) ≤ (y556.size : Int))
          obtain ⟨y562, hy562⟩ : ∃ y_ : ByteArray, y_ = (y556.extract ((ji21) : Int).toNat y556.size) := ⟨_, rfl⟩
          replace H : (num_read.j0 k y562 y561 (wrap64 (-t559))) = some (r1, r2, r3) := by first | (rw [hy562]; with_reducible exact H) | (rw [hy562]; with_reducible exact (hs H :)) | with_reducible exact (hs H :) | with_reducible exact H | (rw [hy562]; exact H) | exact H
          have Ny562 := Aside0.mk hy562
          clear hy562
          have H' := Aside0.mk H
          clear H
          have hcs24 := Hd.str_from (P := Tryd.prog) (k := .i64) Tryd.underlying9 (i := 1) (s := y556) (y := y558) (by first | (with_reducible assumption) | exact of_decide_eq_true (by first | (with_reducible assumption) | assumption) | omega) (by first | (with_reducible assumption) | exact of_decide_eq_true (by first | (with_reducible assumption) | assumption) | omega) Ny558.out
          try go_wp2_with (first | ((with_reducible refine gate_callee (f := 76) rfl ?_); refine gL (some 22) Tryd.func76 #[.string y558] ?_; (with_reducible refine (num_run.calls k y558 t559 _ A17.out).mono ?_); rintro e w' ⟨rfl, ⟨nd, rfl⟩⟩; refine ⟨_, rfl, ?_⟩))
          (first | refine Hd.letter_ (fun w25 hw => ?_) | refine Hd.letterL_ (fun w25 hw => ?_) | refine Hd.letterE_ (fun w25 hw => ?_))
          have n0_ : Aside0 (w25.heap[gb552]? = some (.cells #[.string (⟨#[]⟩ : ByteArray), .int .i64 0] 79 (0, 0))) := ⟨by rw [hw]; exact (by (with_reducible repeat (first | refine blk_drewN ?_ _ | refine blk_drew ?_ | refine blk_alloc ?_ _)); refine blk_far ?_ NB552_555.out _; (with_reducible repeat (first | refine blk_drewN ?_ _ | refine blk_drew ?_ | refine blk_alloc ?_ _)); refine blk_far ?_ NB552_555.out _; (with_reducible repeat (first | refine blk_drewN ?_ _ | refine blk_drew ?_ | refine blk_alloc ?_ _)); exact BK552.out)⟩
          have n1_ : Aside0 (w25.heap[gb555]? = some (.cells #[.string y554, .int .i64 0] 79 (0, 0))) := ⟨by rw [hw]; exact (by (with_reducible repeat (first | refine blk_drewN ?_ _ | refine blk_drew ?_ | refine blk_alloc ?_ _)); refine blk_put (cs := #[.string y554, .int .i64 0]) ?_ 1 _ rfl; (with_reducible repeat (first | refine blk_drewN ?_ _ | refine blk_drew ?_ | refine blk_alloc ?_ _)); refine blk_put (cs := #[.string (⟨#[]⟩ : ByteArray), .int .i64 0]) ?_ 0 _ rfl; (with_reducible repeat (first | refine blk_drewN ?_ _ | refine blk_drew ?_ | refine blk_alloc ?_ _)); exact BK555.out)⟩
          have n2_ : Aside0 (Below w.heap.size w w25) := ⟨by rw [hw]; exact (lk HB)⟩
          clear hw
          (try clear BK552)
          (try clear BK555)
          (try clear HB)
          have BK552 := n0_
          have BK555 := n1_
          have HB := n2_
          clear n0_ n1_ n2_
          (try (rw [drewN_self w25]; generalize hq_ : World.drewN w25 _ = w25; have n0_ : Aside0 (w25.heap[gb552]? = some (.cells #[.string (⟨#[]⟩ : ByteArray), .int .i64 0] 79 (0, 0))) := ⟨by rw [← hq_]; exact (bk BK552)⟩; have n1_ : Aside0 (w25.heap[gb555]? = some (.cells #[.string y554, .int .i64 0] 79 (0, 0))) := ⟨by rw [← hq_]; exact (bk BK555)⟩; have n2_ : Aside0 (Below w.heap.size w w25) := ⟨by rw [← hq_]; exact (lk HB)⟩; clear BK552 BK555 HB hq_; have BK552 := n0_; have BK555 := n1_; have HB := n2_; clear n0_ n1_ n2_))
          have n0_ := Aside0.mk (blk_drew BK552.out)
          have n1_ := Aside0.mk (blk_drew BK555.out)
          have n2_ := Aside0.mk (below_drew1 HB.out)
          clear BK552
          clear BK555
          clear HB
          have BK552 := n0_
          have BK555 := n1_
          have HB := n2_
          clear n0_ n1_ n2_
          have hcs27 := Hd.str_cut (P := Tryd.prog) (k := .i64) (k' := .i64) Tryd.underlying9 (i := 1) (j := (ji21)) (s := y556) (y := y560) (by first | (with_reducible assumption) | exact of_decide_eq_true (by first | (with_reducible assumption) | assumption) | omega) (by first | (with_reducible assumption) | exact of_decide_eq_true (by first | (with_reducible assumption) | assumption) | omega) (by first | (with_reducible assumption) | exact of_decide_eq_true (by first | (with_reducible assumption) | assumption) | omega) Ny560.out
          have hcs28 := Hd.str_cat (P := Tryd.prog) (s := y554) (t := y560) (y := y561) (by first | (with_reducible assumption) | assumption | exact of_eq_true (by assumption) | omega) Ny561.out
          have hcs28' := Hd.str_cat' (P := Tryd.prog) (s := y554) (t := y560) (y := y561) (by first | (with_reducible assumption) | assumption | exact of_eq_true (by assumption) | omega) Ny561.out
          refine start_ (n := 9) (S := fun w' => w'.cell? ⟨gb555, 0, none⟩ = some (.string y554) ∧ w'.cell? ⟨gb555, 1, none⟩ = some (.int .i64 0)) (ds := [8]) #[false, false, false, false, false, false, false, false, false] (by kernel_rfl) rfl rfl ⟨(blk_cell BK555.out 0).trans rfl, (blk_cell BK555.out 1).trans rfl⟩ (fun hHeld => ?_); refine with_tabW num_read.tab6 num_read.bits6 (fun HT_ HW_ => ?_)
          generalize w25.drew = w26 at BK552 BK555 HB hHeld ⊢
          refine pure_ (i := 0) (N := some 23) (v := ?_) (a' := ?_) #[true, false, false, false, false, false, false, false, false] rfl rfl (any_of HT_.out (by kernel_rfl)) (fun _ _ _ h => h) (Or.inl ⟨by rfl, ?_⟩) ?_ ?_
          rotate_left
          ·
           intro w'
           go_simp
           with_reducible rfl
          rotate_left
          ·
           simp only [Act.put, List.setIfInBounds_toArray, List.set_cons_zero, List.set_cons_succ, i64_w, i32_w]
           rfl
          refine pure_ (i := 2) (N := some 25) (v := ?_) (a' := ?_) #[true, false, true, false, false, false, false, false, false] rfl rfl (any_of HT_.out (by kernel_rfl)) (fun _ _ _ h => h) (Or.inl ⟨by rfl, ?_⟩) ?_ ?_
          rotate_left
          ·
           intro w'
           go_simp
           with_reducible rfl
          rotate_left
          ·
           simp only [Act.put, List.setIfInBounds_toArray, List.set_cons_zero, List.set_cons_succ, i64_w, i32_w]
           rfl
          refine pure_ (i := 3) (N := some 26) (v := ?_) (a' := ?_) #[true, false, true, true, false, false, false, false, false] rfl rfl (any_of HT_.out (by kernel_rfl)) (fun _ _ _ h => h) (Or.inl ⟨by rfl, ?_⟩) ?_ ?_
          rotate_left
          ·
           intro w'
           go_simp
           with_reducible rfl
          rotate_left
          ·
           simp only [Act.put, List.setIfInBounds_toArray, List.set_cons_zero, List.set_cons_succ, i64_w, i32_w]
           rfl
          refine pure_ (i := 4) (N := some 27) (v := ?_) (a' := ?_) #[true, false, true, true, true, false, false, false, false] rfl rfl (any_of HT_.out (by kernel_rfl)) (fun _ _ _ h => h) (Or.inl ⟨by rfl, ?_⟩) ?_ ?_
          rotate_left
          ·
           intro w'
           go_simp
           with_reducible rfl
          rotate_left
          ·
           simp only [Act.put, List.setIfInBounds_toArray, List.set_cons_zero, List.set_cons_succ, i64_w, i32_w]
           rfl
          refine pure_ (i := 5) (N := some 28) (v := ?_) (a' := ?_) #[true, false, true, true, true, true, false, false, false] rfl rfl (any_of HT_.out (by kernel_rfl)) (fun _ _ _ h => h) (Or.inl ⟨by rfl, ?_⟩) ?_ ?_
          rotate_left
          ·
           intro w'
           go_simp
           with_reducible rfl
          rotate_left
          ·
           simp only [Act.put, List.setIfInBounds_toArray, List.set_cons_zero, List.set_cons_succ, i64_w, i32_w]
           rfl
          refine take_ (i := 1) (N := some 24) (v := ?_) (a' := ?_) #[true, true, true, true, true, true, false, false, false] rfl rfl (take_ofW HT_.out HW_.out (by kernel_rfl)) (fun _ _ _ h => h) (Or.inl ⟨by rfl, ?_⟩) hHeld ?_ ?_
          rotate_left
          ·
           rintro w' ⟨s0, s1⟩
           go_simp
           with_reducible rfl
          rotate_left
          ·
           simp only [Act.put, List.setIfInBounds_toArray, List.set_cons_zero, List.set_cons_succ, i64_w, i32_w]
           rfl
          refine pure_ (i := 6) (N := some 29) (v := ?_) (a' := ?_) #[true, true, true, true, true, true, true, false, false] rfl rfl (any_of HT_.out (by kernel_rfl)) (fun _ _ _ h => h) (Or.inl ⟨by rfl, ?_⟩) ?_ ?_
          rotate_left
          ·
           intro w'
           go_simp
           with_reducible rfl
          rotate_left
          ·
           simp only [Act.put, List.setIfInBounds_toArray, List.set_cons_zero, List.set_cons_succ, i64_w, i32_w]
           rfl
          refine pure_ (i := 7) (N := some 30) (v := ?_) (a' := ?_) #[true, true, true, true, true, true, true, true, false] rfl rfl (any_of HT_.out (by kernel_rfl)) (fun _ _ _ h => h) (Or.inl ⟨by rfl, ?_⟩) ?_ ?_
          rotate_left
          ·
           intro w'
           go_simp
           with_reducible rfl
          rotate_left
          ·
           simp only [Act.put, List.setIfInBounds_toArray, List.set_cons_zero, List.set_cons_succ, i64_w, i32_w]
           rfl
          refine last_ (i := 8) (N := none) #[true, true, true, true, true, true, true, true, true] rfl rfl (one_of HT_.out (by kernel_rfl)) (by decide) (fun K hK => ?_)
          have hs29 : w26.cell? ⟨gb555, 0, none⟩ = some (.string y554) := (blk_cell BK555.out 0).trans rfl
          have hfs29 := blk_frozen BK555.out 0
          have hns29_0 := NB552_555.out
          have hms29_0 := NB555_552.out
          refine skip_ (w1 := ?_) (by rfl) rfl ?_ ?_
          rotate_left
          ·
           go_simp
           rfl
          refine hK.out _ _ ?_
          clear hK K
          refine done_ (done_of HT_.out (by kernel_rfl)) ?_
          have hnb30 := NB555_552.out
          have hnc30 := NB552_555.out
          have hcz31_0 : w26.cell? ⟨gb555, 0, none⟩ = some (.string y554) := (blk_cell BK555.out 0).trans rfl
          have hcz31_1 : w26.cell? ⟨gb555, 1, none⟩ = some (.int .i64 0) := (blk_cell BK555.out 1).trans rfl
          have hfz31_0 := blk_frozen BK555.out 0
          have hfz31_1 := blk_frozen BK555.out 1
          have hcs32 := Hd.str_from (P := Tryd.prog) (k := .i64) Tryd.underlying9 (i := (ji21)) (s := y556) (y := y562) (by first | (with_reducible assumption) | exact of_decide_eq_true (by first | (with_reducible assumption) | assumption) | omega) (by first | (with_reducible assumption) | exact of_decide_eq_true (by first | (with_reducible assumption) | assumption) | omega) Ny562.out
          try go_wp2
          go_meet
          case rel => exact ⟨_, (y562), (y561), (wrap64 (-t559)), (by first | rfl | (simp; done) | (simp [*]; done)), H', ⟨by first | omega | exact Nat.le_refl _⟩, ⟨by (with_reducible repeat (first | refine blk_drewN ?_ _ | refine blk_drew ?_ | refine blk_alloc ?_ _)); refine blk_far ?_ NB552_555.out _; (with_reducible repeat (first | refine blk_drewN ?_ _ | refine blk_drew ?_ | refine blk_alloc ?_ _)); refine blk_far ?_ NB552_555.out _; (with_reducible repeat (first | refine blk_drewN ?_ _ | refine blk_drew ?_ | refine blk_alloc ?_ _)); exact BK552.out⟩, ⟨by (with_reducible repeat (first | refine blk_drewN ?_ _ | refine blk_drew ?_ | refine blk_alloc ?_ _)); refine blk_put (cs := #[.string y561, .int .i64 0]) ?_ 1 _ rfl; (with_reducible repeat (first | refine blk_drewN ?_ _ | refine blk_drew ?_ | refine blk_alloc ?_ _)); refine blk_put (cs := #[.string y554, .int .i64 0]) ?_ 0 _ rfl; (with_reducible repeat (first | refine blk_drewN ?_ _ | refine blk_drew ?_ | refine blk_alloc ?_ _)); exact BK555.out⟩, ⟨lk HB⟩⟩
         rw [if_neg c22] at H
         exact absurd H (by simp)
        rw [if_neg c20] at H
        exact absurd H (by simp)
       rw [if_neg c19] at H
       exact absurd H (by simp)
      rw [if_neg c18] at H
      exact absurd H (by simp)
     rw [if_neg c16] at H
     exact absurd H (by simp)
    replace c15 := Bool.eq_false_iff.mpr c15
    subst c15
    have H1 : (num_read.j0 k y556 y554 0) = some (r1, r2, r3) := by rw [if_neg (show ¬ (false = true) by decide)] at H; exact H
    clear H
    have H := H1
    clear H1
    have H' := Aside0.mk H
    clear H
    go_wp2
    go_meet
    case rel => exact ⟨_, (y556), (y554), (0), (by first | rfl | (simp; done) | (simp [*]; done)), H', ⟨by first | omega | exact Nat.le_refl _⟩, ⟨by (with_reducible repeat (first | refine blk_drewN ?_ _ | refine blk_drew ?_ | refine blk_alloc ?_ _)); refine blk_far ?_ NB552_555.out _; (with_reducible repeat (first | refine blk_drewN ?_ _ | refine blk_drew ?_ | refine blk_alloc ?_ _)); refine blk_far ?_ NB552_555.out _; (with_reducible repeat (first | refine blk_drewN ?_ _ | refine blk_drew ?_ | refine blk_alloc ?_ _)); exact BK552.out⟩, ⟨by (with_reducible repeat (first | refine blk_drewN ?_ _ | refine blk_drew ?_ | refine blk_alloc ?_ _)); refine blk_put (cs := #[.string y554, .int .i64 0]) ?_ 1 _ rfl; (with_reducible repeat (first | refine blk_drewN ?_ _ | refine blk_drew ?_ | refine blk_alloc ?_ _)); refine blk_put (cs := #[.string (⟨#[]⟩ : ByteArray), .int .i64 0]) ?_ 0 _ rfl; (with_reducible repeat (first | refine blk_drewN ?_ _ | refine blk_drew ?_ | refine blk_alloc ?_ _)); exact BK555.out⟩, ⟨lk HB⟩⟩
   case rest =>
    clear HC8
    try clear c1
    try clear c2
    try clear p2
    try clear c3
    try clear c3b0
    try clear c3b1
    try clear c4
    try clear c4b0
    try clear c4b1
    try clear c5
    try clear c5b0
    try clear c6
    try clear c6b0
    try clear p6
    try clear c7
    try clear c9
    try clear c12
    try clear c15
    try clear c16
    try clear c16b0
    try clear c16b1
    try clear c18
    try clear c18b0
    try clear c18b1
    try clear c19
    try clear c19b0
    try clear c19b1
    try clear c20
    try clear c20b0
    try clear c20b1
    try clear c20b2
    try clear c22
    try clear c22b0
    try clear c22b1
    try clear c23
    try clear c23b0
    try clear c30
    try clear hcz13_0
    try clear hcz13_1
    try clear hcz31_0
    try clear hcz31_1
    try clear hfz13_0
    try clear hfz13_1
    try clear hfz31_0
    try clear hfz31_1
    obtain ⟨kq, x0_7, x556000_7, x556001_7, rfl, HA, HJ7, BK552, BK555, HB⟩ := hcut
    cases kq with
    | zero => exact absurd HA.out (by simp [num_read.j0])
    | succ kj7 =>
     have H := HA.out
     clear HA
     simp only [num_read.j0] at H
     by_cases c33 : x556000_7.toList = ([] : List UInt8)
     ·
      rw [if_pos c33] at H
      have c33b0 : (x556000_7.toList == ([] : List UInt8)) = true := beq_iff_eq.mpr c33
      have c33b1 : (x556000_7.toList != ([] : List UInt8)) = false := bne_eq_false_iff_eq.mpr c33
      clear c33
      simp only [Option.some.injEq, Prod.mk.injEq] at H
      obtain ⟨rfl, rfl, rfl⟩ := H
      have hnb34 := NB555_552.out
      have hnc34 := NB552_555.out
      have hcz35_0 : wc.cell? ⟨gb555, 0, none⟩ = some (.string x556000_7) := (blk_cell BK555.out 0).trans rfl
      have hcz35_1 : wc.cell? ⟨gb555, 1, none⟩ = some (.int .i64 x556001_7) := (blk_cell BK555.out 1).trans rfl
      have hfz35_0 := blk_frozen BK555.out 0
      have hfz35_1 := blk_frozen BK555.out 1
      have hcz36_0 : wc.cell? ⟨gb552, 0, none⟩ = some (.string (⟨#[]⟩ : ByteArray)) := (blk_cell BK552.out 0).trans rfl
      have hcz36_1 : wc.cell? ⟨gb552, 1, none⟩ = some (.int .i64 0) := (blk_cell BK552.out 1).trans rfl
      have hfz36_0 := blk_frozen BK552.out 0
      have hfz36_1 := blk_frozen BK552.out 1
      go_wp2
      refine bodyPost_ret (results_ct rfl _ _ gb552 79 #[.string x556000_7, .int .i64 x556001_7] (0, 0) _ rfl (by (with_reducible repeat (first | refine blk_drewN ?_ _ | refine blk_drew ?_ | refine blk_alloc ?_ _)); refine blk_put (cs := #[.string x556000_7, .int .i64 0]) ?_ 1 _ rfl; (with_reducible repeat (first | refine blk_drewN ?_ _ | refine blk_drew ?_ | refine blk_alloc ?_ _)); refine blk_put (cs := #[.string (⟨#[]⟩ : ByteArray), .int .i64 0]) ?_ 0 _ rfl; (with_reducible repeat (first | refine blk_drewN ?_ _ | refine blk_drew ?_ | refine blk_alloc ?_ _)); exact BK552.out) Tryd.underlying79 rfl (by kernel_rfl)) rfl ?_
      exact ex (lk HB)
     rw [if_neg c33] at H
     have c33b0 : (x556000_7.toList == ([] : List UInt8)) = false := beq_eq_false_iff_ne.mpr c33
     have c33b1 : (x556000_7.toList != ([] : List UInt8)) = true := bne_iff_ne.mpr c33
     replace H := Option.bind_eq_some_iff.mp H
     obtain ⟨t563, A370, H⟩ := H
     replace H : (if x0_7.toList = ([] : List UInt8) then (some (t563, x556001_7, true)) else (if 0 < (x0_7.size : Int) then (if (bt x0_7 0) = 101 then (num_read.j1 kj7 x0_7 false t563 x556001_7) else (num_read.j1 kj7 x0_7 ((bt x0_7 0) != 69) t563 x556001_7)) else (none))) = some (r1, r2, r3) := H
     have A37 := Aside0.mk A370
     clear A370
     by_cases c38 : x0_7.toList = ([] : List UInt8)
     ·
      rw [if_pos c38] at H
      have c38b0 : (x0_7.toList == ([] : List UInt8)) = true := beq_iff_eq.mpr c38
      have c38b1 : (x0_7.toList != ([] : List UInt8)) = false := bne_eq_false_iff_eq.mpr c38
      clear c38
      simp only [Option.some.injEq, Prod.mk.injEq] at H
      obtain ⟨rfl, rfl, rfl⟩ := H
      have hnb39 := NB555_552.out
      have hnc39 := NB552_555.out
      have hcz40_0 : wc.cell? ⟨gb555, 0, none⟩ = some (.string x556000_7) := (blk_cell BK555.out 0).trans rfl
      have hcz40_1 : wc.cell? ⟨gb555, 1, none⟩ = some (.int .i64 x556001_7) := (blk_cell BK555.out 1).trans rfl
      have hfz40_0 := blk_frozen BK555.out 0
      have hfz40_1 := blk_frozen BK555.out 1
      go_wp2_with (first | ((with_reducible refine gate_callee (f := 101) rfl ?_); refine gL (some 44) Tryd.func101 #[.string x556000_7, .string (⟨#[48]⟩ : ByteArray)] ?_; (with_reducible refine (strings_TrimLeft.calls kj7 x556000_7 (⟨#[48]⟩ : ByteArray) t563 _ A37.out).mono ?_); rintro e w41 ⟨rfl, hb⟩; refine ⟨_, rfl, ?_⟩; replace BK552 := bb BK552 hb; replace BK555 := bb BK555 hb; replace HB := lb HB hb; (try clear hb); (try clear hb2); (try clear hk); (try clear hi); have hcz42_0 : w41.cell? ⟨gb555, 0, none⟩ = some (.string x556000_7) := (blk_cell BK555.out 0).trans rfl; have hcz42_1 : w41.cell? ⟨gb555, 1, none⟩ = some (.int .i64 x556001_7) := (blk_cell BK555.out 1).trans rfl; have hfz42_0 := blk_frozen BK555.out 0; have hfz42_1 := blk_frozen BK555.out 1; have hcz43_0 : w41.cell? ⟨gb552, 0, none⟩ = some (.string (⟨#[]⟩ : ByteArray)) := (blk_cell BK552.out 0).trans rfl; have hcz43_1 : w41.cell? ⟨gb552, 1, none⟩ = some (.int .i64 0) := (blk_cell BK552.out 1).trans rfl; have hfz43_0 := blk_frozen BK552.out 0; have hfz43_1 := blk_frozen BK552.out 1))
      refine bodyPost_ret (results_ct rfl _ _ gb552 79 #[.string t563, .int .i64 x556001_7] (0, 0) _ rfl (by (with_reducible repeat (first | refine blk_drewN ?_ _ | refine blk_drew ?_ | refine blk_alloc ?_ _)); refine blk_put (cs := #[.string t563, .int .i64 0]) ?_ 1 _ rfl; (with_reducible repeat (first | refine blk_drewN ?_ _ | refine blk_drew ?_ | refine blk_alloc ?_ _)); refine blk_put (cs := #[.string (⟨#[]⟩ : ByteArray), .int .i64 0]) ?_ 0 _ rfl; (with_reducible repeat (first | refine blk_drewN ?_ _ | refine blk_drew ?_ | refine blk_alloc ?_ _)); refine blk_far ?_ NB552_555.out _; (with_reducible repeat (first | refine blk_drewN ?_ _ | refine blk_drew ?_ | refine blk_alloc ?_ _)); exact BK552.out) Tryd.underlying79 rfl (by kernel_rfl)) rfl ?_
      exact ex (lk HB)
     rw [if_neg c38] at H
     have c38b0 : (x0_7.toList == ([] : List UInt8)) = false := beq_eq_false_iff_ne.mpr c38
     have c38b1 : (x0_7.toList != ([] : List UInt8)) = true := bne_iff_ne.mpr c38
     have HC44 := Aside0.mk H
     clear H
     have hnb45 := NB555_552.out
     have hnc45 := NB552_555.out
     have hcz46_0 : wc.cell? ⟨gb555, 0, none⟩ = some (.string x556000_7) := (blk_cell BK555.out 0).trans rfl
     have hcz46_1 : wc.cell? ⟨gb555, 1, none⟩ = some (.int .i64 x556001_7) := (blk_cell BK555.out 1).trans rfl
     have hfz46_0 := blk_frozen BK555.out 0
     have hfz46_1 := blk_frozen BK555.out 1
     go_upto_region 14 with (first | ((with_reducible refine gate_callee (f := 101) rfl ?_); refine gL (some 44) Tryd.func101 #[.string x556000_7, .string (⟨#[48]⟩ : ByteArray)] ?_; (with_reducible refine (strings_TrimLeft.calls kj7 x556000_7 (⟨#[48]⟩ : ByteArray) t563 _ A37.out).mono ?_); rintro e w47 ⟨rfl, hb⟩; refine ⟨_, rfl, ?_⟩; replace BK552 := bb BK552 hb; replace BK555 := bb BK555 hb; replace HB := lb HB hb; (try clear hb); (try clear hb2); (try clear hk); (try clear hi); have hcz48_0 : w47.cell? ⟨gb555, 0, none⟩ = some (.string x556000_7) := (blk_cell BK555.out 0).trans rfl; have hcz48_1 : w47.cell? ⟨gb555, 1, none⟩ = some (.int .i64 x556001_7) := (blk_cell BK555.out 1).trans rfl; have hfz48_0 := blk_frozen BK555.out 0; have hfz48_1 := blk_frozen BK555.out 1))
     (try simp only [Act.put, List.setIfInBounds_toArray, List.set_cons_zero, List.set_cons_succ])
     go_cut [56] (fun v56 wc => ∃ (kq : Nat) (x56_43 : Bool), v56 = .bool x56_43 ∧ Aside0 (num_read.j1 kq x0_7 x56_43 t563 x556001_7 = some (r1, r2, r3)) ∧ Aside0 (kq ≤ kj7) ∧ Aside0 (wc.heap[gb552]? = some (.cells #[.string (⟨#[]⟩ : ByteArray), .int .i64 0] 79 (0, 0))) ∧ Aside0 (wc.heap[gb555]? = some (.cells #[.string t563, .int .i64 x556001_7] 79 (0, 0))) ∧ Aside0 (Below w.heap.size w wc))
     case first =>
      have H := HC44.out
      clear HC44
      by_cases c49 : 0 < (x0_7.size : Int)
      ·
       rw [if_pos c49] at H
       have c49b0 : decide (0 < (x0_7.size : Int)) = true := decide_eq_true c49
       have c49b1 : decide (0 < x0_7.size) = true := decide_eq_true (by omega)
       clear c49
       (first | rw [c49b0] | (simp only [i64_w, i32_w]; rw [c49b0]) | skip)
       by_cases c51 : (bt x0_7 0) = 101
       ·
        rw [if_pos c51] at H
        have c51b0 : ((bt x0_7 0) == 101) = true := beq_iff_eq.mpr c51
        have c51b1 : ((bt x0_7 0) != 101) = false := bne_eq_false_iff_eq.mpr c51
        clear c51
        have H' := Aside0.mk H
        clear H
        have p50 : 0 ≤ (0 : Int) := (by omega)
        have q50 : 0 < x0_7.size := (by have : (0 : Int) < (x0_7.size : Int) := of_decide_eq_true (by first | (with_reducible assumption) | assumption); omega)
        have hx50 : ∀ h : 0 < x0_7.size, ((x0_7[0]'h).toNat : Int) = bt x0_7 0 := bt_at x0_7 0
        clear p50
        have qi50 : (0 < (x0_7.size : Int)) = True := eq_true (of_decide_eq_true (by first | (with_reducible assumption) | assumption))
        replace q50 := eq_true q50
        go_wp2
        go_meet
        case rel => exact ⟨_, (false), (by first | rfl | (simp; done) | (simp [*]; done)), H', ⟨by have := HJ7.out; first | omega | exact Nat.le_refl _⟩, ⟨by (with_reducible repeat (first | refine blk_drewN ?_ _ | refine blk_drew ?_ | refine blk_alloc ?_ _)); refine blk_far ?_ NB552_555.out _; (with_reducible repeat (first | refine blk_drewN ?_ _ | refine blk_drew ?_ | refine blk_alloc ?_ _)); exact BK552.out⟩, ⟨by (with_reducible repeat (first | refine blk_drewN ?_ _ | refine blk_drew ?_ | refine blk_alloc ?_ _)); refine blk_put (cs := #[.string x556000_7, .int .i64 x556001_7]) ?_ 0 _ rfl; (with_reducible repeat (first | refine blk_drewN ?_ _ | refine blk_drew ?_ | refine blk_alloc ?_ _)); exact BK555.out⟩, ⟨lk HB⟩⟩
       rw [if_neg c51] at H
       have c51b0 : ((bt x0_7 0) == 101) = false := beq_eq_false_iff_ne.mpr c51
       have c51b1 : ((bt x0_7 0) != 101) = true := bne_iff_ne.mpr c51
       have H' := Aside0.mk H
       clear H
       have p50 : 0 ≤ (0 : Int) := (by omega)
       have q50 : 0 < x0_7.size := (by have : (0 : Int) < (x0_7.size : Int) := of_decide_eq_true (by first | (with_reducible assumption) | assumption); omega)
       have hx50 : ∀ h : 0 < x0_7.size, ((x0_7[0]'h).toNat : Int) = bt x0_7 0 := bt_at x0_7 0
       clear p50
       have qi50 : (0 < (x0_7.size : Int)) = True := eq_true (of_decide_eq_true (by first | (with_reducible assumption) | assumption))
       replace q50 := eq_true q50
       have p52 : 0 ≤ (0 : Int) := (by omega)
       have q52 : 0 < x0_7.size := (by have : (0 : Int) < (x0_7.size : Int) := of_decide_eq_true (by first | (with_reducible assumption) | assumption); omega)
       have hx52 : ∀ h : 0 < x0_7.size, ((x0_7[0]'h).toNat : Int) = bt x0_7 0 := bt_at x0_7 0
       clear p52
       have qi52 : (0 < (x0_7.size : Int)) = True := eq_true (of_decide_eq_true (by first | (with_reducible assumption) | assumption))
       replace q52 := eq_true q52
       go_wp2
       go_meet
       case rel => exact ⟨_, (((bt x0_7 0) != 69)), (by first | rfl | (simp; done) | (simp [*]; done)), H', ⟨by have := HJ7.out; first | omega | exact Nat.le_refl _⟩, ⟨by (with_reducible repeat (first | refine blk_drewN ?_ _ | refine blk_drew ?_ | refine blk_alloc ?_ _)); refine blk_far ?_ NB552_555.out _; (with_reducible repeat (first | refine blk_drewN ?_ _ | refine blk_drew ?_ | refine blk_alloc ?_ _)); exact BK552.out⟩, ⟨by (with_reducible repeat (first | refine blk_drewN ?_ _ | refine blk_drew ?_ | refine blk_alloc ?_ _)); refine blk_put (cs := #[.string x556000_7, .int .i64 x556001_7]) ?_ 0 _ rfl; (with_reducible repeat (first | refine blk_drewN ?_ _ | refine blk_drew ?_ | refine blk_alloc ?_ _)); exact BK555.out⟩, ⟨lk HB⟩⟩
      rw [if_neg c49] at H
      exact absurd H (by simp)
     case rest =>
      clear HC44
      try clear c1
      try clear c2
      try clear p2
      try clear c3
      try clear c3b0
      try clear c3b1
      try clear c4
      try clear c4b0
      try clear c4b1
      try clear c5
      try clear c5b0
      try clear p5
      try clear q5
      try clear hx5
      try clear qi5
      try clear c6
      try clear c6b0
      try clear p6
      try clear c7
      try clear c9
      try clear c10
      try clear c12
      try clear c15
      try clear c16
      try clear c16b0
      try clear c16b1
      try clear c18
      try clear c18b0
      try clear c18b1
      try clear c19
      try clear c19b0
      try clear c19b1
      try clear c20
      try clear c20b0
      try clear c20b1
      try clear c20b2
      try clear c22
      try clear c22b0
      try clear c22b1
      try clear c23
      try clear c23b0
      try clear c30
      try clear c33
      try clear c33b0
      try clear c33b1
      try clear c34
      try clear c38
      try clear c38b0
      try clear c38b1
      try clear c39
      try clear c45
      try clear c49
      try clear c49b0
      try clear c49b1
      try clear p50
      try clear q50
      try clear hx50
      try clear qi50
      try clear c51
      try clear c51b0
      try clear c51b1
      try clear p52
      try clear q52
      try clear hx52
      try clear qi52
      try clear hcz13_0
      try clear hcz13_1
      try clear hcz31_0
      try clear hcz31_1
      try clear hcz35_0
      try clear hcz35_1
      try clear hcz36_0
      try clear hcz36_1
      try clear hcz40_0
      try clear hcz40_1
      try clear hcz42_0
      try clear hcz42_1
      try clear hcz43_0
      try clear hcz43_1
      try clear hcz46_0
      try clear hcz46_1
      try clear hcz48_0
      try clear hcz48_1
      try clear hfz13_0
      try clear hfz13_1
      try clear hfz31_0
      try clear hfz31_1
      try clear hfz35_0
      try clear hfz35_1
      try clear hfz36_0
      try clear hfz36_1
      try clear hfz40_0
      try clear hfz40_1
      try clear hfz42_0
      try clear hfz42_1
      try clear hfz43_0
      try clear hfz43_1
      try clear hfz46_0
      try clear hfz46_1
      try clear hfz48_0
      try clear hfz48_1
      try clear p2
      try clear p50
      try clear p52
      try clear p6
      try clear q50
      try clear q52
      obtain ⟨kq, x56_43, rfl, HA, HJ43, BK552, BK555, HB⟩ := hcut
      cases kq with
      | zero => exact absurd HA.out (by simp [num_read.j1])
      | succ kj43 =>
       have H := HA.out
       clear HA
       simp only [num_read.j1] at H
       by_cases c53 : x56_43 = true
       ·
        subst c53
        have H1 : (some (t563, x556001_7, false)) = some (r1, r2, r3) := by rw [if_pos rfl] at H; exact H
        clear H
        have H := H1
        clear H1
        simp only [Option.some.injEq, Prod.mk.injEq] at H
        obtain ⟨rfl, rfl, rfl⟩ := H
        have hnb54 := NB555_552.out
        have hnc54 := NB552_555.out
        have hcz55_0 : wc.cell? ⟨gb555, 0, none⟩ = some (.string t563) := (blk_cell BK555.out 0).trans rfl
        have hcz55_1 : wc.cell? ⟨gb555, 1, none⟩ = some (.int .i64 x556001_7) := (blk_cell BK555.out 1).trans rfl
        have hfz55_0 := blk_frozen BK555.out 0
        have hfz55_1 := blk_frozen BK555.out 1
        have hcz56_0 : wc.cell? ⟨gb552, 0, none⟩ = some (.string (⟨#[]⟩ : ByteArray)) := (blk_cell BK552.out 0).trans rfl
        have hcz56_1 : wc.cell? ⟨gb552, 1, none⟩ = some (.int .i64 0) := (blk_cell BK552.out 1).trans rfl
        have hfz56_0 := blk_frozen BK552.out 0
        have hfz56_1 := blk_frozen BK552.out 1
        go_wp2
        refine bodyPost_ret (results_ct rfl _ _ gb552 79 #[.string t563, .int .i64 x556001_7] (0, 0) _ rfl (by (with_reducible repeat (first | refine blk_drewN ?_ _ | refine blk_drew ?_ | refine blk_alloc ?_ _)); refine blk_put (cs := #[.string t563, .int .i64 0]) ?_ 1 _ rfl; (with_reducible repeat (first | refine blk_drewN ?_ _ | refine blk_drew ?_ | refine blk_alloc ?_ _)); refine blk_put (cs := #[.string (⟨#[]⟩ : ByteArray), .int .i64 0]) ?_ 0 _ rfl; (with_reducible repeat (first | refine blk_drewN ?_ _ | refine blk_drew ?_ | refine blk_alloc ?_ _)); exact BK552.out) Tryd.underlying79 rfl (by kernel_rfl)) rfl ?_
        exact ex (lk HB)
       replace c53 := Bool.eq_false_iff.mpr c53
       subst c53
       have H1 : (if 1 ≤ (x0_7.size : Int) then ((some (x0_7.extract 1 x0_7.size : ByteArray)).bind fun y564 => (if y564.toList = ([] : List UInt8) then (num_read.j2 kj43 y564 1 false t563 x556001_7) else (if 0 < (y564.size : Int) then (if (bt y564 0) = 43 then (num_read.j2 kj43 y564 1 true t563 x556001_7) else (num_read.j2 kj43 y564 1 ((bt y564 0) == 45) t563 x556001_7)) else (none)))) else (none)) = some (r1, r2, r3) := by rw [if_neg (show ¬ (false = true) by decide)] at H; exact H
       clear H
       have H := H1
       clear H1
       by_cases c57 : 1 ≤ (x0_7.size : Int)
       ·
        rw [if_pos c57] at H
        have c57b0 := eq_true c57
        have c57b1 : decide (1 ≤ (x0_7.size : Int)) = true := decide_eq_true c57
        clear c57
        obtain ⟨y564, hy564⟩ : ∃ y_ : ByteArray, y_ = (x0_7.extract 1 x0_7.size) := ⟨_, rfl⟩
        replace H : (if y564.toList = ([] : List UInt8) then (num_read.j2 kj43 y564 1 false t563 x556001_7) else (if 0 < (y564.size : Int) then (if (bt y564 0) = 43 then (num_read.j2 kj43 y564 1 true t563 x556001_7) else (num_read.j2 kj43 y564 1 ((bt y564 0) == 45) t563 x556001_7)) else (none))) = some (r1, r2, r3) := by first | (rw [hy564]; with_reducible exact H) | (rw [hy564]; with_reducible exact (hs H :)) | with_reducible exact (hs H :) | with_reducible exact H | (rw [hy564]; exact H) | exact H
        have Ny564 := Aside0.mk hy564
        clear hy564
        have HC58 := Aside0.mk H
        clear H
        have hcs59 := Hd.str_from (P := Tryd.prog) (k := .i64) Tryd.underlying9 (i := 1) (s := x0_7) (y := y564) (by first | (with_reducible assumption) | exact of_decide_eq_true (by first | (with_reducible assumption) | assumption) | omega) (by first | (with_reducible assumption) | exact of_decide_eq_true (by first | (with_reducible assumption) | assumption) | omega) Ny564.out
        go_upto_region 18 with (fail)
        go_cut [71] (fun v71 wc => ∃ (kq : Nat) (x71_57 : Bool), v71 = .bool x71_57 ∧ Aside0 (num_read.j2 kq y564 1 x71_57 t563 x556001_7 = some (r1, r2, r3)) ∧ Aside0 (kq ≤ kj43) ∧ Aside0 (wc.heap[gb552]? = some (.cells #[.string (⟨#[]⟩ : ByteArray), .int .i64 0] 79 (0, 0))) ∧ Aside0 (wc.heap[gb555]? = some (.cells #[.string t563, .int .i64 x556001_7] 79 (0, 0))) ∧ Aside0 (Below w.heap.size w wc))
        case first =>
         have H := HC58.out
         clear HC58
         by_cases c60 : y564.toList = ([] : List UInt8)
         ·
          rw [if_pos c60] at H
          have c60b0 : (y564.toList == ([] : List UInt8)) = true := beq_iff_eq.mpr c60
          have c60b1 : (y564.toList != ([] : List UInt8)) = false := bne_eq_false_iff_eq.mpr c60
          clear c60
          (first | rw [c60b0] | (simp only [i64_w, i32_w]; rw [c60b0]) | skip)
          have H' := Aside0.mk H
          clear H
          go_wp2
          go_meet
          case rel => exact ⟨_, (false), (by first | rfl | (simp; done) | (simp [*]; done)), H', ⟨by have := HJ7.out; have := HJ43.out; first | omega | exact Nat.le_refl _⟩, ⟨bk BK552⟩, ⟨bk BK555⟩, ⟨lk HB⟩⟩
         rw [if_neg c60] at H
         have c60b0 : (y564.toList == ([] : List UInt8)) = false := beq_eq_false_iff_ne.mpr c60
         have c60b1 : (y564.toList != ([] : List UInt8)) = true := bne_iff_ne.mpr c60
         (first | rw [c60b0] | (simp only [i64_w, i32_w]; rw [c60b0]) | skip)
         by_cases c61 : 0 < (y564.size : Int)
         ·
          rw [if_pos c61] at H
          have c61b0 : decide (0 < (y564.size : Int)) = true := decide_eq_true c61
          have c61b1 : decide (0 < y564.size) = true := decide_eq_true (by omega)
          clear c61
          by_cases c63 : (bt y564 0) = 43
          ·
           rw [if_pos c63] at H
           have c63b0 : ((bt y564 0) == 43) = true := beq_iff_eq.mpr c63
           have c63b1 : ((bt y564 0) != 43) = false := bne_eq_false_iff_eq.mpr c63
           clear c63
           have H' := Aside0.mk H
           clear H
           have p62 : 0 ≤ (0 : Int) := (by omega)
           have q62 : 0 < y564.size := (by have : (0 : Int) < (y564.size : Int) := of_decide_eq_true (by first | (with_reducible assumption) | assumption); omega)
           have hx62 : ∀ h : 0 < y564.size, ((y564[0]'h).toNat : Int) = bt y564 0 := bt_at y564 0
           clear p62
           have qi62 : (0 < (y564.size : Int)) = True := eq_true (of_decide_eq_true (by first | (with_reducible assumption) | assumption))
           replace q62 := eq_true q62
           go_wp2
           go_meet
           case rel => exact ⟨_, (true), (by first | rfl | (simp; done) | (simp [*]; done)), H', ⟨by have := HJ7.out; have := HJ43.out; first | omega | exact Nat.le_refl _⟩, ⟨bk BK552⟩, ⟨bk BK555⟩, ⟨lk HB⟩⟩
          rw [if_neg c63] at H
          have c63b0 : ((bt y564 0) == 43) = false := beq_eq_false_iff_ne.mpr c63
          have c63b1 : ((bt y564 0) != 43) = true := bne_iff_ne.mpr c63
          have H' := Aside0.mk H
          clear H
          have p62 : 0 ≤ (0 : Int) := (by omega)
          have q62 : 0 < y564.size := (by have : (0 : Int) < (y564.size : Int) := of_decide_eq_true (by first | (with_reducible assumption) | assumption); omega)
          have hx62 : ∀ h : 0 < y564.size, ((y564[0]'h).toNat : Int) = bt y564 0 := bt_at y564 0
          clear p62
          have qi62 : (0 < (y564.size : Int)) = True := eq_true (of_decide_eq_true (by first | (with_reducible assumption) | assumption))
          replace q62 := eq_true q62
          have p64 : 0 ≤ (0 : Int) := (by omega)
          have q64 : 0 < y564.size := (by have : (0 : Int) < (y564.size : Int) := of_decide_eq_true (by first | (with_reducible assumption) | assumption); omega)
          have hx64 : ∀ h : 0 < y564.size, ((y564[0]'h).toNat : Int) = bt y564 0 := bt_at y564 0
          clear p64
          have qi64 : (0 < (y564.size : Int)) = True := eq_true (of_decide_eq_true (by first | (with_reducible assumption) | assumption))
          replace q64 := eq_true q64
          go_wp2
          go_meet
          case rel => exact ⟨_, (((bt y564 0) == 45)), (by first | rfl | (simp; done) | (simp [*]; done)), H', ⟨by have := HJ7.out; have := HJ43.out; first | omega | exact Nat.le_refl _⟩, ⟨bk BK552⟩, ⟨bk BK555⟩, ⟨lk HB⟩⟩
         rw [if_neg c61] at H
         exact absurd H (by simp)
        case rest =>
         clear HC58
         try clear c1
         try clear c2
         try clear p2
         try clear c3
         try clear c3b0
         try clear c3b1
         try clear c4
         try clear c4b0
         try clear c4b1
         try clear c5
         try clear c5b0
         try clear p5
         try clear q5
         try clear hx5
         try clear qi5
         try clear c6
         try clear c6b0
         try clear p6
         try clear q6
         try clear hx6
         try clear qi6
         try clear c7
         try clear c9
         try clear c10
         try clear c12
         try clear c15
         try clear c16
         try clear c16b0
         try clear c16b1
         try clear c18
         try clear c18b0
         try clear c18b1
         try clear c19
         try clear c19b0
         try clear c19b1
         try clear c20
         try clear c20b0
         try clear c20b1
         try clear c20b2
         try clear c22
         try clear c22b0
         try clear c22b1
         try clear c23
         try clear c23b0
         try clear c30
         try clear c33
         try clear c33b0
         try clear c33b1
         try clear c34
         try clear c38
         try clear c38b0
         try clear c38b1
         try clear c39
         try clear c45
         try clear c49
         try clear c49b0
         try clear c49b1
         try clear p50
         try clear q50
         try clear hx50
         try clear qi50
         try clear c51
         try clear c51b0
         try clear c51b1
         try clear p52
         try clear q52
         try clear hx52
         try clear qi52
         try clear c53
         try clear c54
         try clear c57
         try clear c57b0
         try clear c57b1
         try clear c60
         try clear c60b0
         try clear c60b1
         try clear c61
         try clear c61b0
         try clear c61b1
         try clear p62
         try clear q62
         try clear hx62
         try clear qi62
         try clear c63
         try clear c63b0
         try clear c63b1
         try clear p64
         try clear q64
         try clear hx64
         try clear qi64
         try clear hcz13_0
         try clear hcz13_1
         try clear hcz31_0
         try clear hcz31_1
         try clear hcz35_0
         try clear hcz35_1
         try clear hcz36_0
         try clear hcz36_1
         try clear hcz40_0
         try clear hcz40_1
         try clear hcz42_0
         try clear hcz42_1
         try clear hcz43_0
         try clear hcz43_1
         try clear hcz46_0
         try clear hcz46_1
         try clear hcz48_0
         try clear hcz48_1
         try clear hcz55_0
         try clear hcz55_1
         try clear hcz56_0
         try clear hcz56_1
         try clear hfz13_0
         try clear hfz13_1
         try clear hfz31_0
         try clear hfz31_1
         try clear hfz35_0
         try clear hfz35_1
         try clear hfz36_0
         try clear hfz36_1
         try clear hfz40_0
         try clear hfz40_1
         try clear hfz42_0
         try clear hfz42_1
         try clear hfz43_0
         try clear hfz43_1
         try clear hfz46_0
         try clear hfz46_1
         try clear hfz48_0
         try clear hfz48_1
         try clear hfz55_0
         try clear hfz55_1
         try clear hfz56_0
         try clear hfz56_1
         try clear p2
         try clear p5
         try clear p50
         try clear p52
         try clear p6
         try clear p62
         try clear p64
         try clear q5
         try clear q50
         try clear q52
         try clear q62
         try clear q64
         obtain ⟨kq, x71_57, rfl, HA, HJ57, BK552, BK555, HB⟩ := hcut
         cases kq with
         | zero => exact absurd HA.out (by simp [num_read.j2])
         | succ kj57 =>
          have H := HA.out
          clear HA
          simp only [num_read.j2] at H
          have HC65 := Aside0.mk H
          clear H
          go_upto_if 71 with (fail)
          go_cut [0, 6] (fun v0 v6 wc => ∃ (kq : Nat) (x0_64 : ByteArray) (x6_64 : Int), v0 = .string x0_64 ∧ v6 = .int .i64 x6_64 ∧ Aside0 (num_read.j3 kq x0_64 x6_64 t563 x556001_7 = some (r1, r2, r3)) ∧ Aside0 (kq ≤ kj57) ∧ Aside0 (wc.heap[gb552]? = some (.cells #[.string (⟨#[]⟩ : ByteArray), .int .i64 0] 79 (0, 0))) ∧ Aside0 (wc.heap[gb555]? = some (.cells #[.string t563, .int .i64 x556001_7] 79 (0, 0))) ∧ Aside0 (Below w.heap.size w wc))
          case first =>
           have H := HC65.out
           clear HC65
           by_cases c66 : x71_57 = true
           ·
            subst c66
            have H1 : (if 0 < (y564.size : Int) then (if (bt y564 0) = 45 then (if 1 ≤ (y564.size : Int) then (num_read.j3 kj57 (y564.extract 1 y564.size) (-1) t563 x556001_7) else (none)) else (if 1 ≤ (y564.size : Int) then (num_read.j3 kj57 (y564.extract 1 y564.size) 1 t563 x556001_7) else (none))) else (none)) = some (r1, r2, r3) := by rw [if_pos rfl] at H; exact H
            clear H
            have H := H1
            clear H1
            by_cases c67 : 0 < (y564.size : Int)
            ·
             rw [if_pos c67] at H
             have c67b0 : decide (0 < (y564.size : Int)) = true := decide_eq_true c67
             have c67b1 : decide (0 < y564.size) = true := decide_eq_true (by omega)
             clear c67
             (first | rw [c67b0] | (simp only [i64_w, i32_w]; rw [c67b0]) | skip)
             by_cases c69 : (bt y564 0) = 45
             ·
              rw [if_pos c69] at H
              have c69b0 : ((bt y564 0) == 45) = true := beq_iff_eq.mpr c69
              have c69b1 : ((bt y564 0) != 45) = false := bne_eq_false_iff_eq.mpr c69
              clear c69
              by_cases c70 : 1 ≤ (y564.size : Int)
              ·
               rw [if_pos c70] at H
               have c70b0 := eq_true c70
               have c70b1 : decide (1 ≤ (y564.size : Int)) = true := decide_eq_true c70
               clear c70
               obtain ⟨y565, hy565⟩ : ∃ y_ : ByteArray, y_ = (y564.extract 1 y564.size) := ⟨_, rfl⟩
               replace H : (num_read.j3 kj57 y565 (-1) t563 x556001_7) = some (r1, r2, r3) := by first | (rw [hy565]; with_reducible exact H) | (rw [hy565]; with_reducible exact (hs H :)) | with_reducible exact (hs H :) | with_reducible exact H | (rw [hy565]; exact H) | exact H
               have Ny565 := Aside0.mk hy565
               clear hy565
               have H' := Aside0.mk H
               clear H
               have p68 : 0 ≤ (0 : Int) := (by omega)
               have q68 : 0 < y564.size := (by have : (0 : Int) < (y564.size : Int) := of_decide_eq_true (by first | (with_reducible assumption) | assumption); omega)
               have hx68 : ∀ h : 0 < y564.size, ((y564[0]'h).toNat : Int) = bt y564 0 := bt_at y564 0
               clear p68
               have qi68 : (0 < (y564.size : Int)) = True := eq_true (of_decide_eq_true (by first | (with_reducible assumption) | assumption))
               replace q68 := eq_true q68
               have hcs71 := Hd.str_from (P := Tryd.prog) (k := .i64) Tryd.underlying9 (i := 1) (s := y564) (y := y565) (by first | (with_reducible assumption) | exact of_decide_eq_true (by first | (with_reducible assumption) | assumption) | omega) (by first | (with_reducible assumption) | exact of_decide_eq_true (by first | (with_reducible assumption) | assumption) | omega) Ny565.out
               go_wp2
               go_meet
               case rel => exact ⟨_, (y565), ((-1)), (by first | rfl | (simp; done) | (simp [*]; done)), (by first | rfl | (simp; done) | (simp [*]; done)), H', ⟨by have := HJ7.out; have := HJ43.out; have := HJ57.out; first | omega | exact Nat.le_refl _⟩, ⟨bk BK552⟩, ⟨bk BK555⟩, ⟨lk HB⟩⟩
              rw [if_neg c70] at H
              exact absurd H (by simp)
             rw [if_neg c69] at H
             have c69b0 : ((bt y564 0) == 45) = false := beq_eq_false_iff_ne.mpr c69
             have c69b1 : ((bt y564 0) != 45) = true := bne_iff_ne.mpr c69
             by_cases c72 : 1 ≤ (y564.size : Int)
             ·
              rw [if_pos c72] at H
              have c72b0 := eq_true c72
              have c72b1 : decide (1 ≤ (y564.size : Int)) = true := decide_eq_true c72
              clear c72
              obtain ⟨y566, hy566⟩ : ∃ y_ : ByteArray, y_ = (y564.extract 1 y564.size) := ⟨_, rfl⟩
              replace H : (num_read.j3 kj57 y566 1 t563 x556001_7) = some (r1, r2, r3) := by first | (rw [hy566]; with_reducible exact H) | (rw [hy566]; with_reducible exact (hs H :)) | with_reducible exact (hs H :) | with_reducible exact H | (rw [hy566]; exact H) | exact H
              have Ny566 := Aside0.mk hy566
              clear hy566
              have H' := Aside0.mk H
              clear H
              have p68 : 0 ≤ (0 : Int) := (by omega)
              have q68 : 0 < y564.size := (by have : (0 : Int) < (y564.size : Int) := of_decide_eq_true (by first | (with_reducible assumption) | assumption); omega)
              have hx68 : ∀ h : 0 < y564.size, ((y564[0]'h).toNat : Int) = bt y564 0 := bt_at y564 0
              clear p68
              have qi68 : (0 < (y564.size : Int)) = True := eq_true (of_decide_eq_true (by first | (with_reducible assumption) | assumption))
              replace q68 := eq_true q68
              have hcs73 := Hd.str_from (P := Tryd.prog) (k := .i64) Tryd.underlying9 (i := 1) (s := y564) (y := y566) (by first | (with_reducible assumption) | exact of_decide_eq_true (by first | (with_reducible assumption) | assumption) | omega) (by first | (with_reducible assumption) | exact of_decide_eq_true (by first | (with_reducible assumption) | assumption) | omega) Ny566.out
              go_wp2
              go_meet
              case rel => exact ⟨_, (y566), (1), (by first | rfl | (simp; done) | (simp [*]; done)), (by first | rfl | (simp; done) | (simp [*]; done)), H', ⟨by have := HJ7.out; have := HJ43.out; have := HJ57.out; first | omega | exact Nat.le_refl _⟩, ⟨bk BK552⟩, ⟨bk BK555⟩, ⟨lk HB⟩⟩
             rw [if_neg c72] at H
             exact absurd H (by simp)
            rw [if_neg c67] at H
            exact absurd H (by simp)
           replace c66 := Bool.eq_false_iff.mpr c66
           subst c66
           have H1 : (num_read.j3 kj57 y564 1 t563 x556001_7) = some (r1, r2, r3) := by rw [if_neg (show ¬ (false = true) by decide)] at H; exact H
           clear H
           have H := H1
           clear H1
           have H' := Aside0.mk H
           clear H
           go_wp2
           go_meet
           case rel => exact ⟨_, (y564), (1), (by first | rfl | (simp; done) | (simp [*]; done)), (by first | rfl | (simp; done) | (simp [*]; done)), H', ⟨by have := HJ7.out; have := HJ43.out; have := HJ57.out; first | omega | exact Nat.le_refl _⟩, ⟨bk BK552⟩, ⟨bk BK555⟩, ⟨lk HB⟩⟩
          case rest =>
           clear HC65
           try clear c1
           try clear c2
           try clear p2
           try clear c3
           try clear c3b0
           try clear c3b1
           try clear c4
           try clear c4b0
           try clear c4b1
           try clear c5
           try clear c5b0
           try clear p5
           try clear q5
           try clear hx5
           try clear qi5
           try clear c6
           try clear c6b0
           try clear p6
           try clear q6
           try clear hx6
           try clear qi6
           try clear c7
           try clear c9
           try clear c10
           try clear c12
           try clear c15
           try clear c16
           try clear c16b0
           try clear c16b1
           try clear c18
           try clear c18b0
           try clear c18b1
           try clear c19
           try clear c19b0
           try clear c19b1
           try clear c20
           try clear c20b0
           try clear c20b1
           try clear c20b2
           try clear c22
           try clear c22b0
           try clear c22b1
           try clear c23
           try clear c23b0
           try clear c30
           try clear c33
           try clear c33b0
           try clear c33b1
           try clear c34
           try clear c38
           try clear c38b0
           try clear c38b1
           try clear c39
           try clear c45
           try clear c49
           try clear c49b0
           try clear c49b1
           try clear p50
           try clear q50
           try clear hx50
           try clear qi50
           try clear c51
           try clear c51b0
           try clear c51b1
           try clear p52
           try clear q52
           try clear hx52
           try clear qi52
           try clear c53
           try clear c54
           try clear c57
           try clear c57b0
           try clear c57b1
           try clear c60
           try clear c60b0
           try clear c60b1
           try clear c61
           try clear c61b0
           try clear c61b1
           try clear p62
           try clear q62
           try clear hx62
           try clear qi62
           try clear c63
           try clear c63b0
           try clear c63b1
           try clear p64
           try clear q64
           try clear hx64
           try clear qi64
           try clear c66
           try clear c67
           try clear c67b0
           try clear c67b1
           try clear p68
           try clear q68
           try clear hx68
           try clear qi68
           try clear c69
           try clear c69b0
           try clear c69b1
           try clear c70
           try clear c70b0
           try clear c70b1
           try clear c72
           try clear c72b0
           try clear c72b1
           try clear hcz13_0
           try clear hcz13_1
           try clear hcz31_0
           try clear hcz31_1
           try clear hcz35_0
           try clear hcz35_1
           try clear hcz36_0
           try clear hcz36_1
           try clear hcz40_0
           try clear hcz40_1
           try clear hcz42_0
           try clear hcz42_1
           try clear hcz43_0
           try clear hcz43_1
           try clear hcz46_0
           try clear hcz46_1
           try clear hcz48_0
           try clear hcz48_1
           try clear hcz55_0
           try clear hcz55_1
           try clear hcz56_0
           try clear hcz56_1
           try clear hfz13_0
           try clear hfz13_1
           try clear hfz31_0
           try clear hfz31_1
           try clear hfz35_0
           try clear hfz35_1
           try clear hfz36_0
           try clear hfz36_1
           try clear hfz40_0
           try clear hfz40_1
           try clear hfz42_0
           try clear hfz42_1
           try clear hfz43_0
           try clear hfz43_1
           try clear hfz46_0
           try clear hfz46_1
           try clear hfz48_0
           try clear hfz48_1
           try clear hfz55_0
           try clear hfz55_1
           try clear hfz56_0
           try clear hfz56_1
           try clear p2
           try clear p5
           try clear p50
           try clear p52
           try clear p6
           try clear p62
           try clear p64
           try clear p68
           try clear q5
           try clear q50
           try clear q52
           try clear q6
           try clear q62
           try clear q64
           try clear q68
           obtain ⟨kq, x0_64, x6_64, rfl, rfl, HA, HJ64, BK552, BK555, HB⟩ := hcut
           cases kq with
           | zero => exact absurd HA.out (by simp [num_read.j3])
           | succ kj64 =>
            have H := HA.out
            clear HA
            simp only [num_read.j3] at H
            have HC74 := Aside0.mk H
            clear H
            go_upto_region 22 with (fail)
            go_cut [85] (fun v85 wc => ∃ (kq : Nat) (x85_73 : Bool), v85 = .bool x85_73 ∧ Aside0 (num_read.j4 kq x0_64 x6_64 x85_73 t563 x556001_7 = some (r1, r2, r3)) ∧ Aside0 (kq ≤ kj64) ∧ Aside0 (wc.heap[gb552]? = some (.cells #[.string (⟨#[]⟩ : ByteArray), .int .i64 0] 79 (0, 0))) ∧ Aside0 (wc.heap[gb555]? = some (.cells #[.string t563, .int .i64 x556001_7] 79 (0, 0))) ∧ Aside0 (Below w.heap.size w wc))
            case first =>
             have H := HC74.out
             clear HC74
             by_cases c75 : x0_64.toList = ([] : List UInt8)
             ·
              rw [if_pos c75] at H
              have c75b0 : (x0_64.toList == ([] : List UInt8)) = true := beq_iff_eq.mpr c75
              have c75b1 : (x0_64.toList != ([] : List UInt8)) = false := bne_eq_false_iff_eq.mpr c75
              clear c75
              (first | rw [c75b0] | (simp only [i64_w, i32_w]; rw [c75b0]) | skip)
              have H' := Aside0.mk H
              clear H
              go_wp2
              go_meet
              case rel => exact ⟨_, (true), (by first | rfl | (simp; done) | (simp [*]; done)), H', ⟨by have := HJ7.out; have := HJ43.out; have := HJ57.out; have := HJ64.out; first | omega | exact Nat.le_refl _⟩, ⟨bk BK552⟩, ⟨bk BK555⟩, ⟨lk HB⟩⟩
             rw [if_neg c75] at H
             have c75b0 : (x0_64.toList == ([] : List UInt8)) = false := beq_eq_false_iff_ne.mpr c75
             have c75b1 : (x0_64.toList != ([] : List UInt8)) = true := bne_iff_ne.mpr c75
             (first | rw [c75b0] | (simp only [i64_w, i32_w]; rw [c75b0]) | skip)
             replace H := Option.bind_eq_some_iff.mp H
             obtain ⟨t567, A760, H⟩ := H
             replace H : (num_read.j4 kj64 x0_64 x6_64 (t567 != (x0_64.size : Int)) t563 x556001_7) = some (r1, r2, r3) := H
             have A76 := Aside0.mk A760
             clear A760
             have H' := Aside0.mk H
             clear H
             go_wp2_with (first | (go_at_call 76; (with_reducible refine (num_run.calls kj64 x0_64 t567 _ A76.out).mono ?_); rintro e w' ⟨rfl, ⟨nd, rfl⟩⟩))
             go_meet
             case rel => exact ⟨_, ((t567 != (x0_64.size : Int))), (by first | rfl | (simp; done) | (simp [*]; done)), H', ⟨by have := HJ7.out; have := HJ43.out; have := HJ57.out; have := HJ64.out; first | omega | exact Nat.le_refl _⟩, ⟨bk BK552⟩, ⟨bk BK555⟩, ⟨lk HB⟩⟩
            case rest =>
             clear HC74
             try clear c1
             try clear c2
             try clear p2
             try clear c3
             try clear c3b0
             try clear c3b1
             try clear c4
             try clear c4b0
             try clear c4b1
             try clear c5
             try clear c5b0
             try clear p5
             try clear q5
             try clear hx5
             try clear qi5
             try clear c6
             try clear c6b0
             try clear p6
             try clear q6
             try clear hx6
             try clear qi6
             try clear c7
             try clear c9
             try clear c10
             try clear c12
             try clear c15
             try clear c16
             try clear c16b0
             try clear c16b1
             try clear c18
             try clear c18b0
             try clear c18b1
             try clear c19
             try clear c19b0
             try clear c19b1
             try clear c20
             try clear c20b0
             try clear c20b1
             try clear c20b2
             try clear c22
             try clear c22b0
             try clear c22b1
             try clear c23
             try clear c23b0
             try clear c30
             try clear c33
             try clear c33b0
             try clear c33b1
             try clear c34
             try clear c38
             try clear c38b0
             try clear c38b1
             try clear c39
             try clear c45
             try clear c49
             try clear c49b0
             try clear c49b1
             try clear p50
             try clear q50
             try clear hx50
             try clear qi50
             try clear c51
             try clear c51b0
             try clear c51b1
             try clear p52
             try clear q52
             try clear hx52
             try clear qi52
             try clear c53
             try clear c54
             try clear c57
             try clear c57b0
             try clear c57b1
             try clear c60
             try clear c60b0
             try clear c60b1
             try clear c61
             try clear c61b0
             try clear c61b1
             try clear p62
             try clear q62
             try clear hx62
             try clear qi62
             try clear c63
             try clear c63b0
             try clear c63b1
             try clear p64
             try clear q64
             try clear hx64
             try clear qi64
             try clear c66
             try clear c67
             try clear c67b0
             try clear c67b1
             try clear p68
             try clear q68
             try clear hx68
             try clear qi68
             try clear c69
             try clear c69b0
             try clear c69b1
             try clear c70
             try clear c70b0
             try clear c70b1
             try clear c72
             try clear c72b0
             try clear c72b1
             try clear c75
             try clear c75b0
             try clear c75b1
             try clear hcz13_0
             try clear hcz13_1
             try clear hcz31_0
             try clear hcz31_1
             try clear hcz35_0
             try clear hcz35_1
             try clear hcz36_0
             try clear hcz36_1
             try clear hcz40_0
             try clear hcz40_1
             try clear hcz42_0
             try clear hcz42_1
             try clear hcz43_0
             try clear hcz43_1
             try clear hcz46_0
             try clear hcz46_1
             try clear hcz48_0
             try clear hcz48_1
             try clear hcz55_0
             try clear hcz55_1
             try clear hcz56_0
             try clear hcz56_1
             try clear hfz13_0
             try clear hfz13_1
             try clear hfz31_0
             try clear hfz31_1
             try clear hfz35_0
             try clear hfz35_1
             try clear hfz36_0
             try clear hfz36_1
             try clear hfz40_0
             try clear hfz40_1
             try clear hfz42_0
             try clear hfz42_1
             try clear hfz43_0
             try clear hfz43_1
             try clear hfz46_0
             try clear hfz46_1
             try clear hfz48_0
             try clear hfz48_1
             try clear hfz55_0
             try clear hfz55_1
             try clear hfz56_0
             try clear hfz56_1
             try clear p2
             try clear p5
             try clear p50
             try clear p52
             try clear p6
             try clear p62
             try clear p64
             try clear p68
             try clear q5
             try clear q50
             try clear q52
             try clear q6
             try clear q62
             try clear q64
             try clear q68
             obtain ⟨kq, x85_73, rfl, HA, HJ73, BK552, BK555, HB⟩ := hcut
             cases kq with
             | zero => exact absurd HA.out (by simp [num_read.j4])
             | succ kj73 =>
              have H := HA.out
              clear HA
              simp only [num_read.j4] at H
              by_cases c77 : x85_73 = true
              ·
               subst c77
               have H1 : (some (t563, x556001_7, false)) = some (r1, r2, r3) := by rw [if_pos rfl] at H; exact H
               clear H
               have H := H1
               clear H1
               simp only [Option.some.injEq, Prod.mk.injEq] at H
               obtain ⟨rfl, rfl, rfl⟩ := H
               have hnb78 := NB555_552.out
               have hnc78 := NB552_555.out
               have hcz79_0 : wc.cell? ⟨gb555, 0, none⟩ = some (.string t563) := (blk_cell BK555.out 0).trans rfl
               have hcz79_1 : wc.cell? ⟨gb555, 1, none⟩ = some (.int .i64 x556001_7) := (blk_cell BK555.out 1).trans rfl
               have hfz79_0 := blk_frozen BK555.out 0
               have hfz79_1 := blk_frozen BK555.out 1
               have hcz80_0 : wc.cell? ⟨gb552, 0, none⟩ = some (.string (⟨#[]⟩ : ByteArray)) := (blk_cell BK552.out 0).trans rfl
               have hcz80_1 : wc.cell? ⟨gb552, 1, none⟩ = some (.int .i64 0) := (blk_cell BK552.out 1).trans rfl
               have hfz80_0 := blk_frozen BK552.out 0
               have hfz80_1 := blk_frozen BK552.out 1
               go_wp2
               refine bodyPost_ret (results_ct rfl _ _ gb552 79 #[.string t563, .int .i64 x556001_7] (0, 0) _ rfl (by (with_reducible repeat (first | refine blk_drewN ?_ _ | refine blk_drew ?_ | refine blk_alloc ?_ _)); refine blk_put (cs := #[.string t563, .int .i64 0]) ?_ 1 _ rfl; (with_reducible repeat (first | refine blk_drewN ?_ _ | refine blk_drew ?_ | refine blk_alloc ?_ _)); refine blk_put (cs := #[.string (⟨#[]⟩ : ByteArray), .int .i64 0]) ?_ 0 _ rfl; (with_reducible repeat (first | refine blk_drewN ?_ _ | refine blk_drew ?_ | refine blk_alloc ?_ _)); exact BK552.out) Tryd.underlying79 rfl (by kernel_rfl)) rfl ?_
               exact ex (lk HB)
              replace c77 := Bool.eq_false_iff.mpr c77
              subst c77
              have H1 : (num_read.l0 kj73 x0_64 x6_64 0 (x0_64.size : Int) 0 t563 x556001_7) = some (r1, r2, r3) := by rw [if_neg (show ¬ (false = true) by decide)] at H; exact H
              clear H
              have H := H1
              clear H1
              have H' := Aside0.mk H
              clear H
              go_wp2
              go_loopg [7, 89] kj73 (fun kq v7 v89 w' => ∃ (x7_6 : Int) (x89_6 : Int), v7 = .int .i64 x7_6 ∧ v89 = .int .i64 x89_6 ∧ Aside0 (num_read.l0 kq x0_64 x6_64 x7_6 (x0_64.size : Int) x89_6 t563 x556001_7 = some (r1, r2, r3)) ∧ Aside0 (kq ≤ kj73) ∧ Aside0 (w'.heap[gb552]? = some (.cells #[.string (⟨#[]⟩ : ByteArray), .int .i64 0] 79 (0, 0))) ∧ Aside0 (w'.heap[gb555]? = some (.cells #[.string t563, .int .i64 x556001_7] 79 (0, 0))) ∧ Aside0 (Below w.heap.size w w'))
              case atStart => exact ⟨(0), (0), (by first | rfl | (simp; done) | (simp [*]; done)), (by first | rfl | (simp; done) | (simp [*]; done)), H', ⟨Nat.le_refl _⟩, ⟨bk BK552⟩, ⟨bk BK555⟩, ⟨lk HB⟩⟩
              case round =>
               clear H'
               try clear c1
               try clear c2
               try clear p2
               try clear c3
               try clear c3b0
               try clear c3b1
               try clear c4
               try clear c4b0
               try clear c4b1
               try clear c5
               try clear c5b0
               try clear p5
               try clear q5
               try clear hx5
               try clear qi5
               try clear c6
               try clear c6b0
               try clear p6
               try clear q6
               try clear hx6
               try clear qi6
               try clear c7
               try clear c9
               try clear c10
               try clear c12
               try clear c15
               try clear c16
               try clear c16b0
               try clear c16b1
               try clear c18
               try clear c18b0
               try clear c18b1
               try clear c19
               try clear c19b0
               try clear c19b1
               try clear c20
               try clear c20b0
               try clear c20b1
               try clear c20b2
               try clear c22
               try clear c22b0
               try clear c22b1
               try clear c23
               try clear c23b0
               try clear c30
               try clear c33
               try clear c33b0
               try clear c33b1
               try clear c34
               try clear c38
               try clear c38b0
               try clear c38b1
               try clear c39
               try clear c45
               try clear c49
               try clear c49b0
               try clear c49b1
               try clear p50
               try clear q50
               try clear hx50
               try clear qi50
               try clear c51
               try clear c51b0
               try clear c51b1
               try clear p52
               try clear q52
               try clear hx52
               try clear qi52
               try clear c53
               try clear c54
               try clear c57
               try clear c57b0
               try clear c57b1
               try clear c60
               try clear c60b0
               try clear c60b1
               try clear c61
               try clear c61b0
               try clear c61b1
               try clear p62
               try clear q62
               try clear hx62
               try clear qi62
               try clear c63
               try clear c63b0
               try clear c63b1
               try clear p64
               try clear q64
               try clear hx64
               try clear qi64
               try clear c66
               try clear c67
               try clear c67b0
               try clear c67b1
               try clear p68
               try clear q68
               try clear hx68
               try clear qi68
               try clear c69
               try clear c69b0
               try clear c69b1
               try clear c70
               try clear c70b0
               try clear c70b1
               try clear c72
               try clear c72b0
               try clear c72b1
               try clear c75
               try clear c75b0
               try clear c75b1
               try clear c77
               try clear c78
               try clear hcz13_0
               try clear hcz13_1
               try clear hcz31_0
               try clear hcz31_1
               try clear hcz35_0
               try clear hcz35_1
               try clear hcz36_0
               try clear hcz36_1
               try clear hcz40_0
               try clear hcz40_1
               try clear hcz42_0
               try clear hcz42_1
               try clear hcz43_0
               try clear hcz43_1
               try clear hcz46_0
               try clear hcz46_1
               try clear hcz48_0
               try clear hcz48_1
               try clear hcz55_0
               try clear hcz55_1
               try clear hcz56_0
               try clear hcz56_1
               try clear hcz79_0
               try clear hcz79_1
               try clear hcz80_0
               try clear hcz80_1
               try clear hfz13_0
               try clear hfz13_1
               try clear hfz31_0
               try clear hfz31_1
               try clear hfz35_0
               try clear hfz35_1
               try clear hfz36_0
               try clear hfz36_1
               try clear hfz40_0
               try clear hfz40_1
               try clear hfz42_0
               try clear hfz42_1
               try clear hfz43_0
               try clear hfz43_1
               try clear hfz46_0
               try clear hfz46_1
               try clear hfz48_0
               try clear hfz48_1
               try clear hfz55_0
               try clear hfz55_1
               try clear hfz56_0
               try clear hfz56_1
               try clear hfz79_0
               try clear hfz79_1
               try clear hfz80_0
               try clear hfz80_1
               try clear p2
               try clear p5
               try clear p50
               try clear p52
               try clear p6
               try clear p62
               try clear p64
               try clear p68
               try clear q5
               try clear q50
               try clear q52
               try clear q6
               try clear q62
               try clear q64
               try clear q68
               obtain ⟨x7_6, x89_6, rfl, rfl, HA, HK6, BK552, BK555, HB⟩ := hrel
               cases gk with
               | zero => exact absurd HA.out (by simp [num_read.l0])
               | succ k6 =>
                have H := HA.out
                clear HA
                simp only [num_read.l0] at H
                by_cases c81 : x89_6 < (x0_64.size : Int)
                ·
                 rw [if_pos c81] at H
                 have c81b0 : decide (x89_6 < (x0_64.size : Int)) = true := decide_eq_true c81
                 clear c81
                 by_cases c82 : 0 ≤ x89_6
                 ·
                  rw [if_pos c82] at H
                  have c82b0 : decide (0 ≤ x89_6) = true := decide_eq_true c82
                  clear c82
                  by_cases c83 : x89_6 < (x0_64.size : Int)
                  ·
                   rw [if_pos c83] at H
                   have c83b0 : decide (x89_6 < (x0_64.size : Int)) = true := decide_eq_true c83
                   clear c83
                   obtain ⟨ji85, hji85⟩ : ∃ j_ : Int, (mn (wrap64 ((wrap64 (10 * x7_6)) + (((bt x0_64 x89_6) - 48) % 256))) 100000) = j_ := ⟨_, rfl⟩
                   replace H : (num_read.l0 k6 x0_64 x6_64 ji85 (x0_64.size : Int) (wrap64 (x89_6 + 1)) t563 x556001_7) = some (r1, r2, r3) := by first | (rw [hji85] at H; exact H) | (simp only [hji85] at H ⊢; exact H)
                   have hji85_ : (if 100000 < (wrap64 ((wrap64 (10 * x7_6)) + (((bt x0_64 x89_6) - 48) % 256))) then 100000 else (wrap64 ((wrap64 (10 * x7_6)) + (((bt x0_64 x89_6) - 48) % 256)))) = ji85 := hji85
                   have H' := Aside0.mk H
                   clear H
                   have p84 : 0 ≤ (x89_6 : Int) := of_decide_eq_true (by first | (with_reducible assumption) | assumption)
                   have q84 : x89_6 < (x0_64.size : Int) := of_decide_eq_true (by first | (with_reducible assumption) | assumption)
                   have hx84 := bt_at x0_64 x89_6
                   replace p84 := eq_true p84
                   replace q84 := eq_true q84
                   go_wp2
                   go_roundg k6
                   case measure => have := HJ7.out; have := HJ43.out; have := HJ57.out; have := HJ64.out; have := HJ73.out; have := HK6.out; omega
                   case rel => exact ⟨(ji85), (wrap64 (x89_6 + 1)), (by first | rfl | (simp; done) | (simp only [← hji85] <;> (first | rfl | simp)) | (simp [*]; done)), (by first | rfl | (simp; done) | (simp [*]; done)), H', ⟨by have := HJ7.out; have := HJ43.out; have := HJ57.out; have := HJ64.out; have := HJ73.out; have := HK6.out; omega⟩, ⟨bk BK552⟩, ⟨bk BK555⟩, ⟨lk HB⟩⟩
                  rw [if_neg c83] at H
                  exact absurd H (by simp)
                 rw [if_neg c82] at H
                 exact absurd H (by simp)
                rw [if_neg c81] at H
                have c81b0 : decide (x89_6 < (x0_64.size : Int)) = false := decide_eq_false c81
                clear c81
                simp only [Option.some.injEq, Prod.mk.injEq] at H
                obtain ⟨rfl, rfl, rfl⟩ := H
                have hnb86 := NB555_552.out
                have hnc86 := NB552_555.out
                have hcz87_0 : wr.cell? ⟨gb555, 0, none⟩ = some (.string t563) := (blk_cell BK555.out 0).trans rfl
                have hcz87_1 : wr.cell? ⟨gb555, 1, none⟩ = some (.int .i64 x556001_7) := (blk_cell BK555.out 1).trans rfl
                have hfz87_0 := blk_frozen BK555.out 0
                have hfz87_1 := blk_frozen BK555.out 1
                have hcz88_0 : wr.cell? ⟨gb552, 0, none⟩ = some (.string (⟨#[]⟩ : ByteArray)) := (blk_cell BK552.out 0).trans rfl
                have hcz88_1 : wr.cell? ⟨gb552, 1, none⟩ = some (.int .i64 0) := (blk_cell BK552.out 1).trans rfl
                have hfz88_0 := blk_frozen BK552.out 0
                have hfz88_1 := blk_frozen BK552.out 1
                go_wp2
                refine bodyPost_ret (results_ct rfl _ _ gb552 79 #[.string t563, .int .i64 (wrap64 (x556001_7 + (wrap64 (x6_64 * x7_6))))] (0, 0) _ rfl (by (with_reducible repeat (first | refine blk_drewN ?_ _ | refine blk_drew ?_ | refine blk_alloc ?_ _)); refine blk_put (cs := #[.string t563, .int .i64 0]) ?_ 1 _ rfl; (with_reducible repeat (first | refine blk_drewN ?_ _ | refine blk_drew ?_ | refine blk_alloc ?_ _)); refine blk_put (cs := #[.string (⟨#[]⟩ : ByteArray), .int .i64 0]) ?_ 0 _ rfl; (with_reducible repeat (first | refine blk_drewN ?_ _ | refine blk_drew ?_ | refine blk_alloc ?_ _)); refine blk_far ?_ NB552_555.out _; (with_reducible repeat (first | refine blk_drewN ?_ _ | refine blk_drew ?_ | refine blk_alloc ?_ _)); exact BK552.out) Tryd.underlying79 rfl (by kernel_rfl)) rfl ?_
                exact ex (lk HB)
       rw [if_neg c57] at H
       exact absurd H (by simp)
  rw [if_neg c4] at H
  exact absurd H (by simp)
 rw [if_neg c3] at H
 exact absurd H (by simp)
def r_NaN.f  : Option (Nat) := some ((9221120237041090561 : Int).toNat)
set_option maxHeartbeats 8000000 in
set_option maxRecDepth 100000 in
theorem r_NaN.calls  (r : Nat) (w : World) (h : r_NaN.f  = some r) :
  Calls Tryd.prog 69 #[] w fun e w' => e = .returned (.float .f64 r) ∧ Drawn0 w w' := by
 have H : (some ((9221120237041090561 : Int).toNat)) = some r := h
 clear h
 obtain rfl := Option.some.inj H
 have hext0 := Hd.ext12
 go_enter Tryd.func69, Tryd.ntmps69
 go_wp2
 go_ret
 exact ⟨by first | rfl | (simp; done) | (simp [*]; done), by repeat (first | exact Drawn0.refl _ | apply Drawn0.step)⟩
def r_signed.f (a0 : Int) (a1 : Bool) : Option (Nat) := if a1 = true then (some (((Go.bits .or .u64 a0 9223372036854775808) : Int).toNat)) else (some ((a0 : Int).toNat))
set_option maxHeartbeats 8000000 in
set_option maxRecDepth 100000 in
theorem r_signed.calls (a0 : Int) (a1 : Bool) (r : Nat) (w : World) (h : r_signed.f a0 a1 = some r) :
  Calls Tryd.prog 70 #[.int .u64 a0, .bool a1] w fun e w' => e = .returned (.float .f64 r) ∧ Drawn0 w w' := by
 have H : (if a1 = true then (some (((Go.bits .or .u64 a0 9223372036854775808) : Int).toNat)) else (some ((a0 : Int).toNat))) = some r := h
 clear h
 by_cases c3 : a1 = true
 ·
  subst c3
  rw [if_pos rfl] at H
  obtain rfl := Option.some.inj H
  have hext0 := Hd.ext12
  go_enter Tryd.func70, Tryd.ntmps70
  go_wp2
  go_ret
  exact ⟨by first | rfl | (simp; done) | (simp [*]; done), by repeat (first | exact Drawn0.refl _ | apply Drawn0.step)⟩
 replace c3 := Bool.eq_false_iff.mpr c3
 subst c3
 rw [if_neg (show ¬ (false = true) by decide)] at H
 obtain rfl := Option.some.inj H
 have hext0 := Hd.ext12
 go_enter Tryd.func70, Tryd.ntmps70
 go_wp2
 go_ret
 exact ⟨by first | rfl | (simp; done) | (simp [*]; done), by repeat (first | exact Drawn0.refl _ | apply Drawn0.step)⟩
mutual
def r_exponent.j0 : Nat → ByteArray → Bool → Option (Int × Bool)
 | 0, _, _ => none
 | k + 1, x0, x14 => if x14 = true then (some (0, false)) else (if 1 ≤ (x0.size : Int) then ((some (x0.extract 1 x0.size : ByteArray)).bind fun y631 => (if (y631.size : Int) > 0 then (if 0 < (y631.size : Int) then (if (bt y631 0) = 43 then (r_exponent.j1 k y631 false true) else (r_exponent.j1 k y631 false ((bt y631 0) == 45))) else (none)) else (r_exponent.j1 k y631 false false))) else (none))
def r_exponent.j1 : Nat → ByteArray → Bool → Bool → Option (Int × Bool)
 | 0, _, _, _ => none
 | k + 1, x0, x4, x29 => if x29 = true then (if 0 < (x0.size : Int) then (if 1 ≤ (x0.size : Int) then (r_exponent.j2 k (x0.extract 1 x0.size) ((bt x0 0) == 45)) else (none)) else (none)) else (r_exponent.j2 k x0 x4)
def r_exponent.j2 : Nat → ByteArray → Bool → Option (Int × Bool)
 | 0, _, _ => none
 | k + 1, x0, x4 => r_exponent.l0 k x0 x4 0 0
def r_exponent.l0 : Nat → ByteArray → Bool → Int → Int → Option (Int × Bool)
 | 0, _, _, _, _ => none
 | k + 1, x0, x4, x5, x6 => if x6 < (x0.size : Int) then (if 0 ≤ x6 then ((r_digit.f (bt x0 x6)).bind fun t633 => (if t633 = true then (if x5 < 1000000 then (r_exponent.l0 k x0 x4 (wrap64 ((wrap64 (10 * x5)) + (((bt x0 x6) - 48) % 256))) (wrap64 (x6 + 1))) else (r_exponent.l0 k x0 x4 x5 (wrap64 (x6 + 1)))) else (some (0, false)))) else (none)) else (if x4 = true then (some (wrap64 (-x5), decide (0 < x0.size))) else (some (x5, decide (0 < x0.size))))
end
def r_exponent.f (k : Nat) (a0 : ByteArray) : Option (Int × Bool) := if 0 < (a0.size : Int) then (if (bt a0 0) = 101 then (r_exponent.j0 k a0 false) else (r_exponent.j0 k a0 ((bt a0 0) != 69))) else (none)
theorem r_exponent.mono_l : ∀ k, (∀ y0 y1, LeO (r_exponent.j0 k y0 y1) (r_exponent.j0 (k + 1) y0 y1)) ∧ (∀ y0 y1 y2, LeO (r_exponent.j1 k y0 y1 y2) (r_exponent.j1 (k + 1) y0 y1 y2)) ∧ (∀ y0 y1, LeO (r_exponent.j2 k y0 y1) (r_exponent.j2 (k + 1) y0 y1)) ∧ (∀ y0 y1 y2 y3, LeO (r_exponent.l0 k y0 y1 y2 y3) (r_exponent.l0 (k + 1) y0 y1 y2 y3))
 | 0 => ⟨fun _ _ r h => by simp [r_exponent.j0] at h, fun _ _ _ r h => by simp [r_exponent.j1] at h, fun _ _ r h => by simp [r_exponent.j2] at h, fun _ _ _ _ r h => by simp [r_exponent.l0] at h⟩
 | k + 1 => by
  obtain ⟨ih0, ih1, ih2, ih3⟩ := r_exponent.mono_l k
  refine ⟨?_, ?_, ?_, ?_⟩
  ·
   intro y0 y1
   unfold r_exponent.j0
   repeat' (with_reducible first | exact ih0 _ _ | exact ih1 _ _ _ | exact ih2 _ _ | exact ih3 _ _ _ _ | exact LeO.refl _ | exact LeO.none _ | refine LeO.ite ?_ ?_ | refine LeO.bind ?_ (fun _ => ?_))
  ·
   intro y0 y1 y2
   unfold r_exponent.j1
   repeat' (with_reducible first | exact ih0 _ _ | exact ih1 _ _ _ | exact ih2 _ _ | exact ih3 _ _ _ _ | exact LeO.refl _ | exact LeO.none _ | refine LeO.ite ?_ ?_ | refine LeO.bind ?_ (fun _ => ?_))
  ·
   intro y0 y1
   unfold r_exponent.j2
   repeat' (with_reducible first | exact ih0 _ _ | exact ih1 _ _ _ | exact ih2 _ _ | exact ih3 _ _ _ _ | exact LeO.refl _ | exact LeO.none _ | refine LeO.ite ?_ ?_ | refine LeO.bind ?_ (fun _ => ?_))
  intro y0 y1 y2 y3
  unfold r_exponent.l0
  repeat' (with_reducible first | exact ih0 _ _ | exact ih1 _ _ _ | exact ih2 _ _ | exact ih3 _ _ _ _ | exact LeO.refl _ | exact LeO.none _ | refine LeO.ite ?_ ?_ | refine LeO.bind ?_ (fun _ => ?_))
theorem r_exponent.mono : ∀ a0 k, LeO (r_exponent.f k a0) (r_exponent.f (k + 1) a0) := by
 intro a0 k
 obtain ⟨ih0, ih1, ih2, ih3⟩ := r_exponent.mono_l k
 unfold r_exponent.f
 repeat' (with_reducible first | exact ih0 _ _ | exact ih1 _ _ _ | exact ih2 _ _ | exact ih3 _ _ _ _ | exact LeO.refl _ | exact LeO.none _ | refine LeO.ite ?_ ?_ | refine LeO.bind ?_ (fun _ => ?_))
set_option maxHeartbeats 8000000 in
set_option maxRecDepth 100000 in
theorem r_exponent.calls (k : Nat) (a0 : ByteArray) (r1 : Int) (r2 : Bool) (w : World) (h : r_exponent.f k a0 = some (r1, r2)) :
  Calls Tryd.prog 72 #[.string a0] w fun e w' => e = .returned (.tuple #[.int .i64 r1, .bool r2]) ∧ Drawn0 w w' := by
 have H : (if 0 < (a0.size : Int) then (if (bt a0 0) = 101 then (r_exponent.j0 k a0 false) else (r_exponent.j0 k a0 ((bt a0 0) != 69))) else (none)) = some (r1, r2) := h
 clear h
 have HC2 := Aside0.mk H
 clear H
 go_enter Tryd.func72, Tryd.ntmps72
 go_upto_region 1 with (fail)
 go_cut [14] (fun v14 wc => ∃ (kq : Nat) (x14_1 : Bool), v14 = .bool x14_1 ∧ Aside0 (r_exponent.j0 kq a0 x14_1 = some (r1, r2)) ∧ Aside0 (kq ≤ k) ∧ Drawn0 w wc)
 case first =>
  have H := HC2.out
  clear HC2
  by_cases c3 : 0 < (a0.size : Int)
  ·
   rw [if_pos c3] at H
   have c3b0 : decide (0 < (a0.size : Int)) = true := decide_eq_true c3
   have c3b1 : decide (0 < a0.size) = true := decide_eq_true (by omega)
   clear c3
   (first | rw [c3b0] | (simp only [i64_w, i32_w]; rw [c3b0]) | skip)
   by_cases c5 : (bt a0 0) = 101
   ·
    rw [if_pos c5] at H
    have c5b0 : ((bt a0 0) == 101) = true := beq_iff_eq.mpr c5
    have c5b1 : ((bt a0 0) != 101) = false := bne_eq_false_iff_eq.mpr c5
    clear c5
    have H' := Aside0.mk H
    clear H
    have p4 : 0 ≤ (0 : Int) := (by omega)
    have q4 : 0 < a0.size := (by have : (0 : Int) < (a0.size : Int) := of_decide_eq_true (by first | (with_reducible assumption) | assumption); omega)
    have hx4 : ∀ h : 0 < a0.size, ((a0[0]'h).toNat : Int) = bt a0 0 := bt_at a0 0
    clear p4
    have qi4 : (0 < (a0.size : Int)) = True := eq_true (of_decide_eq_true (by first | (with_reducible assumption) | assumption))
    replace q4 := eq_true q4
    go_wp2
    go_meet
    case rel => exact ⟨_, (false), (by first | rfl | (simp; done) | (simp [*]; done)), H', ⟨by first | omega | exact Nat.le_refl _⟩, by repeat (first | exact Drawn0.refl _ | apply Drawn0.step)⟩
   rw [if_neg c5] at H
   have c5b0 : ((bt a0 0) == 101) = false := beq_eq_false_iff_ne.mpr c5
   have c5b1 : ((bt a0 0) != 101) = true := bne_iff_ne.mpr c5
   have H' := Aside0.mk H
   clear H
   have p4 : 0 ≤ (0 : Int) := (by omega)
   have q4 : 0 < a0.size := (by have : (0 : Int) < (a0.size : Int) := of_decide_eq_true (by first | (with_reducible assumption) | assumption); omega)
   have hx4 : ∀ h : 0 < a0.size, ((a0[0]'h).toNat : Int) = bt a0 0 := bt_at a0 0
   clear p4
   have qi4 : (0 < (a0.size : Int)) = True := eq_true (of_decide_eq_true (by first | (with_reducible assumption) | assumption))
   replace q4 := eq_true q4
   have p6 : 0 ≤ (0 : Int) := (by omega)
   have q6 : 0 < a0.size := (by have : (0 : Int) < (a0.size : Int) := of_decide_eq_true (by first | (with_reducible assumption) | assumption); omega)
   have hx6 : ∀ h : 0 < a0.size, ((a0[0]'h).toNat : Int) = bt a0 0 := bt_at a0 0
   clear p6
   have qi6 : (0 < (a0.size : Int)) = True := eq_true (of_decide_eq_true (by first | (with_reducible assumption) | assumption))
   replace q6 := eq_true q6
   go_wp2
   go_meet
   case rel => exact ⟨_, (((bt a0 0) != 69)), (by first | rfl | (simp; done) | (simp [*]; done)), H', ⟨by first | omega | exact Nat.le_refl _⟩, by repeat (first | exact Drawn0.refl _ | apply Drawn0.step)⟩
  rw [if_neg c3] at H
  exact absurd H (by simp)
 case rest =>
  clear HC2
  try clear p2
  try clear c3
  try clear c3b0
  try clear c3b1
  try clear p4
  try clear q4
  try clear hx4
  try clear qi4
  try clear c5
  try clear c5b0
  try clear c5b1
  try clear p6
  try clear q6
  try clear hx6
  try clear qi6
  try clear p4
  try clear p6
  try clear q4
  try clear q6
  obtain ⟨kq, x14_1, rfl, HA, HJ1, ⟨mc1, rfl⟩⟩ := hcut
  cases kq with
  | zero => exact absurd HA.out (by simp [r_exponent.j0])
  | succ kj1 =>
   have H := HA.out
   clear HA
   simp only [r_exponent.j0] at H
   by_cases c7 : x14_1 = true
   ·
    subst c7
    have H1 : (some (0, false)) = some (r1, r2) := by rw [if_pos rfl] at H; exact H
    clear H
    have H := H1
    clear H1
    simp only [Option.some.injEq, Prod.mk.injEq] at H
    obtain ⟨rfl, rfl⟩ := H
    go_wp2
    go_ret2
    exact ⟨by first | rfl | (simp; done) | (simp [*]; done), by repeat (first | exact Drawn0.refl _ | apply Drawn0.step)⟩
   replace c7 := Bool.eq_false_iff.mpr c7
   subst c7
   have H1 : (if 1 ≤ (a0.size : Int) then ((some (a0.extract 1 a0.size : ByteArray)).bind fun y631 => (if (y631.size : Int) > 0 then (if 0 < (y631.size : Int) then (if (bt y631 0) = 43 then (r_exponent.j1 kj1 y631 false true) else (r_exponent.j1 kj1 y631 false ((bt y631 0) == 45))) else (none)) else (r_exponent.j1 kj1 y631 false false))) else (none)) = some (r1, r2) := by rw [if_neg (show ¬ (false = true) by decide)] at H; exact H
   clear H
   have H := H1
   clear H1
   by_cases c8 : 1 ≤ (a0.size : Int)
   ·
    rw [if_pos c8] at H
    have c8b0 := eq_true c8
    have c8b1 : decide (1 ≤ (a0.size : Int)) = true := decide_eq_true c8
    clear c8
    obtain ⟨y631, hy631⟩ : ∃ y_ : ByteArray, y_ = (a0.extract 1 a0.size) := ⟨_, rfl⟩
    replace H : (if (y631.size : Int) > 0 then (if 0 < (y631.size : Int) then (if (bt y631 0) = 43 then (r_exponent.j1 kj1 y631 false true) else (r_exponent.j1 kj1 y631 false ((bt y631 0) == 45))) else (none)) else (r_exponent.j1 kj1 y631 false false)) = some (r1, r2) := by first | (rw [hy631]; with_reducible exact H) | (rw [hy631]; with_reducible exact (hs H :)) | with_reducible exact (hs H :) | with_reducible exact H | (rw [hy631]; exact H) | exact H
    have Ny631 := Aside0.mk hy631
    clear hy631
    have HC9 := Aside0.mk H
    clear H
    have hcs10 := Hd.str_from (P := Tryd.prog) (k := .i64) Tryd.underlying9 (i := 1) (s := a0) (y := y631) (by first | (with_reducible assumption) | exact of_decide_eq_true (by first | (with_reducible assumption) | assumption) | omega) (by first | (with_reducible assumption) | exact of_decide_eq_true (by first | (with_reducible assumption) | assumption) | omega) Ny631.out
    go_upto_region 5 with (fail)
    go_cut [29] (fun v29 wc => ∃ (kq : Nat) (x29_8 : Bool), v29 = .bool x29_8 ∧ Aside0 (r_exponent.j1 kq y631 false x29_8 = some (r1, r2)) ∧ Aside0 (kq ≤ kj1) ∧ Drawn0 w wc)
    case first =>
     have H := HC9.out
     clear HC9
     by_cases c11 : (y631.size : Int) > 0
     ·
      rw [if_pos c11] at H
      have c11b0 : decide (0 < (y631.size : Int)) = true := decide_eq_true c11
      have c11b1 : decide (0 < y631.size) = true := decide_eq_true (by omega)
      clear c11
      (first | rw [c11b0] | (simp only [i64_w, i32_w]; rw [c11b0]) | skip)
      by_cases c12 : 0 < (y631.size : Int)
      ·
       rw [if_pos c12] at H
       have c12b0 : decide (0 < (y631.size : Int)) = true := decide_eq_true c12
       have c12b1 : decide (0 < y631.size) = true := decide_eq_true (by omega)
       clear c12
       by_cases c14 : (bt y631 0) = 43
       ·
        rw [if_pos c14] at H
        have c14b0 : ((bt y631 0) == 43) = true := beq_iff_eq.mpr c14
        have c14b1 : ((bt y631 0) != 43) = false := bne_eq_false_iff_eq.mpr c14
        clear c14
        have H' := Aside0.mk H
        clear H
        have p13 : 0 ≤ (0 : Int) := (by omega)
        have q13 : 0 < y631.size := (by have : (0 : Int) < (y631.size : Int) := of_decide_eq_true (by first | (with_reducible assumption) | assumption); omega)
        have hx13 : ∀ h : 0 < y631.size, ((y631[0]'h).toNat : Int) = bt y631 0 := bt_at y631 0
        clear p13
        have qi13 : (0 < (y631.size : Int)) = True := eq_true (of_decide_eq_true (by first | (with_reducible assumption) | assumption))
        replace q13 := eq_true q13
        go_wp2
        go_meet
        case rel => exact ⟨_, (true), (by first | rfl | (simp; done) | (simp [*]; done)), H', ⟨by have := HJ1.out; first | omega | exact Nat.le_refl _⟩, by repeat (first | exact Drawn0.refl _ | apply Drawn0.step)⟩
       rw [if_neg c14] at H
       have c14b0 : ((bt y631 0) == 43) = false := beq_eq_false_iff_ne.mpr c14
       have c14b1 : ((bt y631 0) != 43) = true := bne_iff_ne.mpr c14
       have H' := Aside0.mk H
       clear H
       have p13 : 0 ≤ (0 : Int) := (by omega)
       have q13 : 0 < y631.size := (by have : (0 : Int) < (y631.size : Int) := of_decide_eq_true (by first | (with_reducible assumption) | assumption); omega)
       have hx13 : ∀ h : 0 < y631.size, ((y631[0]'h).toNat : Int) = bt y631 0 := bt_at y631 0
       clear p13
       have qi13 : (0 < (y631.size : Int)) = True := eq_true (of_decide_eq_true (by first | (with_reducible assumption) | assumption))
       replace q13 := eq_true q13
       have p15 : 0 ≤ (0 : Int) := (by omega)
       have q15 : 0 < y631.size := (by have : (0 : Int) < (y631.size : Int) := of_decide_eq_true (by first | (with_reducible assumption) | assumption); omega)
       have hx15 : ∀ h : 0 < y631.size, ((y631[0]'h).toNat : Int) = bt y631 0 := bt_at y631 0
       clear p15
       have qi15 : (0 < (y631.size : Int)) = True := eq_true (of_decide_eq_true (by first | (with_reducible assumption) | assumption))
       replace q15 := eq_true q15
       go_wp2
       go_meet
       case rel => exact ⟨_, (((bt y631 0) == 45)), (by first | rfl | (simp; done) | (simp [*]; done)), H', ⟨by have := HJ1.out; first | omega | exact Nat.le_refl _⟩, by repeat (first | exact Drawn0.refl _ | apply Drawn0.step)⟩
      rw [if_neg c12] at H
      exact absurd H (by simp)
     rw [if_neg c11] at H
     have c11b0 : decide (0 < (y631.size : Int)) = false := decide_eq_false c11
     have c11b1 : decide (0 < y631.size) = false := decide_eq_false (by omega)
     clear c11
     (first | rw [c11b0] | (simp only [i64_w, i32_w]; rw [c11b0]) | skip)
     have H' := Aside0.mk H
     clear H
     go_wp2
     go_meet
     case rel => exact ⟨_, (false), (by first | rfl | (simp; done) | (simp [*]; done)), H', ⟨by have := HJ1.out; first | omega | exact Nat.le_refl _⟩, by repeat (first | exact Drawn0.refl _ | apply Drawn0.step)⟩
    case rest =>
     clear HC9
     try clear c1
     try clear p1
     try clear q1
     try clear hx1
     try clear qi1
     try clear p2
     try clear c3
     try clear c3b0
     try clear c3b1
     try clear p4
     try clear q4
     try clear hx4
     try clear qi4
     try clear c5
     try clear c5b0
     try clear c5b1
     try clear p6
     try clear q6
     try clear hx6
     try clear qi6
     try clear c7
     try clear c8
     try clear c8b0
     try clear c8b1
     try clear c11
     try clear c11b0
     try clear c11b1
     try clear c12
     try clear c12b0
     try clear c12b1
     try clear p13
     try clear q13
     try clear hx13
     try clear qi13
     try clear c14
     try clear c14b0
     try clear c14b1
     try clear p15
     try clear q15
     try clear hx15
     try clear qi15
     try clear p13
     try clear p15
     try clear p2
     try clear p4
     try clear p6
     try clear q13
     try clear q15
     try clear q4
     try clear q6
     obtain ⟨kq, x29_8, rfl, HA, HJ8, ⟨mc8, rfl⟩⟩ := hcut
     cases kq with
     | zero => exact absurd HA.out (by simp [r_exponent.j1])
     | succ kj8 =>
      have H := HA.out
      clear HA
      simp only [r_exponent.j1] at H
      have HC16 := Aside0.mk H
      clear H
      go_upto_if 29 with (fail)
      go_cut [0, 4] (fun v0 v4 wc => ∃ (kq : Nat) (x0_15 : ByteArray) (x4_15 : Bool), v0 = .string x0_15 ∧ v4 = .bool x4_15 ∧ Aside0 (r_exponent.j2 kq x0_15 x4_15 = some (r1, r2)) ∧ Aside0 (kq ≤ kj8) ∧ Drawn0 w wc)
      case first =>
       have H := HC16.out
       clear HC16
       by_cases c17 : x29_8 = true
       ·
        subst c17
        have H1 : (if 0 < (y631.size : Int) then (if 1 ≤ (y631.size : Int) then (r_exponent.j2 kj8 (y631.extract 1 y631.size) ((bt y631 0) == 45)) else (none)) else (none)) = some (r1, r2) := by rw [if_pos rfl] at H; exact H
        clear H
        have H := H1
        clear H1
        by_cases c18 : 0 < (y631.size : Int)
        ·
         rw [if_pos c18] at H
         have c18b0 : decide (0 < (y631.size : Int)) = true := decide_eq_true c18
         have c18b1 : decide (0 < y631.size) = true := decide_eq_true (by omega)
         clear c18
         (first | rw [c18b0] | (simp only [i64_w, i32_w]; rw [c18b0]) | skip)
         by_cases c20 : 1 ≤ (y631.size : Int)
         ·
          rw [if_pos c20] at H
          have c20b0 := eq_true c20
          have c20b1 : decide (1 ≤ (y631.size : Int)) = true := decide_eq_true c20
          clear c20
          obtain ⟨y632, hy632⟩ : ∃ y_ : ByteArray, y_ = (y631.extract 1 y631.size) := ⟨_, rfl⟩
          replace H : (r_exponent.j2 kj8 y632 ((bt y631 0) == 45)) = some (r1, r2) := by first | (rw [hy632]; with_reducible exact H) | (rw [hy632]; with_reducible exact (hs H :)) | with_reducible exact (hs H :) | with_reducible exact H | (rw [hy632]; exact H) | exact H
          have Ny632 := Aside0.mk hy632
          clear hy632
          have H' := Aside0.mk H
          clear H
          have p19 : 0 ≤ (0 : Int) := (by omega)
          have q19 : 0 < y631.size := (by have : (0 : Int) < (y631.size : Int) := of_decide_eq_true (by first | (with_reducible assumption) | assumption); omega)
          have hx19 : ∀ h : 0 < y631.size, ((y631[0]'h).toNat : Int) = bt y631 0 := bt_at y631 0
          clear p19
          have qi19 : (0 < (y631.size : Int)) = True := eq_true (of_decide_eq_true (by first | (with_reducible assumption) | assumption))
          replace q19 := eq_true q19
          have hcs21 := Hd.str_from (P := Tryd.prog) (k := .i64) Tryd.underlying9 (i := 1) (s := y631) (y := y632) (by first | (with_reducible assumption) | exact of_decide_eq_true (by first | (with_reducible assumption) | assumption) | omega) (by first | (with_reducible assumption) | exact of_decide_eq_true (by first | (with_reducible assumption) | assumption) | omega) Ny632.out
          go_wp2
          go_meet
          case rel => exact ⟨_, (y632), (((bt y631 0) == 45)), (by first | rfl | (simp; done) | (simp [*]; done)), (by first | rfl | (simp; done) | (simp [*]; done)), H', ⟨by have := HJ1.out; have := HJ8.out; first | omega | exact Nat.le_refl _⟩, by repeat (first | exact Drawn0.refl _ | apply Drawn0.step)⟩
         rw [if_neg c20] at H
         exact absurd H (by simp)
        rw [if_neg c18] at H
        exact absurd H (by simp)
       replace c17 := Bool.eq_false_iff.mpr c17
       subst c17
       have H1 : (r_exponent.j2 kj8 y631 false) = some (r1, r2) := by rw [if_neg (show ¬ (false = true) by decide)] at H; exact H
       clear H
       have H := H1
       clear H1
       have H' := Aside0.mk H
       clear H
       go_wp2
       go_meet
       case rel => exact ⟨_, (y631), (false), (by first | rfl | (simp; done) | (simp [*]; done)), (by first | rfl | (simp; done) | (simp [*]; done)), H', ⟨by have := HJ1.out; have := HJ8.out; first | omega | exact Nat.le_refl _⟩, by repeat (first | exact Drawn0.refl _ | apply Drawn0.step)⟩
      case rest =>
       clear HC16
       try clear c1
       try clear p1
       try clear q1
       try clear hx1
       try clear qi1
       try clear c2
       try clear p2
       try clear c3
       try clear c3b0
       try clear c3b1
       try clear p4
       try clear q4
       try clear hx4
       try clear qi4
       try clear c5
       try clear c5b0
       try clear c5b1
       try clear p6
       try clear q6
       try clear hx6
       try clear qi6
       try clear c7
       try clear c8
       try clear c8b0
       try clear c8b1
       try clear c11
       try clear c11b0
       try clear c11b1
       try clear c12
       try clear c12b0
       try clear c12b1
       try clear p13
       try clear q13
       try clear hx13
       try clear qi13
       try clear c14
       try clear c14b0
       try clear c14b1
       try clear p15
       try clear q15
       try clear hx15
       try clear qi15
       try clear c17
       try clear c18
       try clear c18b0
       try clear c18b1
       try clear p19
       try clear q19
       try clear hx19
       try clear qi19
       try clear c20
       try clear c20b0
       try clear c20b1
       try clear p1
       try clear p13
       try clear p15
       try clear p19
       try clear p2
       try clear p4
       try clear p6
       try clear q1
       try clear q13
       try clear q15
       try clear q19
       try clear q4
       try clear q6
       obtain ⟨kq, x0_15, x4_15, rfl, rfl, HA, HJ15, ⟨mc15, rfl⟩⟩ := hcut
       cases kq with
       | zero => exact absurd HA.out (by simp [r_exponent.j2])
       | succ kj15 =>
        have H := HA.out
        clear HA
        simp only [r_exponent.j2] at H
        have H' := Aside0.mk H
        clear H
        go_wp2
        go_loopg [5, 6] kj15 (fun kq v5 v6 w' => ∃ (x5_4 : Int) (x6_4 : Int), v5 = .int .i64 x5_4 ∧ v6 = .int .i64 x6_4 ∧ Aside0 (r_exponent.l0 kq x0_15 x4_15 x5_4 x6_4 = some (r1, r2)) ∧ Aside0 (kq ≤ kj15) ∧ Drawn0 w w')
        case atStart => exact ⟨(0), (0), (by first | rfl | (simp; done) | (simp [*]; done)), (by first | rfl | (simp; done) | (simp [*]; done)), H', ⟨Nat.le_refl _⟩, by repeat (first | exact Drawn0.refl _ | apply Drawn0.step)⟩
        case round =>
         clear H'
         try clear c1
         try clear p1
         try clear q1
         try clear hx1
         try clear qi1
         try clear c2
         try clear p2
         try clear c3
         try clear c3b0
         try clear c3b1
         try clear p4
         try clear q4
         try clear hx4
         try clear qi4
         try clear c5
         try clear c5b0
         try clear c5b1
         try clear p6
         try clear q6
         try clear hx6
         try clear qi6
         try clear c7
         try clear c8
         try clear c8b0
         try clear c8b1
         try clear c11
         try clear c11b0
         try clear c11b1
         try clear c12
         try clear c12b0
         try clear c12b1
         try clear p13
         try clear q13
         try clear hx13
         try clear qi13
         try clear c14
         try clear c14b0
         try clear c14b1
         try clear c15
         try clear p15
         try clear q15
         try clear hx15
         try clear qi15
         try clear c17
         try clear c18
         try clear c18b0
         try clear c18b1
         try clear p19
         try clear q19
         try clear hx19
         try clear qi19
         try clear c20
         try clear c20b0
         try clear c20b1
         try clear p1
         try clear p13
         try clear p15
         try clear p19
         try clear p2
         try clear p4
         try clear p6
         try clear q1
         try clear q13
         try clear q15
         try clear q19
         try clear q4
         try clear q6
         obtain ⟨x5_4, x6_4, rfl, rfl, HA, HK4, ⟨m4, rfl⟩⟩ := hrel
         cases gk with
         | zero => exact absurd HA.out (by simp [r_exponent.l0])
         | succ k4 =>
          have H := HA.out
          clear HA
          simp only [r_exponent.l0] at H
          by_cases c22 : x6_4 < (x0_15.size : Int)
          ·
           rw [if_pos c22] at H
           have c22b0 : decide (x6_4 < (x0_15.size : Int)) = true := decide_eq_true c22
           clear c22
           by_cases c23 : 0 ≤ x6_4
           ·
            rw [if_pos c23] at H
            have c23b0 : decide (0 ≤ x6_4) = true := decide_eq_true c23
            clear c23
            replace H := Option.bind_eq_some_iff.mp H
            obtain ⟨t633, A250, H⟩ := H
            replace H : (if t633 = true then (if x5_4 < 1000000 then (r_exponent.l0 k4 x0_15 x4_15 (wrap64 ((wrap64 (10 * x5_4)) + (((bt x0_15 x6_4) - 48) % 256))) (wrap64 (x6_4 + 1))) else (r_exponent.l0 k4 x0_15 x4_15 x5_4 (wrap64 (x6_4 + 1)))) else (some (0, false))) = some (r1, r2) := H
            have A25 := Aside0.mk A250
            clear A250
            by_cases c26 : t633 = true
            ·
             subst c26
             have H1 : (if x5_4 < 1000000 then (r_exponent.l0 k4 x0_15 x4_15 (wrap64 ((wrap64 (10 * x5_4)) + (((bt x0_15 x6_4) - 48) % 256))) (wrap64 (x6_4 + 1))) else (r_exponent.l0 k4 x0_15 x4_15 x5_4 (wrap64 (x6_4 + 1)))) = some (r1, r2) := by rw [if_pos rfl] at H; exact H
             clear H
             have H := H1
             clear H1
             by_cases c27 : x5_4 < 1000000
             ·
              rw [if_pos c27] at H
              have c27b0 : decide (x5_4 < 1000000) = true := decide_eq_true c27
              clear c27
              have H' := Aside0.mk H
              clear H
              have p24 : 0 ≤ (x6_4 : Int) := of_decide_eq_true (by first | (with_reducible assumption) | assumption)
              have q24 : x6_4 < (x0_15.size : Int) := of_decide_eq_true (by first | (with_reducible assumption) | assumption)
              have hx24 := bt_at x0_15 x6_4
              replace p24 := eq_true p24
              replace q24 := eq_true q24
              go_wp2_with (first | ((with_reducible refine gate_callee (f := 71) rfl ?_); refine gL (some 44) Tryd.func71 #[.int .u8 (bt x0_15 x6_4)] ?_; (with_reducible refine (r_digit.calls (bt x0_15 x6_4) true _ A25.out).mono ?_); rintro e w' ⟨rfl, ⟨nd, rfl⟩⟩; refine ⟨_, rfl, ?_⟩; have p28 : 0 ≤ (x6_4 : Int) := of_decide_eq_true (by first | (with_reducible assumption) | assumption); have q28 : x6_4 < (x0_15.size : Int) := of_decide_eq_true (by first | (with_reducible assumption) | assumption); have hx28 := bt_at x0_15 x6_4; replace p28 := eq_true p28; replace q28 := eq_true q28))
              go_roundg k4
              case measure => have := HJ1.out; have := HJ8.out; have := HJ15.out; have := HK4.out; omega
              case rel => exact ⟨(wrap64 ((wrap64 (10 * x5_4)) + (((bt x0_15 x6_4) - 48) % 256))), (wrap64 (x6_4 + 1)), (by first | rfl | (simp; done) | (simp [*]; done)), (by first | rfl | (simp; done) | (simp [*]; done)), H', ⟨by have := HJ1.out; have := HJ8.out; have := HJ15.out; have := HK4.out; omega⟩, by repeat (first | exact Drawn0.refl _ | apply Drawn0.step)⟩
             rw [if_neg c27] at H
             have c27b0 : decide (x5_4 < 1000000) = false := decide_eq_false c27
             clear c27
             have H' := Aside0.mk H
             clear H
             have p24 : 0 ≤ (x6_4 : Int) := of_decide_eq_true (by first | (with_reducible assumption) | assumption)
             have q24 : x6_4 < (x0_15.size : Int) := of_decide_eq_true (by first | (with_reducible assumption) | assumption)
             have hx24 := bt_at x0_15 x6_4
             replace p24 := eq_true p24
             replace q24 := eq_true q24
             go_wp2_with (first | ((with_reducible refine gate_callee (f := 71) rfl ?_); refine gL (some 44) Tryd.func71 #[.int .u8 (bt x0_15 x6_4)] ?_; (with_reducible refine (r_digit.calls (bt x0_15 x6_4) true _ A25.out).mono ?_); rintro e w' ⟨rfl, ⟨nd, rfl⟩⟩; refine ⟨_, rfl, ?_⟩))
             go_roundg k4
             case measure => have := HJ1.out; have := HJ8.out; have := HJ15.out; have := HK4.out; omega
             case rel => exact ⟨(x5_4), (wrap64 (x6_4 + 1)), (by first | rfl | (simp; done) | (simp [*]; done)), (by first | rfl | (simp; done) | (simp [*]; done)), H', ⟨by have := HJ1.out; have := HJ8.out; have := HJ15.out; have := HK4.out; omega⟩, by repeat (first | exact Drawn0.refl _ | apply Drawn0.step)⟩
            replace c26 := Bool.eq_false_iff.mpr c26
            subst c26
            have H1 : (some (0, false)) = some (r1, r2) := by rw [if_neg (show ¬ (false = true) by decide)] at H; exact H
            clear H
            have H := H1
            clear H1
            simp only [Option.some.injEq, Prod.mk.injEq] at H
            obtain ⟨rfl, rfl⟩ := H
            have p24 : 0 ≤ (x6_4 : Int) := of_decide_eq_true (by first | (with_reducible assumption) | assumption)
            have q24 : x6_4 < (x0_15.size : Int) := of_decide_eq_true (by first | (with_reducible assumption) | assumption)
            have hx24 := bt_at x0_15 x6_4
            replace p24 := eq_true p24
            replace q24 := eq_true q24
            go_wp2_with (first | ((with_reducible refine gate_callee (f := 71) rfl ?_); refine gL (some 44) Tryd.func71 #[.int .u8 (bt x0_15 x6_4)] ?_; (with_reducible refine (r_digit.calls (bt x0_15 x6_4) false _ A25.out).mono ?_); rintro e w' ⟨rfl, ⟨nd, rfl⟩⟩; refine ⟨_, rfl, ?_⟩))
            go_ret2
            exact ⟨by first | rfl | (simp; done) | (simp [*]; done), by repeat (first | exact Drawn0.refl _ | apply Drawn0.step)⟩
           rw [if_neg c23] at H
           exact absurd H (by simp)
          rw [if_neg c22] at H
          have c22b0 : decide (x6_4 < (x0_15.size : Int)) = false := decide_eq_false c22
          clear c22
          by_cases c29 : x4_15 = true
          ·
           subst c29
           have H1 : (some (wrap64 (-x5_4), decide (0 < x0_15.size))) = some (r1, r2) := by rw [if_pos rfl] at H; exact H
           clear H
           have H := H1
           clear H1
           simp only [Option.some.injEq, Prod.mk.injEq] at H
           obtain ⟨rfl, rfl⟩ := H
           go_wp2
           go_ret2
           exact ⟨by first | rfl | (simp; done) | (simp [*]; done), by repeat (first | exact Drawn0.refl _ | apply Drawn0.step)⟩
          replace c29 := Bool.eq_false_iff.mpr c29
          subst c29
          have H1 : (some (x5_4, decide (0 < x0_15.size))) = some (r1, r2) := by rw [if_neg (show ¬ (false = true) by decide)] at H; exact H
          clear H
          have H := H1
          clear H1
          simp only [Option.some.injEq, Prod.mk.injEq] at H
          obtain ⟨rfl, rfl⟩ := H
          go_wp2
          go_ret2
          exact ⟨by first | rfl | (simp; done) | (simp [*]; done), by repeat (first | exact Drawn0.refl _ | apply Drawn0.step)⟩
   rw [if_neg c8] at H
   exact absurd H (by simp)
def math_IsNaN.f (a0 : Nat) : Option (Bool) := some (FloatKind.f64.format.order a0 a0 != some Ordering.eq)
set_option maxHeartbeats 8000000 in
set_option maxRecDepth 100000 in
theorem math_IsNaN.calls (a0 : Nat) (r : Bool) (w : World) (h : math_IsNaN.f a0 = some r) :
  Calls Tryd.prog 43 #[.float .f64 a0] w fun e w' => e = .returned (.bool r) ∧ Drawn0 w w' := by
 have H : (some (FloatKind.f64.format.order a0 a0 != some Ordering.eq)) = some r := h
 clear h
 obtain rfl := Option.some.inj H
 go_enter Tryd.func43, Tryd.ntmps43
 go_wp2
 go_ret
 exact ⟨by first | rfl | (simp; done) | (simp [*]; done), by repeat (first | exact Drawn0.refl _ | apply Drawn0.step)⟩
def math_Abs.f (a0 : Nat) : Option (Nat) := some (((Go.bits .andNot .u64 (a0 : Int) 9223372036854775808) : Int).toNat)
set_option maxHeartbeats 8000000 in
set_option maxRecDepth 100000 in
theorem math_Abs.calls (a0 : Nat) (r : Nat) (w : World) (h : math_Abs.f a0 = some r) :
  Calls Tryd.prog 74 #[.float .f64 a0] w fun e w' => e = .returned (.float .f64 r) ∧ Drawn0 w w' := by
 have H : (some (((Go.bits .andNot .u64 (a0 : Int) 9223372036854775808) : Int).toNat)) = some r := h
 clear h
 obtain rfl := Option.some.inj H
 have hext0 := Hd.ext12
 have hext1 := Hd.ext54
 go_enter Tryd.func74, Tryd.ntmps74
 go_wp2
 go_ret
 exact ⟨by first | rfl | (simp; done) | (simp [*]; done), by repeat (first | exact Drawn0.refl _ | apply Drawn0.step)⟩
def math_IsInf.f (a0 : Nat) (a1 : Int) : Option (Bool) := if a1 = 0 then ((math_Abs.f a0).bind fun t101 => (some (FloatKind.f64.format.order t101 9218868437227405311 == some Ordering.gt))) else (if a1 < 0 then (none) else (some (FloatKind.f64.format.order a0 9218868437227405311 == some Ordering.gt)))
set_option maxHeartbeats 8000000 in
set_option maxRecDepth 100000 in
theorem math_IsInf.calls (a0 : Nat) (a1 : Int) (r : Bool) (w : World) (h : math_IsInf.f a0 a1 = some r) :
  Calls Tryd.prog 32 #[.float .f64 a0, .int .i64 a1] w fun e w' => e = .returned (.bool r) ∧ Drawn0 w w' := by
 have H : (if a1 = 0 then ((math_Abs.f a0).bind fun t101 => (some (FloatKind.f64.format.order t101 9218868437227405311 == some Ordering.gt))) else (if a1 < 0 then (none) else (some (FloatKind.f64.format.order a0 9218868437227405311 == some Ordering.gt)))) = some r := h
 clear h
 by_cases c3 : a1 = 0
 ·
  rw [if_pos c3] at H
  have c3b0 : (a1 == 0) = true := beq_iff_eq.mpr c3
  have c3b1 : (a1 != 0) = false := bne_eq_false_iff_eq.mpr c3
  clear c3
  replace H := Option.bind_eq_some_iff.mp H
  obtain ⟨t101, A40, H⟩ := H
  have A4 := Aside0.mk A40
  clear A40
  obtain rfl := Option.some.inj H
  go_enter Tryd.func32, Tryd.ntmps32
  go_wp2_with (first | ((with_reducible refine gate_callee (f := 74) rfl ?_); refine gL (some 8) Tryd.func74 #[.float .f64 a0] ?_; (with_reducible refine (math_Abs.calls a0 t101 _ A4.out).mono ?_); rintro e w' ⟨rfl, ⟨nd, rfl⟩⟩; refine ⟨_, rfl, ?_⟩))
  go_ret
  exact ⟨by first | rfl | (simp; done) | (simp [*]; done), by repeat (first | exact Drawn0.refl _ | apply Drawn0.step)⟩
 rw [if_neg c3] at H
 have c3b0 : (a1 == 0) = false := beq_eq_false_iff_ne.mpr c3
 have c3b1 : (a1 != 0) = true := bne_iff_ne.mpr c3
 by_cases c5 : a1 < 0
 ·
  rw [if_pos c5] at H
  exact absurd H (by simp)
 rw [if_neg c5] at H
 have c5b0 : decide (a1 < 0) = false := decide_eq_false c5
 clear c5
 obtain rfl := Option.some.inj H
 go_enter Tryd.func32, Tryd.ntmps32
 go_wp2
 go_ret
 exact ⟨by first | rfl | (simp; done) | (simp [*]; done), by repeat (first | exact Drawn0.refl _ | apply Drawn0.step)⟩
def math_Signbit.f (a0 : Nat) : Option (Bool) := some (decide ((wrap64 ((a0 : Int))) < 0))
set_option maxHeartbeats 8000000 in
set_option maxRecDepth 100000 in
theorem math_Signbit.calls (a0 : Nat) (r : Bool) (w : World) (h : math_Signbit.f a0 = some r) :
  Calls Tryd.prog 42 #[.float .f64 a0] w fun e w' => e = .returned (.bool r) ∧ Drawn0 w w' := by
 have H : (some (decide ((wrap64 ((a0 : Int))) < 0))) = some r := h
 clear h
 obtain rfl := Option.some.inj H
 have hext0 := Hd.ext54
 go_enter Tryd.func42, Tryd.ntmps42
 go_wp2
 go_ret
 exact ⟨by first | rfl | (simp; done) | (simp [*]; done), by repeat (first | exact Drawn0.refl _ | apply Drawn0.step)⟩
def num_parts.f (a0 : Nat) : Option (Int × Int) := if (wrap64 (Go.bits .and .u64 ((a0 : Int) / 4503599627370496) 2047)) = 0 then (some (Go.bits .and .u64 (a0 : Int) 4503599627370495, (-1074))) else (some (Go.bits .or .u64 (Go.bits .and .u64 (a0 : Int) 4503599627370495) 4503599627370496, wrap64 ((wrap64 ((wrap64 (Go.bits .and .u64 ((a0 : Int) / 4503599627370496) 2047)) + (-1074))) - 1)))
set_option maxHeartbeats 8000000 in
set_option maxRecDepth 100000 in
theorem num_parts.calls (a0 : Nat) (r1 : Int) (r2 : Int) (w : World) (h : num_parts.f a0 = some (r1, r2)) :
  Calls Tryd.prog 44 #[.float .f64 a0] w fun e w' => e = .returned (.tuple #[.int .u64 r1, .int .i64 r2]) ∧ Drawn0 w w' := by
 have H : (if (wrap64 (Go.bits .and .u64 ((a0 : Int) / 4503599627370496) 2047)) = 0 then (some (Go.bits .and .u64 (a0 : Int) 4503599627370495, (-1074))) else (some (Go.bits .or .u64 (Go.bits .and .u64 (a0 : Int) 4503599627370495) 4503599627370496, wrap64 ((wrap64 ((wrap64 (Go.bits .and .u64 ((a0 : Int) / 4503599627370496) 2047)) + (-1074))) - 1)))) = some (r1, r2) := h
 clear h
 by_cases c2 : (wrap64 (Go.bits .and .u64 ((a0 : Int) / 4503599627370496) 2047)) = 0
 ·
  rw [if_pos c2] at H
  have c2b0 : ((wrap64 (Go.bits .and .u64 ((a0 : Int) / 4503599627370496) 2047)) == 0) = true := beq_iff_eq.mpr c2
  have c2b1 : ((wrap64 (Go.bits .and .u64 ((a0 : Int) / 4503599627370496) 2047)) != 0) = false := bne_eq_false_iff_eq.mpr c2
  clear c2
  simp only [Option.some.injEq, Prod.mk.injEq] at H
  obtain ⟨rfl, rfl⟩ := H
  have hext0 := Hd.ext54
  go_enter Tryd.func44, Tryd.ntmps44
  go_wp2
  go_ret2
  exact ⟨by first | rfl | (simp; done) | (simp [*]; done), by repeat (first | exact Drawn0.refl _ | apply Drawn0.step)⟩
 rw [if_neg c2] at H
 have c2b0 : ((wrap64 (Go.bits .and .u64 ((a0 : Int) / 4503599627370496) 2047)) == 0) = false := beq_eq_false_iff_ne.mpr c2
 have c2b1 : ((wrap64 (Go.bits .and .u64 ((a0 : Int) / 4503599627370496) 2047)) != 0) = true := bne_iff_ne.mpr c2
 simp only [Option.some.injEq, Prod.mk.injEq] at H
 obtain ⟨rfl, rfl⟩ := H
 have hext0 := Hd.ext54
 go_enter Tryd.func44, Tryd.ntmps44
 go_wp2
 go_ret2
 exact ⟨by first | rfl | (simp; done) | (simp [*]; done), by repeat (first | exact Drawn0.refl _ | apply Drawn0.step)⟩
def IsS3 (w0 W : World) (g : Nat) (f0 : Int) : Prop := W.heap[g]? = some (.cells #[.int .i64 f0] 3 (0, 0)) ∧ w0.heap.size ≤ g
theorem IsS3.grown {w0 W : World} {g : Nat} {f0 : Int} {W1 : World} {row : Option Nat} (h : IsS3 w0 W g f0) (hw : W.grownBy W1 row) (hne : some g ≠ row) : IsS3 w0 W1 g f0 := by
 obtain ⟨hb, hg⟩ := h
 exact ⟨blk_grown hb hw hne, hg⟩
theorem IsS3.own_neN {w0 W : World} {g : Nat} {f0 : Int} {α : Type} {d : Kd α} {e : Nat} {base : Nat} {ok : Nat → Prop} {v : Value} {xs : List α} (h : IsS3 w0 W g f0) (ho : Kd.N d e W base ok v xs) (ht : e ≠ 3) : some g ≠ v.ownBlock := by
 obtain ⟨hb, hg⟩ := h
 exact Kd.N_ne ho hb ht
theorem IsS3.fresh {w0 W : World} {g : Nat} {f0 : Int} (h : IsS3 w0 W g f0) : ∀ k, W.heap.size ≤ k → k ≠ g := by
 obtain ⟨hb, hg⟩ := h
 exact Kd.freshB hb
theorem IsS3.kept {w0 W : World} {g : Nat} {f0 : Int} {W1 : World} {S : Nat → Prop} (h : IsS3 w0 W g f0) (hk : Kept W W1 S) (hne : ¬ S g) : IsS3 w0 W1 g f0 := by
 obtain ⟨hb, hg⟩ := h
 exact ⟨blk_kept hb hk hne, hg⟩
theorem IsS3.below {w0 W : World} {g : Nat} {f0 : Int} {W1 : World} (h : IsS3 w0 W g f0) (hw : Below W.heap.size W W1) : IsS3 w0 W1 g f0 := h.grown (grown_of_below hw none) (by simp)
theorem IsS3.alloc {w0 W : World} {g : Nat} {f0 : Int} (h : IsS3 w0 W g f0) (o : Obj) : IsS3 w0 (W.alloc o) g f0 := h.below (below_alloc (Below.refl _ _) o)
theorem IsS3.drewN {w0 W : World} {g : Nat} {f0 : Int} (h : IsS3 w0 W g f0) (m : Nat) : IsS3 w0 (W.drewN m) g f0 := h
theorem IsS3.drew {w0 W : World} {g : Nat} {f0 : Int} (h : IsS3 w0 W g f0) : IsS3 w0 W.drew g f0 := h
theorem IsS3.at_ {w0 W : World} {g : Nat} {f0 : Int} {w' : World} {m : Nat} (hq : W.drewN m = w') (h : IsS3 w0 W g f0) : IsS3 w0 w' g f0 := by subst hq; exact IsS3.drewN h m
theorem IsS3.apart {w0 W : World} {g : Nat} {f0 : Int} {α : Type} {d : Kd α} {e : Nat} {base : Nat} {ok : Nat → Prop} {v : Value} {xs : List α} (h : IsS3 w0 W g f0) (ho : d.R e W base ok v xs) (ht : ∀ q, q ∈ e :: d.E → q ≠ 3) : d.R e W base (fun k => ok k ∧ k ≠ g) v xs := by
 obtain ⟨hb, hg⟩ := h
 exact Kd.R_types ho hb ht
theorem IsS3.own_ne {w0 W : World} {g : Nat} {f0 : Int} {α : Type} {d : Kd α} {e : Nat} {base : Nat} {ok : Nat → Prop} {v : Value} {xs : List α} (h : IsS3 w0 W g f0) (ho : d.R e W base ok v xs) (ht : e ≠ 3) : some g ≠ v.ownBlock := by
 obtain ⟨hb, hg⟩ := h
 exact Kd.R_ne ho hb ht
theorem IsS3.apartQ {w0 W : World} {g : Nat} {f0 : Int} {α : Type} {d : Kd α} {e : Nat} {base : Nat} {ok : Nat → Prop} {v : Value} {xs : List α} (h : IsS3 w0 W g f0) (ho : d.Q e W base ok v xs) (ht : ∀ q, q ∈ e :: d.E → q ≠ 3) : d.Q e W base (fun k => ok k ∧ k ≠ g) v xs := by
 obtain ⟨hb, hg⟩ := h
 exact Kd.Q_types ho hb ht
theorem IsS3.own_neQ {w0 W : World} {g : Nat} {f0 : Int} {α : Type} {d : Kd α} {e : Nat} {base : Nat} {ok : Nat → Prop} {v : Value} {xs : List α} (h : IsS3 w0 W g f0) (ho : d.Q e W base ok v xs) (ht : e ≠ 3) : some g ≠ v.ownBlock := by
 obtain ⟨hb, hg⟩ := h
 exact Kd.Q_ne ho hb ht
theorem IsS3.apartS {w0 W : World} {g : Nat} {f0 : Int} {α : Type} {d : Kd α} {e : Nat} {base : Nat} {ok : Nat → Prop} {v : Value} {xs : List α} (h : IsS3 w0 W g f0) (ho : d.S e W base ok v xs) (ht : ∀ q, q ∈ e :: d.E → q ≠ 3) : d.S e W base (fun k => ok k ∧ k ≠ g) v xs := by
 obtain ⟨hb, hg⟩ := h
 exact Kd.S_types ho hb ht
theorem IsS3.own_neS {w0 W : World} {g : Nat} {f0 : Int} {α : Type} {d : Kd α} {e : Nat} {base : Nat} {ok : Nat → Prop} {v : Value} {xs : List α} (h : IsS3 w0 W g f0) (ho : d.S e W base ok v xs) (ht : e ≠ 3) : some g ≠ v.ownBlock := by
 obtain ⟨hb, hg⟩ := h
 exact Kd.S_ne ho hb ht
theorem IsS3.lt {w0 W : World} {g : Nat} {f0 : Int} (h : IsS3 w0 W g f0) : g < W.heap.size := by
 obtain ⟨hb, hg⟩ := h
 exact blk_lt hb
theorem IsS3.ge {w0 W : World} {g : Nat} {f0 : Int} (h : IsS3 w0 W g f0) : w0.heap.size ≤ g := by
 obtain ⟨hb, hg⟩ := h
 exact hg
theorem IsS3.ne_blk {w0 W : World} {g : Nat} {f0 : Int} {a : Nat} {cs : Array Value} {t : TypeId} {fr : Nat × Nat} (h : IsS3 w0 W g f0) (hb2 : W.heap[a]? = some (.cells cs t fr)) (ht : t ≠ 3) : g ≠ a := by
 obtain ⟨hb, hg⟩ := h
 rintro rfl
 rw [hb] at hb2
 injection hb2 with hb2
 injection hb2 with _ ht2
 exact ht ht2.symm
theorem IsS3.far {w0 W : World} {g : Nat} {f0 : Int} {p : Addr} (h : IsS3 w0 W g f0) (hne : g ≠ p.block) (u : Value) : IsS3 w0 (W.setCell p u) g f0 := by
 obtain ⟨hb, hg⟩ := h
 exact ⟨blk_far hb hne u, hg⟩
theorem cellS3_0 {W : World} {g : Nat} {f0 : Int} (h : W.heap[g]? = some (.cells #[.int .i64 f0] 3 (0, 0))) : W.cell? ⟨g, 0, none⟩ = some (.int .i64 f0) := (blk_cell h 0).trans rfl
theorem IsS3.set_0 {w0 W : World} {g : Nat} {f0 : Int} (h : IsS3 w0 W g f0) (x : Int) : IsS3 w0 (W.setCell ⟨g, 0, none⟩ (.int .i64 x)) g x := by
 obtain ⟨hb, hg⟩ := h
 exact ⟨by simpa using blk_set hb 0 (.int .i64 x), hg⟩
theorem IsS3.new (w0 W : World) (f0 : Int) (hB : Below w0.heap.size w0 W) : IsS3 w0 (W.alloc (.cells #[.int .i64 f0] 3)) W.heap.size f0 := ⟨by simpa using heap_alloc_new W _, hB.size⟩
theorem ik {w w0 W : World} {g : Nat} {f0 f1 : Int} (h : Aside0 (IsS3 w w0 g f0)) (s : IsS3 w w0 g f0 → IsS3 w W g f1 := by intro h_; repeat (first | (with_reducible first | exact h_ | apply IsS3.alloc | apply IsS3.drewN | apply IsS3.drew | apply IsS3.set_0) | exact h_)) : IsS3 w W g f1 := s h.out
theorem li {w w0 W wi : World} {g : Nat} {f0 : Int} (h : Aside0 (Below w.heap.size w w0)) (hi : Aside0 (IsS3 w wi g f0)) (s : w.heap.size ≤ g → Below w.heap.size w w0 → Below w.heap.size w W := by intro g_ h_; repeat (first | (with_reducible first | exact h_ | apply below_alloc | apply pw_below_drewN | apply below_drew1 | refine below_set ?_ g_) | exact h_)) : Below w.heap.size w W := s (IsS3.ge hi.out) h.out
mutual
def num_shortest.l0 : Nat → List Int → List Int → List Int → List Int → Bool → List Int → Int → Option (List Int × Int)
 | 0, _, _, _, _, _, _, _ => none
 | k + 1, x0, x1, x2, x3, x4, x13, x6000 => (num_nat_tens.f k x0 1).bind fun t180 => ((num_nat_tens.f k x2 1).bind fun t183 => ((num_nat_tens.f k x3 1).bind fun t186 => (num_shortest.l1 k t180 x1 t183 t186 x4 x13 48 x6000)))
def num_shortest.l1 : Nat → List Int → List Int → List Int → List Int → Bool → List Int → Int → Int → Option (List Int × Int)
 | 0, _, _, _, _, _, _, _, _ => none
 | k + 1, x0, x1, x2, x3, x4, x13, x14, x6000 => (num_nat_against.f k x0 x1).bind fun t189 => (if t189 ≥ 0 then ((num_nat_less.f k x0 x1).bind fun t190 => (num_shortest.l1 k t190 x1 x2 x3 x4 x13 ((x14 + 1) % 256) x6000)) else ((num_nat_against.f k x0 x2).bind fun t193 => ((num_nat_plus.f k x0 x3).bind fun t194 => ((num_nat_against.f k t194 x1).bind fun t197 => (if t193 < 0 then (if t197 > 0 then (num_shortest.j2 k x0 x1 x2 x3 x4 x13 x14 true true x6000) else (if t197 = 0 then (num_shortest.j2 k x0 x1 x2 x3 x4 x13 x14 true x4 x6000) else (num_shortest.j2 k x0 x1 x2 x3 x4 x13 x14 true false x6000))) else (if t193 = 0 then (if t197 > 0 then (num_shortest.j2 k x0 x1 x2 x3 x4 x13 x14 x4 true x6000) else (if t197 = 0 then (num_shortest.j2 k x0 x1 x2 x3 x4 x13 x14 x4 x4 x6000) else (num_shortest.j2 k x0 x1 x2 x3 x4 x13 x14 x4 false x6000))) else (if t197 > 0 then (num_shortest.j2 k x0 x1 x2 x3 x4 x13 x14 false true x6000) else (if t197 = 0 then (num_shortest.j2 k x0 x1 x2 x3 x4 x13 x14 false x4 x6000) else (num_shortest.j2 k x0 x1 x2 x3 x4 x13 x14 false false x6000)))))))))
def num_shortest.j2 : Nat → List Int → List Int → List Int → List Int → Bool → List Int → Int → Bool → Bool → Int → Option (List Int × Int)
 | 0, _, _, _, _, _, _, _, _, _, _ => none
 | k + 1, x0, x1, x2, x3, x4, x13, x14, x17, x18, x6000 => if (x13.length : Int) = 0 then (if x14 = 48 then (num_shortest.j3 k x0 x1 x2 x3 x4 x13 x14 x17 x18 (!x18) x6000) else (num_shortest.j3 k x0 x1 x2 x3 x4 x13 x14 x17 x18 false x6000)) else (num_shortest.j3 k x0 x1 x2 x3 x4 x13 x14 x17 x18 false x6000)
def num_shortest.j3 : Nat → List Int → List Int → List Int → List Int → Bool → List Int → Int → Bool → Bool → Bool → Int → Option (List Int × Int)
 | 0, _, _, _, _, _, _, _, _, _, _, _ => none
 | k + 1, x0, x1, x2, x3, x4, x13, x14, x17, x18, x71, x6000 => if x71 = true then (num_shortest.l0 k x0 x1 x2 x3 x4 x13 (wrap64 (x6000 - 1))) else (if x17 = true then (num_shortest.j4 k x0 x1 x2 x3 x4 x13 x14 x17 x18 false x6000) else (num_shortest.j4 k x0 x1 x2 x3 x4 x13 x14 x17 x18 (!x18) x6000))
def num_shortest.j4 : Nat → List Int → List Int → List Int → List Int → Bool → List Int → Int → Bool → Bool → Bool → Int → Option (List Int × Int)
 | 0, _, _, _, _, _, _, _, _, _, _, _ => none
 | k + 1, x0, x1, x2, x3, x4, x13, x14, x17, x18, x82, x6000 => if x82 = true then (if x13.length < 140737488355328 then (num_shortest.l0 k x0 x1 x2 x3 x4 (x13 ++ [x14]) x6000) else (none)) else ((num_nat_up.f k x0 1).bind fun t201 => ((num_nat_against.f k t201 x1).bind fun t204 => (if x18 = true then (if x17 = true then (if t204 > 0 then (if x13.length < 140737488355328 then (some ((x13 ++ [(x14 + 1) % 256]), x6000)) else (none)) else (if t204 = 0 then (if (Int.tmod x14 2) = 1 then (if x13.length < 140737488355328 then (some ((x13 ++ [(x14 + 1) % 256]), x6000)) else (none)) else (if x13.length < 140737488355328 then (some ((x13 ++ [x14]), x6000)) else (none))) else (if x13.length < 140737488355328 then (some ((x13 ++ [x14]), x6000)) else (none)))) else (if x13.length < 140737488355328 then (some ((x13 ++ [(x14 + 1) % 256]), x6000)) else (none))) else (if x13.length < 140737488355328 then (some ((x13 ++ [x14]), x6000)) else (none)))))
end
def num_shortest.f (k : Nat) (l0 : List Int) (l1 : List Int) (l2 : List Int) (l3 : List Int) (a4 : Bool) (s5_0 : Int) : Option (List Int × Int) := num_shortest.l0 k l0 l1 l2 l3 a4 ([] : List Int) s5_0
theorem num_shortest.mono_l : ∀ k, (∀ y0 y1 y2 y3 y4 y5 y6, LeO (num_shortest.l0 k y0 y1 y2 y3 y4 y5 y6) (num_shortest.l0 (k + 1) y0 y1 y2 y3 y4 y5 y6)) ∧ (∀ y0 y1 y2 y3 y4 y5 y6 y7, LeO (num_shortest.l1 k y0 y1 y2 y3 y4 y5 y6 y7) (num_shortest.l1 (k + 1) y0 y1 y2 y3 y4 y5 y6 y7)) ∧ (∀ y0 y1 y2 y3 y4 y5 y6 y7 y8 y9, LeO (num_shortest.j2 k y0 y1 y2 y3 y4 y5 y6 y7 y8 y9) (num_shortest.j2 (k + 1) y0 y1 y2 y3 y4 y5 y6 y7 y8 y9)) ∧ (∀ y0 y1 y2 y3 y4 y5 y6 y7 y8 y9 y10, LeO (num_shortest.j3 k y0 y1 y2 y3 y4 y5 y6 y7 y8 y9 y10) (num_shortest.j3 (k + 1) y0 y1 y2 y3 y4 y5 y6 y7 y8 y9 y10)) ∧ (∀ y0 y1 y2 y3 y4 y5 y6 y7 y8 y9 y10, LeO (num_shortest.j4 k y0 y1 y2 y3 y4 y5 y6 y7 y8 y9 y10) (num_shortest.j4 (k + 1) y0 y1 y2 y3 y4 y5 y6 y7 y8 y9 y10))
 | 0 => ⟨fun _ _ _ _ _ _ _ r h => by simp [num_shortest.l0] at h, fun _ _ _ _ _ _ _ _ r h => by simp [num_shortest.l1] at h, fun _ _ _ _ _ _ _ _ _ _ r h => by simp [num_shortest.j2] at h, fun _ _ _ _ _ _ _ _ _ _ _ r h => by simp [num_shortest.j3] at h, fun _ _ _ _ _ _ _ _ _ _ _ r h => by simp [num_shortest.j4] at h⟩
 | k + 1 => by
  obtain ⟨ih0, ih1, ih2, ih3, ih4⟩ := num_shortest.mono_l k
  refine ⟨?_, ?_, ?_, ?_, ?_⟩
  ·
   intro y0 y1 y2 y3 y4 y5 y6
   unfold num_shortest.l0
   repeat' (with_reducible first | exact ih0 _ _ _ _ _ _ _ | exact ih1 _ _ _ _ _ _ _ _ | exact ih2 _ _ _ _ _ _ _ _ _ _ | exact ih3 _ _ _ _ _ _ _ _ _ _ _ | exact ih4 _ _ _ _ _ _ _ _ _ _ _ | exact num_nat_against.mono _ _ _ | exact num_nat_less.mono _ _ _ | exact num_nat_plus.mono _ _ _ | exact num_nat_tens.mono _ _ _ | exact num_nat_up.mono _ _ _ | exact LeO.refl _ | exact LeO.none _ | refine LeO.ite ?_ ?_ | refine LeO.bind ?_ (fun _ => ?_))
  ·
   intro y0 y1 y2 y3 y4 y5 y6 y7
   unfold num_shortest.l1
   repeat' (with_reducible first | exact ih0 _ _ _ _ _ _ _ | exact ih1 _ _ _ _ _ _ _ _ | exact ih2 _ _ _ _ _ _ _ _ _ _ | exact ih3 _ _ _ _ _ _ _ _ _ _ _ | exact ih4 _ _ _ _ _ _ _ _ _ _ _ | exact num_nat_against.mono _ _ _ | exact num_nat_less.mono _ _ _ | exact num_nat_plus.mono _ _ _ | exact num_nat_tens.mono _ _ _ | exact num_nat_up.mono _ _ _ | exact LeO.refl _ | exact LeO.none _ | refine LeO.ite ?_ ?_ | refine LeO.bind ?_ (fun _ => ?_))
  ·
   intro y0 y1 y2 y3 y4 y5 y6 y7 y8 y9
   unfold num_shortest.j2
   repeat' (with_reducible first | exact ih0 _ _ _ _ _ _ _ | exact ih1 _ _ _ _ _ _ _ _ | exact ih2 _ _ _ _ _ _ _ _ _ _ | exact ih3 _ _ _ _ _ _ _ _ _ _ _ | exact ih4 _ _ _ _ _ _ _ _ _ _ _ | exact num_nat_against.mono _ _ _ | exact num_nat_less.mono _ _ _ | exact num_nat_plus.mono _ _ _ | exact num_nat_tens.mono _ _ _ | exact num_nat_up.mono _ _ _ | exact LeO.refl _ | exact LeO.none _ | refine LeO.ite ?_ ?_ | refine LeO.bind ?_ (fun _ => ?_))
  ·
   intro y0 y1 y2 y3 y4 y5 y6 y7 y8 y9 y10
   unfold num_shortest.j3
   repeat' (with_reducible first | exact ih0 _ _ _ _ _ _ _ | exact ih1 _ _ _ _ _ _ _ _ | exact ih2 _ _ _ _ _ _ _ _ _ _ | exact ih3 _ _ _ _ _ _ _ _ _ _ _ | exact ih4 _ _ _ _ _ _ _ _ _ _ _ | exact num_nat_against.mono _ _ _ | exact num_nat_less.mono _ _ _ | exact num_nat_plus.mono _ _ _ | exact num_nat_tens.mono _ _ _ | exact num_nat_up.mono _ _ _ | exact LeO.refl _ | exact LeO.none _ | refine LeO.ite ?_ ?_ | refine LeO.bind ?_ (fun _ => ?_))
  intro y0 y1 y2 y3 y4 y5 y6 y7 y8 y9 y10
  unfold num_shortest.j4
  repeat' (with_reducible first | exact ih0 _ _ _ _ _ _ _ | exact ih1 _ _ _ _ _ _ _ _ | exact ih2 _ _ _ _ _ _ _ _ _ _ | exact ih3 _ _ _ _ _ _ _ _ _ _ _ | exact ih4 _ _ _ _ _ _ _ _ _ _ _ | exact num_nat_against.mono _ _ _ | exact num_nat_less.mono _ _ _ | exact num_nat_plus.mono _ _ _ | exact num_nat_tens.mono _ _ _ | exact num_nat_up.mono _ _ _ | exact LeO.refl _ | exact LeO.none _ | refine LeO.ite ?_ ?_ | refine LeO.bind ?_ (fun _ => ?_))
theorem num_shortest.mono : ∀ a0 a1 a2 a3 a4 a5 k, LeO (num_shortest.f k a0 a1 a2 a3 a4 a5) (num_shortest.f (k + 1) a0 a1 a2 a3 a4 a5) := by
 intro a0 a1 a2 a3 a4 a5 k
 obtain ⟨ih0, ih1, ih2, ih3, ih4⟩ := num_shortest.mono_l k
 unfold num_shortest.f
 repeat' (with_reducible first | exact ih0 _ _ _ _ _ _ _ | exact ih1 _ _ _ _ _ _ _ _ | exact ih2 _ _ _ _ _ _ _ _ _ _ | exact ih3 _ _ _ _ _ _ _ _ _ _ _ | exact ih4 _ _ _ _ _ _ _ _ _ _ _ | exact num_nat_against.mono _ _ _ | exact num_nat_less.mono _ _ _ | exact num_nat_plus.mono _ _ _ | exact num_nat_tens.mono _ _ _ | exact num_nat_up.mono _ _ _ | exact LeO.refl _ | exact LeO.none _ | refine LeO.ite ?_ ?_ | refine LeO.bind ?_ (fun _ => ?_))
set_option maxHeartbeats 8000000 in
set_option maxRecDepth 100000 in
theorem num_shortest.calls (k : Nat) (P0_ : Nat → Prop) (A0 : Option Addr) (c0 : Nat) (l0 : List Int) (A1 : Option Addr) (c1 : Nat) (l1 : List Int) (P2_ : Nat → Prop) (A2 : Option Addr) (c2 : Nat) (l2 : List Int) (P3_ : Nat → Prop) (A3 : Option Addr) (c3 : Nat) (l3 : List Int) (a4 : Bool) (g : Nat) (s5_0 : Int) (r1 : List Int) (r2 : Int) (w0 w : World) (hI : IsS3 w0 w g s5_0) (hB : Below w0.heap.size w0 w) (hs0 : Kd.V (Kd.int .u32) 102 w w.heap.size (fun k_ => P0_ k_ ∧ k_ ≠ g) (.slice A0 l0.length c0) l0) (hr1 : Kd.C (Kd.int .u32) w A1 l1.length l1) (hc1 : l1.length ≤ c1) (hf1 : ∀ ad, A1 = some ad → 0 < l1.length → ad.block ≠ g) (hs2 : Kd.V (Kd.int .u32) 102 w w.heap.size (fun k_ => P2_ k_ ∧ k_ ≠ g) (.slice A2 l2.length c2) l2) (hs3 : Kd.V (Kd.int .u32) 102 w w.heap.size (fun k_ => P3_ k_ ∧ k_ ≠ g) (.slice A3 l3.length c3) l3) (h : num_shortest.f k l0 l1 l2 l3 a4 s5_0 = some (r1, r2)) :
  Calls Tryd.prog 53 #[.slice A0 l0.length c0, .slice A1 l1.length c1, .slice A2 l2.length c2, .slice A3 l3.length c3, .bool a4, .pointer (some ⟨g, 0, none⟩)] w fun e w' => ∃ v0_ : Value, e = .returned (v0_) ∧ Kd.R (Kd.int .u8) 5 w' w.heap.size (fun k_ => (w.heap.size ≤ k_)) v0_ r1 ∧ IsS3 w0 w' g r2 ∧ Below w0.heap.size w0 w' ∧ KeepBut w w' g none := by
 have HO0 := Aside0.mk (show Kd.V (Kd.int .u32) 102 w w.heap.size (fun k_ => ((P0_ k_ ∨ P2_ k_ ∨ P3_ k_) ∨ w.heap.size ≤ k_) ∧ k_ ≠ g) (.slice A0 l0.length c0) l0 from Kd.V_mono hs0 (fun k_ hk => ⟨.inl (.inl hk.1), hk.2⟩))
 have HR1 := Aside0.mk hr1
 have HC1 := Aside0.mk hc1
 clear hr1 hc1
 have HO2 := Aside0.mk (show Kd.V (Kd.int .u32) 102 w w.heap.size (fun k_ => ((P0_ k_ ∨ P2_ k_ ∨ P3_ k_) ∨ w.heap.size ≤ k_) ∧ k_ ≠ g) (.slice A2 l2.length c2) l2 from Kd.V_mono hs2 (fun k_ hk => ⟨.inl (.inr (.inl hk.1)), hk.2⟩))
 have HO3 := Aside0.mk (show Kd.V (Kd.int .u32) 102 w w.heap.size (fun k_ => ((P0_ k_ ∨ P2_ k_ ∨ P3_ k_) ∨ w.heap.size ≤ k_) ∧ k_ ≠ g) (.slice A3 l3.length c3) l3 from Kd.V_mono hs3 (fun k_ hk => ⟨.inl (.inr (.inr hk.1)), hk.2⟩))
 have HI5 := Aside0.mk hI
 have HK := Aside0.mk (KeepBut.refl w g none)
 have HL := Aside0.mk hB.size
 clear hI
 have HW0 := Aside0.mk hB.size
 have HB := Aside0.mk hB
 clear hB
 have H : (num_shortest.l0 k l0 l1 l2 l3 a4 ([] : List Int) s5_0) = some (r1, r2) := h
 clear h
 have H' := Aside0.mk H
 clear H
 go_enter Tryd.func53, Tryd.ntmps53
 go_wp2
 go_loopg [0, 2, 3, 13] k (fun kq v0 v2 v3 v13 w' => ∃ (x0_1 : List Int) (x2_1 : List Int) (x3_1 : List Int) (x13_1 : List Int) (x6000_1 : Int), Aside0 (num_shortest.l0 kq x0_1 l1 x2_1 x3_1 a4 x13_1 x6000_1 = some (r1, r2)) ∧ Aside0 (kq ≤ k) ∧ Aside0 (Kd.V (Kd.int .u32) 102 w' w.heap.size (fun k_ => ((P0_ k_ ∨ P2_ k_ ∨ P3_ k_) ∨ w.heap.size ≤ k_) ∧ some k_ ≠ (v13 : Value).ownBlock ∧ k_ ≠ g) v0 x0_1) ∧ Aside0 (Kd.V (Kd.int .u32) 102 w' w.heap.size (fun k_ => ((P0_ k_ ∨ P2_ k_ ∨ P3_ k_) ∨ w.heap.size ≤ k_) ∧ some k_ ≠ (v13 : Value).ownBlock ∧ k_ ≠ g) v2 x2_1) ∧ Aside0 (Kd.V (Kd.int .u32) 102 w' w.heap.size (fun k_ => ((P0_ k_ ∨ P2_ k_ ∨ P3_ k_) ∨ w.heap.size ≤ k_) ∧ some k_ ≠ (v13 : Value).ownBlock ∧ k_ ≠ g) v3 x3_1) ∧ Aside0 (Kd.R (Kd.int .u8) 5 w' w.heap.size (fun k_ => (w.heap.size ≤ k_)) v13 x13_1) ∧ Aside0 (IsS3 w0 w' g x6000_1) ∧ Aside0 (KeepBut w w' g none) ∧ Aside0 (Below w0.heap.size w0 w'))
 case atStart => exact ⟨(l0), (l2), (l3), (([] : List Int)), (s5_0), H', ⟨Nat.le_refl _⟩, ⟨by (with_reducible repeat (first | apply Kd.V_alloc | apply Kd.V_drewN | apply Kd.V_drew)); exact Kd.V_mono HO0.out (fun _ hk => ⟨hk.1, ⟨(by simp [Value.ownBlock]), hk.2⟩⟩)⟩, ⟨by (with_reducible repeat (first | apply Kd.V_alloc | apply Kd.V_drewN | apply Kd.V_drew)); exact Kd.V_mono HO2.out (fun _ hk => ⟨hk.1, ⟨(by simp [Value.ownBlock]), hk.2⟩⟩)⟩, ⟨by (with_reducible repeat (first | apply Kd.V_alloc | apply Kd.V_drewN | apply Kd.V_drew)); exact Kd.V_mono HO3.out (fun _ hk => ⟨hk.1, ⟨(by simp [Value.ownBlock]), hk.2⟩⟩)⟩, ⟨by first | exact Kd.R_nil _ _ _ _ _ | exact Kd.N_nil _ _ _ _ _ | exact Kd.V_nil _ _ _ _ _ | exact Kd.Q_nil _ _ _ _ _ | exact Kd.S_nil _ _ _ _ _⟩, ⟨ik HI5⟩, ⟨kk HK⟩, ⟨li HB HI5⟩⟩
 case round =>
  clear H'
  try clear c1
  try clear c2
  try clear p2
  try clear c3
  try clear c5
  obtain ⟨x0_1, x2_1, x3_1, x13_1, x6000_1, HA, HK1, HO_0, HO_2, HO_3, HO_13, HI5, HK, HB⟩ := hrel
  cases gk with
  | zero => exact absurd HA.out (by simp [num_shortest.l0])
  | succ k1 =>
   have H := HA.out
   clear HA
   simp only [num_shortest.l0] at H
   replace H := Option.bind_eq_some_iff.mp H
   obtain ⟨t180, A70, H⟩ := H
   replace H : ((num_nat_tens.f k1 x2_1 1).bind fun t183 => ((num_nat_tens.f k1 x3_1 1).bind fun t186 => (num_shortest.l1 k1 t180 l1 t183 t186 a4 x13_1 48 x6000_1))) = some (r1, r2) := H
   have A7 := Aside0.mk A70
   clear A70
   replace H := Option.bind_eq_some_iff.mp H
   obtain ⟨t183, A80, H⟩ := H
   replace H : ((num_nat_tens.f k1 x3_1 1).bind fun t186 => (num_shortest.l1 k1 t180 l1 t183 t186 a4 x13_1 48 x6000_1)) = some (r1, r2) := H
   have A8 := Aside0.mk A80
   clear A80
   replace H := Option.bind_eq_some_iff.mp H
   obtain ⟨t186, A90, H⟩ := H
   replace H : (num_shortest.l1 k1 t180 l1 t183 t186 a4 x13_1 48 x6000_1) = some (r1, r2) := H
   have A9 := Aside0.mk A90
   clear A90
   have H' := Aside0.mk H
   clear H
   obtain ⟨Ao10, co10, eo10⟩ := Kd.V_slice HO_0.out
   subst eo10
   go_wp2_with (first | ((with_reducible refine gate_callee (f := 52) rfl ?_); refine gL (some 21) Tryd.func52 #[.slice Ao10 x0_1.length co10, .int .i64 1] ?_; (with_reducible refine (num_nat_tens.calls k1 (fun k_ => (((P0_ k_ ∨ P2_ k_ ∨ P3_ k_) ∨ w.heap.size ≤ k_) ∧ (some k_ ≠ (u13 : Value).ownBlock ∧ k_ ≠ g))) _ _ x0_1 1 t180 _ ?side1 A7.out).mono ?_); (case side1 => exact HO_0.out); rintro e w11 ⟨v181, rfl, ho0, hb⟩; refine ⟨_, rfl, ?_⟩; replace HO_0 := vb HO_0 hb; replace HO_2 := vb HO_2 hb; replace HO_3 := vb HO_3 hb; have HO182 := Aside0.mk (Kd.V_lower (Kd.V_mono (ok' := fun k_ => ((P0_ k_ ∨ P2_ k_ ∨ P3_ k_) ∨ w.heap.size ≤ k_) ∧ some k_ ≠ (u13 : Value).ownBlock ∧ k_ ≠ g) ho0 (fun k_ hk_ => ⟨Or.elim hk_ (fun hs_ => hs_.1) (fun hn_ => (.inr (Nat.le_trans (keep_size (kk HK)) hn_))), Or.elim hk_ (fun hs_ => hs_.2.1) (fun hn_ => (Kd.fresh' (Kd.R_lt (rk HO_13)) k_ hn_)), Or.elim hk_ (fun hs_ => hs_.2.2) (fun hn_ => (IsS3.fresh (ik HI5) k_ hn_))⟩)) (keep_size (kk HK))); replace HO_13 := Aside0.mk (Kd.R_below (rk HO_13) hb); replace HK := Aside0.mk (KeepBut.trans (kk HK) (KeepBut.of_below hb g none) (.inl rfl)); replace HB := Aside0.mk (below_step (li HB HI5) hb); replace HI5 := Aside0.mk (IsS3.below (ik HI5) hb); (try clear hb); (try clear hb2); (try clear hk); (try clear hi); (try clear ho0); obtain ⟨Ao12, co12, eo12⟩ := Kd.V_slice HO_2.out; subst eo12) | ((with_reducible refine gate_callee (f := 52) rfl ?_); refine gL (some 23) Tryd.func52 #[.slice Ao12 x2_1.length co12, .int .i64 1] ?_; (with_reducible refine (num_nat_tens.calls k1 (fun k_ => (((P0_ k_ ∨ P2_ k_ ∨ P3_ k_) ∨ w.heap.size ≤ k_) ∧ (some k_ ≠ (u13 : Value).ownBlock ∧ k_ ≠ g))) _ _ x2_1 1 t183 _ ?side1 A8.out).mono ?_); (case side1 => exact HO_2.out); rintro e w13 ⟨v184, rfl, ho0, hb⟩; refine ⟨_, rfl, ?_⟩; replace HO_0 := vb HO_0 hb; replace HO_2 := vb HO_2 hb; replace HO_3 := vb HO_3 hb; replace HO182 := vb HO182 hb; have HO185 := Aside0.mk (Kd.V_lower (Kd.V_mono (ok' := fun k_ => ((P0_ k_ ∨ P2_ k_ ∨ P3_ k_) ∨ w.heap.size ≤ k_) ∧ some k_ ≠ (u13 : Value).ownBlock ∧ k_ ≠ g) ho0 (fun k_ hk_ => ⟨Or.elim hk_ (fun hs_ => hs_.1) (fun hn_ => (.inr (Nat.le_trans (keep_size (kk HK)) hn_))), Or.elim hk_ (fun hs_ => hs_.2.1) (fun hn_ => (Kd.fresh' (Kd.R_lt (rk HO_13)) k_ hn_)), Or.elim hk_ (fun hs_ => hs_.2.2) (fun hn_ => (IsS3.fresh (ik HI5) k_ hn_))⟩)) (keep_size (kk HK))); replace HO_13 := Aside0.mk (Kd.R_below (rk HO_13) hb); replace HK := Aside0.mk (KeepBut.trans (kk HK) (KeepBut.of_below hb g none) (.inl rfl)); replace HB := Aside0.mk (below_step (li HB HI5) hb); replace HI5 := Aside0.mk (IsS3.below (ik HI5) hb); (try clear hb); (try clear hb2); (try clear hk); (try clear hi); (try clear ho0); obtain ⟨Ao14, co14, eo14⟩ := Kd.V_slice HO_3.out; subst eo14) | ((with_reducible refine gate_callee (f := 52) rfl ?_); refine gL (some 25) Tryd.func52 #[.slice Ao14 x3_1.length co14, .int .i64 1] ?_; (with_reducible refine (num_nat_tens.calls k1 (fun k_ => (((P0_ k_ ∨ P2_ k_ ∨ P3_ k_) ∨ w.heap.size ≤ k_) ∧ (some k_ ≠ (u13 : Value).ownBlock ∧ k_ ≠ g))) _ _ x3_1 1 t186 _ ?side1 A9.out).mono ?_); (case side1 => exact HO_3.out); rintro e w15 ⟨v187, rfl, ho0, hb⟩; refine ⟨_, rfl, ?_⟩; replace HO_0 := vb HO_0 hb; replace HO_2 := vb HO_2 hb; replace HO_3 := vb HO_3 hb; replace HO182 := vb HO182 hb; replace HO185 := vb HO185 hb; have HO188 := Aside0.mk (Kd.V_lower (Kd.V_mono (ok' := fun k_ => ((P0_ k_ ∨ P2_ k_ ∨ P3_ k_) ∨ w.heap.size ≤ k_) ∧ some k_ ≠ (u13 : Value).ownBlock ∧ k_ ≠ g) ho0 (fun k_ hk_ => ⟨Or.elim hk_ (fun hs_ => hs_.1) (fun hn_ => (.inr (Nat.le_trans (keep_size (kk HK)) hn_))), Or.elim hk_ (fun hs_ => hs_.2.1) (fun hn_ => (Kd.fresh' (Kd.R_lt (rk HO_13)) k_ hn_)), Or.elim hk_ (fun hs_ => hs_.2.2) (fun hn_ => (IsS3.fresh (ik HI5) k_ hn_))⟩)) (keep_size (kk HK))); replace HO_13 := Aside0.mk (Kd.R_below (rk HO_13) hb); replace HK := Aside0.mk (KeepBut.trans (kk HK) (KeepBut.of_below hb g none) (.inl rfl)); replace HB := Aside0.mk (below_step (li HB HI5) hb); replace HI5 := Aside0.mk (IsS3.below (ik HI5) hb); (try clear hb); (try clear hb2); (try clear hk); (try clear hi); (try clear ho0)))
   go_loopg [0, 14] k1 (fun kq v0 v14 w' => ∃ (x0_2 : List Int) (x14_2 : Int), v14 = .int .u8 x14_2 ∧ Aside0 (num_shortest.l1 kq x0_2 l1 t183 t186 a4 x13_1 x14_2 x6000_1 = some (r1, r2)) ∧ Aside0 (kq ≤ k1) ∧ Aside0 (Kd.V (Kd.int .u32) 102 w' w.heap.size (fun k_ => ((P0_ k_ ∨ P2_ k_ ∨ P3_ k_) ∨ w.heap.size ≤ k_) ∧ some k_ ≠ (u13 : Value).ownBlock ∧ k_ ≠ g) v0 x0_2) ∧ Aside0 (Kd.V (Kd.int .u32) 102 w' w.heap.size (fun k_ => ((P0_ k_ ∨ P2_ k_ ∨ P3_ k_) ∨ w.heap.size ≤ k_) ∧ some k_ ≠ (u13 : Value).ownBlock ∧ k_ ≠ g) v184 t183) ∧ Aside0 (Kd.V (Kd.int .u32) 102 w' w.heap.size (fun k_ => ((P0_ k_ ∨ P2_ k_ ∨ P3_ k_) ∨ w.heap.size ≤ k_) ∧ some k_ ≠ (u13 : Value).ownBlock ∧ k_ ≠ g) v187 t186) ∧ Aside0 (Kd.R (Kd.int .u8) 5 w' w.heap.size (fun k_ => (w.heap.size ≤ k_)) u13 x13_1) ∧ Aside0 (IsS3 w0 w' g x6000_1) ∧ Aside0 (KeepBut w w' g none) ∧ Aside0 (Below w0.heap.size w0 w'))
   case atStart => exact ⟨(t180), (48), (by first | rfl | (simp; done) | (simp [*]; done)), H', ⟨Nat.le_refl _⟩, ⟨vk HO182⟩, ⟨vk HO185⟩, ⟨vk HO188⟩, ⟨rk HO_13⟩, ⟨ik HI5⟩, ⟨kk HK⟩, ⟨li HB HI5⟩⟩
   case round =>
    clear H'
    try clear c1
    try clear c2
    try clear p2
    try clear c3
    try clear c5
    try clear p2
    obtain ⟨x0_2, x14_2, rfl, HA, HK2, HO_0, HO_2, HO_3, HO_13, HI5, HK, HB⟩ := hrel
    cases gk with
    | zero => exact absurd HA.out (by simp [num_shortest.l1])
    | succ k2 =>
     have H := HA.out
     clear HA
     simp only [num_shortest.l1] at H
     replace H := Option.bind_eq_some_iff.mp H
     obtain ⟨t189, A160, H⟩ := H
     replace H : (if t189 ≥ 0 then ((num_nat_less.f k2 x0_2 l1).bind fun t190 => (num_shortest.l1 k2 t190 l1 t183 t186 a4 x13_1 ((x14_2 + 1) % 256) x6000_1)) else ((num_nat_against.f k2 x0_2 t183).bind fun t193 => ((num_nat_plus.f k2 x0_2 t186).bind fun t194 => ((num_nat_against.f k2 t194 l1).bind fun t197 => (if t193 < 0 then (if t197 > 0 then (num_shortest.j2 k2 x0_2 l1 t183 t186 a4 x13_1 x14_2 true true x6000_1) else (if t197 = 0 then (num_shortest.j2 k2 x0_2 l1 t183 t186 a4 x13_1 x14_2 true a4 x6000_1) else (num_shortest.j2 k2 x0_2 l1 t183 t186 a4 x13_1 x14_2 true false x6000_1))) else (if t193 = 0 then (if t197 > 0 then (num_shortest.j2 k2 x0_2 l1 t183 t186 a4 x13_1 x14_2 a4 true x6000_1) else (if t197 = 0 then (num_shortest.j2 k2 x0_2 l1 t183 t186 a4 x13_1 x14_2 a4 a4 x6000_1) else (num_shortest.j2 k2 x0_2 l1 t183 t186 a4 x13_1 x14_2 a4 false x6000_1))) else (if t197 > 0 then (num_shortest.j2 k2 x0_2 l1 t183 t186 a4 x13_1 x14_2 false true x6000_1) else (if t197 = 0 then (num_shortest.j2 k2 x0_2 l1 t183 t186 a4 x13_1 x14_2 false a4 x6000_1) else (num_shortest.j2 k2 x0_2 l1 t183 t186 a4 x13_1 x14_2 false false x6000_1))))))))) = some (r1, r2) := H
     have A16 := Aside0.mk A160
     clear A160
     by_cases c17 : t189 ≥ 0
     ·
      rw [if_pos c17] at H
      have c17b0 : decide (0 ≤ t189) = true := decide_eq_true c17
      clear c17
      replace H := Option.bind_eq_some_iff.mp H
      obtain ⟨t190, A180, H⟩ := H
      replace H : (num_shortest.l1 k2 t190 l1 t183 t186 a4 x13_1 ((x14_2 + 1) % 256) x6000_1) = some (r1, r2) := H
      have A18 := Aside0.mk A180
      clear A180
      have H' := Aside0.mk H
      clear H
      obtain ⟨Ao19, co19, eo19⟩ := Kd.V_slice HO_0.out
      subst eo19
      go_wp2_with (first | ((with_reducible refine gate_callee (f := 49) rfl ?_); refine gL (some 28) Tryd.func49 #[.slice Ao19 x0_2.length co19, .slice A1 l1.length c1] ?_; (with_reducible refine (num_nat_against.calls k2 _ _ x0_2 _ _ l1 t189 _ ?side1 ?side2 ?side3 ?side4 A16.out).mono ?_); (case side1 => exact ck (Kd.V_reads' HO_0.out).2.2); (case side2 => exact (Kd.V_reads' HO_0.out).2.1); (case side3 => exact Kd.C_keep 0 HR1.out (kk HK) hf1); (case side4 => exact HC1.out); rintro e w' ⟨rfl, ⟨nd, rfl⟩⟩; refine ⟨_, rfl, ?_⟩) | ((with_reducible refine gate_callee (f := 87) rfl ?_); refine gL (some 32) Tryd.func87 #[.slice Ao19 x0_2.length co19, .slice A1 l1.length c1] ?_; (with_reducible refine (num_nat_less.calls k2 _ _ x0_2 _ _ l1 t190 _ ?side1 ?side2 ?side3 ?side4 A18.out).mono ?_); (case side1 => exact ck (Kd.V_reads' HO_0.out).2.2); (case side2 => exact (Kd.V_reads' HO_0.out).2.1); (case side3 => exact Kd.C_keep 0 HR1.out (kk HK) hf1); (case side4 => exact HC1.out); rintro e w20 ⟨v191, rfl, ho0, hb⟩; refine ⟨_, rfl, ?_⟩; replace HO_0 := vb HO_0 hb; replace HO_2 := vb HO_2 hb; replace HO_3 := vb HO_3 hb; have HO192 := Aside0.mk (Kd.V_lower (Kd.V_mono (ok' := fun k_ => ((P0_ k_ ∨ P2_ k_ ∨ P3_ k_) ∨ w.heap.size ≤ k_) ∧ some k_ ≠ (u13 : Value).ownBlock ∧ k_ ≠ g) ho0 (fun k_ hk_ => ⟨(.inr (Nat.le_trans (keep_size (kk HK)) hk_)), (Kd.fresh' (Kd.R_lt (rk HO_13)) k_ hk_), (IsS3.fresh (ik HI5) k_ hk_)⟩)) (keep_size (kk HK))); replace HO_13 := Aside0.mk (Kd.R_below (rk HO_13) hb); replace HK := Aside0.mk (KeepBut.trans (kk HK) (KeepBut.of_below hb g none) (.inl rfl)); replace HB := Aside0.mk (below_step (li HB HI5) hb); replace HI5 := Aside0.mk (IsS3.below (ik HI5) hb); (try clear hb); (try clear hb2); (try clear hk); (try clear hi); (try clear ho0)))
      go_roundg k2
      case measure => have := HK1.out; have := HK2.out; omega
      case rel => exact ⟨(t190), ((x14_2 + 1) % 256), (by first | rfl | (simp; done) | (simp [*]; done)), H', ⟨by have := HK1.out; have := HK2.out; omega⟩, ⟨vk HO192⟩, ⟨vk HO_2⟩, ⟨vk HO_3⟩, ⟨rk HO_13⟩, ⟨ik HI5⟩, ⟨kk HK⟩, ⟨li HB HI5⟩⟩
     rw [if_neg c17] at H
     have c17b0 : decide (0 ≤ t189) = false := decide_eq_false c17
     clear c17
     replace H := Option.bind_eq_some_iff.mp H
     obtain ⟨t193, A210, H⟩ := H
     replace H : ((num_nat_plus.f k2 x0_2 t186).bind fun t194 => ((num_nat_against.f k2 t194 l1).bind fun t197 => (if t193 < 0 then (if t197 > 0 then (num_shortest.j2 k2 x0_2 l1 t183 t186 a4 x13_1 x14_2 true true x6000_1) else (if t197 = 0 then (num_shortest.j2 k2 x0_2 l1 t183 t186 a4 x13_1 x14_2 true a4 x6000_1) else (num_shortest.j2 k2 x0_2 l1 t183 t186 a4 x13_1 x14_2 true false x6000_1))) else (if t193 = 0 then (if t197 > 0 then (num_shortest.j2 k2 x0_2 l1 t183 t186 a4 x13_1 x14_2 a4 true x6000_1) else (if t197 = 0 then (num_shortest.j2 k2 x0_2 l1 t183 t186 a4 x13_1 x14_2 a4 a4 x6000_1) else (num_shortest.j2 k2 x0_2 l1 t183 t186 a4 x13_1 x14_2 a4 false x6000_1))) else (if t197 > 0 then (num_shortest.j2 k2 x0_2 l1 t183 t186 a4 x13_1 x14_2 false true x6000_1) else (if t197 = 0 then (num_shortest.j2 k2 x0_2 l1 t183 t186 a4 x13_1 x14_2 false a4 x6000_1) else (num_shortest.j2 k2 x0_2 l1 t183 t186 a4 x13_1 x14_2 false false x6000_1))))))) = some (r1, r2) := H
     have A21 := Aside0.mk A210
     clear A210
     replace H := Option.bind_eq_some_iff.mp H
     obtain ⟨t194, A220, H⟩ := H
     replace H : ((num_nat_against.f k2 t194 l1).bind fun t197 => (if t193 < 0 then (if t197 > 0 then (num_shortest.j2 k2 x0_2 l1 t183 t186 a4 x13_1 x14_2 true true x6000_1) else (if t197 = 0 then (num_shortest.j2 k2 x0_2 l1 t183 t186 a4 x13_1 x14_2 true a4 x6000_1) else (num_shortest.j2 k2 x0_2 l1 t183 t186 a4 x13_1 x14_2 true false x6000_1))) else (if t193 = 0 then (if t197 > 0 then (num_shortest.j2 k2 x0_2 l1 t183 t186 a4 x13_1 x14_2 a4 true x6000_1) else (if t197 = 0 then (num_shortest.j2 k2 x0_2 l1 t183 t186 a4 x13_1 x14_2 a4 a4 x6000_1) else (num_shortest.j2 k2 x0_2 l1 t183 t186 a4 x13_1 x14_2 a4 false x6000_1))) else (if t197 > 0 then (num_shortest.j2 k2 x0_2 l1 t183 t186 a4 x13_1 x14_2 false true x6000_1) else (if t197 = 0 then (num_shortest.j2 k2 x0_2 l1 t183 t186 a4 x13_1 x14_2 false a4 x6000_1) else (num_shortest.j2 k2 x0_2 l1 t183 t186 a4 x13_1 x14_2 false false x6000_1)))))) = some (r1, r2) := H
     have A22 := Aside0.mk A220
     clear A220
     replace H := Option.bind_eq_some_iff.mp H
     obtain ⟨t197, A230, H⟩ := H
     replace H : (if t193 < 0 then (if t197 > 0 then (num_shortest.j2 k2 x0_2 l1 t183 t186 a4 x13_1 x14_2 true true x6000_1) else (if t197 = 0 then (num_shortest.j2 k2 x0_2 l1 t183 t186 a4 x13_1 x14_2 true a4 x6000_1) else (num_shortest.j2 k2 x0_2 l1 t183 t186 a4 x13_1 x14_2 true false x6000_1))) else (if t193 = 0 then (if t197 > 0 then (num_shortest.j2 k2 x0_2 l1 t183 t186 a4 x13_1 x14_2 a4 true x6000_1) else (if t197 = 0 then (num_shortest.j2 k2 x0_2 l1 t183 t186 a4 x13_1 x14_2 a4 a4 x6000_1) else (num_shortest.j2 k2 x0_2 l1 t183 t186 a4 x13_1 x14_2 a4 false x6000_1))) else (if t197 > 0 then (num_shortest.j2 k2 x0_2 l1 t183 t186 a4 x13_1 x14_2 false true x6000_1) else (if t197 = 0 then (num_shortest.j2 k2 x0_2 l1 t183 t186 a4 x13_1 x14_2 false a4 x6000_1) else (num_shortest.j2 k2 x0_2 l1 t183 t186 a4 x13_1 x14_2 false false x6000_1))))) = some (r1, r2) := H
     have A23 := Aside0.mk A230
     clear A230
     have HC24 := Aside0.mk H
     clear H
     obtain ⟨Ao25, co25, eo25⟩ := Kd.V_slice HO_0.out
     subst eo25
     go_upto_region 8 with (first | ((with_reducible refine gate_callee (f := 49) rfl ?_); refine gL (some 28) Tryd.func49 #[.slice Ao25 x0_2.length co25, .slice A1 l1.length c1] ?_; (with_reducible refine (num_nat_against.calls k2 _ _ x0_2 _ _ l1 t189 _ ?side1 ?side2 ?side3 ?side4 A16.out).mono ?_); (case side1 => exact ck (Kd.V_reads' HO_0.out).2.2); (case side2 => exact (Kd.V_reads' HO_0.out).2.1); (case side3 => exact Kd.C_keep 0 HR1.out (kk HK) hf1); (case side4 => exact HC1.out); rintro e w' ⟨rfl, ⟨nd, rfl⟩⟩; refine ⟨_, rfl, ?_⟩; obtain ⟨Ao26, co26, eo26⟩ := Kd.V_slice HO_2.out; subst eo26) | ((with_reducible refine gate_callee (f := 49) rfl ?_); refine gL (some 37) Tryd.func49 #[.slice Ao25 x0_2.length co25, .slice Ao26 t183.length co26] ?_; (with_reducible refine (num_nat_against.calls k2 _ _ x0_2 _ _ t183 t193 _ ?side1 ?side2 ?side3 ?side4 A21.out).mono ?_); (case side1 => exact ck (Kd.V_reads' HO_0.out).2.2); (case side2 => exact (Kd.V_reads' HO_0.out).2.1); (case side3 => exact ck (Kd.V_reads' HO_2.out).2.2); (case side4 => exact (Kd.V_reads' HO_2.out).2.1); rintro e w' ⟨rfl, ⟨nd, rfl⟩⟩; refine ⟨_, rfl, ?_⟩; obtain ⟨Ao27, co27, eo27⟩ := Kd.V_slice HO_3.out; subst eo27) | ((with_reducible refine gate_callee (f := 48) rfl ?_); refine gL (some 40) Tryd.func48 #[.slice Ao25 x0_2.length co25, .slice Ao27 t186.length co27] ?_; (with_reducible refine (num_nat_plus.calls k2 _ _ x0_2 _ _ t186 t194 _ ?side1 ?side2 ?side3 ?side4 A22.out).mono ?_); (case side1 => exact ck (Kd.V_reads' HO_0.out).2.2); (case side2 => exact (Kd.V_reads' HO_0.out).2.1); (case side3 => exact ck (Kd.V_reads' HO_3.out).2.2); (case side4 => exact (Kd.V_reads' HO_3.out).2.1); rintro e w28 ⟨v195, rfl, ho0, hb⟩; refine ⟨_, rfl, ?_⟩; replace HO_0 := vb HO_0 hb; replace HO_2 := vb HO_2 hb; replace HO_3 := vb HO_3 hb; have HO196 := Aside0.mk (Kd.V_lower (Kd.V_mono (ok' := fun k_ => ((P0_ k_ ∨ P2_ k_ ∨ P3_ k_) ∨ w.heap.size ≤ k_) ∧ some k_ ≠ (u13 : Value).ownBlock ∧ k_ ≠ g) ho0 (fun k_ hk_ => ⟨(.inr (Nat.le_trans (keep_size (kk HK)) hk_)), (Kd.fresh' (Kd.R_lt (rk HO_13)) k_ hk_), (IsS3.fresh (ik HI5) k_ hk_)⟩)) (keep_size (kk HK))); replace HO_13 := Aside0.mk (Kd.R_below (rk HO_13) hb); replace HK := Aside0.mk (KeepBut.trans (kk HK) (KeepBut.of_below hb g none) (.inl rfl)); replace HB := Aside0.mk (below_step (li HB HI5) hb); replace HI5 := Aside0.mk (IsS3.below (ik HI5) hb); (try clear hb); (try clear hb2); (try clear hk); (try clear hi); (try clear ho0); obtain ⟨Ao29, co29, eo29⟩ := Kd.V_slice HO196.out; subst eo29) | ((with_reducible refine gate_callee (f := 49) rfl ?_); refine gL (some 42) Tryd.func49 #[.slice Ao29 t194.length co29, .slice A1 l1.length c1] ?_; (with_reducible refine (num_nat_against.calls k2 _ _ t194 _ _ l1 t197 _ ?side1 ?side2 ?side3 ?side4 A23.out).mono ?_); (case side1 => exact ck (Kd.V_reads' HO196.out).2.2); (case side2 => exact (Kd.V_reads' HO196.out).2.1); (case side3 => exact Kd.C_keep 0 HR1.out (kk HK) hf1); (case side4 => exact HC1.out); rintro e w' ⟨rfl, ⟨nd, rfl⟩⟩; refine ⟨_, rfl, ?_⟩))
     (try simp only [Act.put, List.setIfInBounds_toArray, List.set_cons_zero, List.set_cons_succ])
     go_cut [17, 18] (fun v17 v18 wc => ∃ (kq : Nat) (x17_23 : Bool) (x18_23 : Bool), v17 = .bool x17_23 ∧ v18 = .bool x18_23 ∧ Aside0 (num_shortest.j2 kq x0_2 l1 t183 t186 a4 x13_1 x14_2 x17_23 x18_23 x6000_1 = some (r1, r2)) ∧ Aside0 (kq ≤ k2) ∧ Aside0 (Kd.V (Kd.int .u32) 102 wc w.heap.size (fun k_ => ((P0_ k_ ∨ P2_ k_ ∨ P3_ k_) ∨ w.heap.size ≤ k_) ∧ some k_ ≠ (u13 : Value).ownBlock ∧ k_ ≠ g) (.slice Ao25 x0_2.length co25) x0_2) ∧ Aside0 (Kd.V (Kd.int .u32) 102 wc w.heap.size (fun k_ => ((P0_ k_ ∨ P2_ k_ ∨ P3_ k_) ∨ w.heap.size ≤ k_) ∧ some k_ ≠ (u13 : Value).ownBlock ∧ k_ ≠ g) (.slice Ao26 t183.length co26) t183) ∧ Aside0 (Kd.V (Kd.int .u32) 102 wc w.heap.size (fun k_ => ((P0_ k_ ∨ P2_ k_ ∨ P3_ k_) ∨ w.heap.size ≤ k_) ∧ some k_ ≠ (u13 : Value).ownBlock ∧ k_ ≠ g) (.slice Ao27 t186.length co27) t186) ∧ Aside0 (Kd.R (Kd.int .u8) 5 wc w.heap.size (fun k_ => (w.heap.size ≤ k_)) u13 x13_1) ∧ Aside0 (IsS3 w0 wc g x6000_1) ∧ Aside0 (KeepBut w wc g none) ∧ Aside0 (Below w0.heap.size w0 wc))
     case first =>
      have H := HC24.out
      clear HC24
      by_cases c30 : t193 < 0
      ·
       rw [if_pos c30] at H
       have c30b0 : decide (t193 < 0) = true := decide_eq_true c30
       clear c30
       (first | rw [c30b0] | (simp only [i64_w, i32_w]; rw [c30b0]) | skip)
       by_cases c31 : t197 > 0
       ·
        rw [if_pos c31] at H
        have c31b0 : decide (0 < t197) = true := decide_eq_true c31
        clear c31
        have H' := Aside0.mk H
        clear H
        go_wp2
        go_meet
        case rel => exact ⟨_, (true), (true), (by first | rfl | (simp; done) | (simp [*]; done)), (by first | rfl | (simp; done) | (simp [*]; done)), H', ⟨by have := HK1.out; have := HK2.out; first | omega | exact Nat.le_refl _⟩, ⟨vk HO_0⟩, ⟨vk HO_2⟩, ⟨vk HO_3⟩, ⟨rk HO_13⟩, ⟨ik HI5⟩, ⟨kk HK⟩, ⟨li HB HI5⟩⟩
       rw [if_neg c31] at H
       have c31b0 : decide (0 < t197) = false := decide_eq_false c31
       clear c31
       by_cases c32 : t197 = 0
       ·
        rw [if_pos c32] at H
        have c32b0 : (t197 == 0) = true := beq_iff_eq.mpr c32
        have c32b1 : (t197 != 0) = false := bne_eq_false_iff_eq.mpr c32
        clear c32
        have H' := Aside0.mk H
        clear H
        go_wp2
        go_meet
        case rel => exact ⟨_, (true), (a4), (by first | rfl | (simp; done) | (simp [*]; done)), (by first | rfl | (simp; done) | (simp [*]; done)), H', ⟨by have := HK1.out; have := HK2.out; first | omega | exact Nat.le_refl _⟩, ⟨vk HO_0⟩, ⟨vk HO_2⟩, ⟨vk HO_3⟩, ⟨rk HO_13⟩, ⟨ik HI5⟩, ⟨kk HK⟩, ⟨li HB HI5⟩⟩
       rw [if_neg c32] at H
       have c32b0 : (t197 == 0) = false := beq_eq_false_iff_ne.mpr c32
       have c32b1 : (t197 != 0) = true := bne_iff_ne.mpr c32
       have H' := Aside0.mk H
       clear H
       go_wp2
       go_meet
       case rel => exact ⟨_, (true), (false), (by first | rfl | (simp; done) | (simp [*]; done)), (by first | rfl | (simp; done) | (simp [*]; done)), H', ⟨by have := HK1.out; have := HK2.out; first | omega | exact Nat.le_refl _⟩, ⟨vk HO_0⟩, ⟨vk HO_2⟩, ⟨vk HO_3⟩, ⟨rk HO_13⟩, ⟨ik HI5⟩, ⟨kk HK⟩, ⟨li HB HI5⟩⟩
      rw [if_neg c30] at H
      have c30b0 : decide (t193 < 0) = false := decide_eq_false c30
      clear c30
      (first | rw [c30b0] | (simp only [i64_w, i32_w]; rw [c30b0]) | skip)
      by_cases c33 : t193 = 0
      ·
       rw [if_pos c33] at H
       have c33b0 : (t193 == 0) = true := beq_iff_eq.mpr c33
       have c33b1 : (t193 != 0) = false := bne_eq_false_iff_eq.mpr c33
       clear c33
       by_cases c34 : t197 > 0
       ·
        rw [if_pos c34] at H
        have c34b0 : decide (0 < t197) = true := decide_eq_true c34
        clear c34
        have H' := Aside0.mk H
        clear H
        go_wp2
        go_meet
        case rel => exact ⟨_, (a4), (true), (by first | rfl | (simp; done) | (simp [*]; done)), (by first | rfl | (simp; done) | (simp [*]; done)), H', ⟨by have := HK1.out; have := HK2.out; first | omega | exact Nat.le_refl _⟩, ⟨vk HO_0⟩, ⟨vk HO_2⟩, ⟨vk HO_3⟩, ⟨rk HO_13⟩, ⟨ik HI5⟩, ⟨kk HK⟩, ⟨li HB HI5⟩⟩
       rw [if_neg c34] at H
       have c34b0 : decide (0 < t197) = false := decide_eq_false c34
       clear c34
       by_cases c35 : t197 = 0
       ·
        rw [if_pos c35] at H
        have c35b0 : (t197 == 0) = true := beq_iff_eq.mpr c35
        have c35b1 : (t197 != 0) = false := bne_eq_false_iff_eq.mpr c35
        clear c35
        have H' := Aside0.mk H
        clear H
        go_wp2
        go_meet
        case rel => exact ⟨_, (a4), (a4), (by first | rfl | (simp; done) | (simp [*]; done)), (by first | rfl | (simp; done) | (simp [*]; done)), H', ⟨by have := HK1.out; have := HK2.out; first | omega | exact Nat.le_refl _⟩, ⟨vk HO_0⟩, ⟨vk HO_2⟩, ⟨vk HO_3⟩, ⟨rk HO_13⟩, ⟨ik HI5⟩, ⟨kk HK⟩, ⟨li HB HI5⟩⟩
       rw [if_neg c35] at H
       have c35b0 : (t197 == 0) = false := beq_eq_false_iff_ne.mpr c35
       have c35b1 : (t197 != 0) = true := bne_iff_ne.mpr c35
       have H' := Aside0.mk H
       clear H
       go_wp2
       go_meet
       case rel => exact ⟨_, (a4), (false), (by first | rfl | (simp; done) | (simp [*]; done)), (by first | rfl | (simp; done) | (simp [*]; done)), H', ⟨by have := HK1.out; have := HK2.out; first | omega | exact Nat.le_refl _⟩, ⟨vk HO_0⟩, ⟨vk HO_2⟩, ⟨vk HO_3⟩, ⟨rk HO_13⟩, ⟨ik HI5⟩, ⟨kk HK⟩, ⟨li HB HI5⟩⟩
      rw [if_neg c33] at H
      have c33b0 : (t193 == 0) = false := beq_eq_false_iff_ne.mpr c33
      have c33b1 : (t193 != 0) = true := bne_iff_ne.mpr c33
      by_cases c36 : t197 > 0
      ·
       rw [if_pos c36] at H
       have c36b0 : decide (0 < t197) = true := decide_eq_true c36
       clear c36
       have H' := Aside0.mk H
       clear H
       go_wp2
       go_meet
       case rel => exact ⟨_, (false), (true), (by first | rfl | (simp; done) | (simp [*]; done)), (by first | rfl | (simp; done) | (simp [*]; done)), H', ⟨by have := HK1.out; have := HK2.out; first | omega | exact Nat.le_refl _⟩, ⟨vk HO_0⟩, ⟨vk HO_2⟩, ⟨vk HO_3⟩, ⟨rk HO_13⟩, ⟨ik HI5⟩, ⟨kk HK⟩, ⟨li HB HI5⟩⟩
      rw [if_neg c36] at H
      have c36b0 : decide (0 < t197) = false := decide_eq_false c36
      clear c36
      by_cases c37 : t197 = 0
      ·
       rw [if_pos c37] at H
       have c37b0 : (t197 == 0) = true := beq_iff_eq.mpr c37
       have c37b1 : (t197 != 0) = false := bne_eq_false_iff_eq.mpr c37
       clear c37
       have H' := Aside0.mk H
       clear H
       go_wp2
       go_meet
       case rel => exact ⟨_, (false), (a4), (by first | rfl | (simp; done) | (simp [*]; done)), (by first | rfl | (simp; done) | (simp [*]; done)), H', ⟨by have := HK1.out; have := HK2.out; first | omega | exact Nat.le_refl _⟩, ⟨vk HO_0⟩, ⟨vk HO_2⟩, ⟨vk HO_3⟩, ⟨rk HO_13⟩, ⟨ik HI5⟩, ⟨kk HK⟩, ⟨li HB HI5⟩⟩
      rw [if_neg c37] at H
      have c37b0 : (t197 == 0) = false := beq_eq_false_iff_ne.mpr c37
      have c37b1 : (t197 != 0) = true := bne_iff_ne.mpr c37
      have H' := Aside0.mk H
      clear H
      go_wp2
      go_meet
      case rel => exact ⟨_, (false), (false), (by first | rfl | (simp; done) | (simp [*]; done)), (by first | rfl | (simp; done) | (simp [*]; done)), H', ⟨by have := HK1.out; have := HK2.out; first | omega | exact Nat.le_refl _⟩, ⟨vk HO_0⟩, ⟨vk HO_2⟩, ⟨vk HO_3⟩, ⟨rk HO_13⟩, ⟨ik HI5⟩, ⟨kk HK⟩, ⟨li HB HI5⟩⟩
     case rest =>
      clear HC24
      try clear c1
      try clear c2
      try clear p2
      try clear c3
      try clear c4
      try clear c5
      try clear c8
      try clear c17
      try clear c17b0
      try clear c30
      try clear c30b0
      try clear c31
      try clear c31b0
      try clear c32
      try clear c32b0
      try clear c32b1
      try clear c33
      try clear c33b0
      try clear c33b1
      try clear c34
      try clear c34b0
      try clear c35
      try clear c35b0
      try clear c35b1
      try clear c36
      try clear c36b0
      try clear c37
      try clear c37b0
      try clear c37b1
      try clear p2
      obtain ⟨kq, x17_23, x18_23, rfl, rfl, HA, HJ23, HO_0, HO_2, HO_3, HO_13, HI5, HK, HB⟩ := hcut
      cases kq with
      | zero => exact absurd HA.out (by simp [num_shortest.j2])
      | succ kj23 =>
       have H := HA.out
       clear HA
       simp only [num_shortest.j2] at H
       have HC38 := Aside0.mk H
       clear H
       go_upto_region 9 with (fail)
       go_cut [71] (fun v71 wc => ∃ (kq : Nat) (x71_37 : Bool), v71 = .bool x71_37 ∧ Aside0 (num_shortest.j3 kq x0_2 l1 t183 t186 a4 x13_1 x14_2 x17_23 x18_23 x71_37 x6000_1 = some (r1, r2)) ∧ Aside0 (kq ≤ kj23) ∧ Aside0 (Kd.V (Kd.int .u32) 102 wc w.heap.size (fun k_ => ((P0_ k_ ∨ P2_ k_ ∨ P3_ k_) ∨ w.heap.size ≤ k_) ∧ some k_ ≠ (u13 : Value).ownBlock ∧ k_ ≠ g) (.slice Ao25 x0_2.length co25) x0_2) ∧ Aside0 (Kd.V (Kd.int .u32) 102 wc w.heap.size (fun k_ => ((P0_ k_ ∨ P2_ k_ ∨ P3_ k_) ∨ w.heap.size ≤ k_) ∧ some k_ ≠ (u13 : Value).ownBlock ∧ k_ ≠ g) (.slice Ao26 t183.length co26) t183) ∧ Aside0 (Kd.V (Kd.int .u32) 102 wc w.heap.size (fun k_ => ((P0_ k_ ∨ P2_ k_ ∨ P3_ k_) ∨ w.heap.size ≤ k_) ∧ some k_ ≠ (u13 : Value).ownBlock ∧ k_ ≠ g) (.slice Ao27 t186.length co27) t186) ∧ Aside0 (Kd.R (Kd.int .u8) 5 wc w.heap.size (fun k_ => (w.heap.size ≤ k_)) u13 x13_1) ∧ Aside0 (IsS3 w0 wc g x6000_1) ∧ Aside0 (KeepBut w wc g none) ∧ Aside0 (Below w0.heap.size w0 wc))
       case first =>
        have H := HC38.out
        clear HC38
        by_cases c39 : (x13_1.length : Int) = 0
        ·
         rw [if_pos c39] at H
         have c39b0 : ((x13_1.length : Int) == 0) = true := beq_iff_eq.mpr c39
         have c39b1 : ((x13_1.length : Int) != 0) = false := bne_eq_false_iff_eq.mpr c39
         clear c39
         (first | rw [c39b0] | (simp only [i64_w, i32_w]; rw [c39b0]) | skip)
         by_cases c40 : x14_2 = 48
         ·
          rw [if_pos c40] at H
          have c40b0 : (x14_2 == 48) = true := beq_iff_eq.mpr c40
          have c40b1 : (x14_2 != 48) = false := bne_eq_false_iff_eq.mpr c40
          clear c40
          have H' := Aside0.mk H
          clear H
          obtain ⟨Ao41, co41, eo41⟩ := Kd.R_slice HO_13.out
          subst eo41
          go_wp2
          go_meet
          case rel => exact ⟨_, (!x18_23), (by first | rfl | (simp; done) | (simp [*]; done)), H', ⟨by have := HK1.out; have := HK2.out; have := HJ23.out; first | omega | exact Nat.le_refl _⟩, ⟨vk HO_0⟩, ⟨vk HO_2⟩, ⟨vk HO_3⟩, ⟨rk HO_13⟩, ⟨ik HI5⟩, ⟨kk HK⟩, ⟨li HB HI5⟩⟩
         rw [if_neg c40] at H
         have c40b0 : (x14_2 == 48) = false := beq_eq_false_iff_ne.mpr c40
         have c40b1 : (x14_2 != 48) = true := bne_iff_ne.mpr c40
         have H' := Aside0.mk H
         clear H
         obtain ⟨Ao42, co42, eo42⟩ := Kd.R_slice HO_13.out
         subst eo42
         go_wp2
         go_meet
         case rel => exact ⟨_, (false), (by first | rfl | (simp; done) | (simp [*]; done)), H', ⟨by have := HK1.out; have := HK2.out; have := HJ23.out; first | omega | exact Nat.le_refl _⟩, ⟨vk HO_0⟩, ⟨vk HO_2⟩, ⟨vk HO_3⟩, ⟨rk HO_13⟩, ⟨ik HI5⟩, ⟨kk HK⟩, ⟨li HB HI5⟩⟩
        rw [if_neg c39] at H
        have c39b0 : ((x13_1.length : Int) == 0) = false := beq_eq_false_iff_ne.mpr c39
        have c39b1 : ((x13_1.length : Int) != 0) = true := bne_iff_ne.mpr c39
        have c39b2 : ¬ (x13_1 = []) := fun h_ => c39 (by rw [h_]; rfl)
        (first | rw [c39b0] | (simp only [i64_w, i32_w]; rw [c39b0]) | skip)
        have H' := Aside0.mk H
        clear H
        obtain ⟨Ao43, co43, eo43⟩ := Kd.R_slice HO_13.out
        subst eo43
        go_wp2
        go_meet
        case rel => exact ⟨_, (false), (by first | rfl | (simp; done) | (simp [*]; done)), H', ⟨by have := HK1.out; have := HK2.out; have := HJ23.out; first | omega | exact Nat.le_refl _⟩, ⟨vk HO_0⟩, ⟨vk HO_2⟩, ⟨vk HO_3⟩, ⟨rk HO_13⟩, ⟨ik HI5⟩, ⟨kk HK⟩, ⟨li HB HI5⟩⟩
       case rest =>
        clear HC38
        try clear c1
        try clear c2
        try clear p2
        try clear c3
        try clear c4
        try clear c5
        try clear c8
        try clear c17
        try clear c17b0
        try clear c30
        try clear c30b0
        try clear c31
        try clear c31b0
        try clear c32
        try clear c32b0
        try clear c32b1
        try clear c33
        try clear c33b0
        try clear c33b1
        try clear c34
        try clear c34b0
        try clear c35
        try clear c35b0
        try clear c35b1
        try clear c36
        try clear c36b0
        try clear c37
        try clear c37b0
        try clear c37b1
        try clear c39
        try clear c39b0
        try clear c39b1
        try clear c39b2
        try clear c40
        try clear c40b0
        try clear c40b1
        try clear p2
        obtain ⟨kq, x71_37, rfl, HA, HJ37, HO_0, HO_2, HO_3, HO_13, HI5, HK, HB⟩ := hcut
        cases kq with
        | zero => exact absurd HA.out (by simp [num_shortest.j3])
        | succ kj37 =>
         have H := HA.out
         clear HA
         simp only [num_shortest.j3] at H
         by_cases c44 : x71_37 = true
         ·
          subst c44
          have H1 : (num_shortest.l0 kj37 x0_2 l1 t183 t186 a4 x13_1 (wrap64 (x6000_1 - 1))) = some (r1, r2) := by rw [if_pos rfl] at H; exact H
          clear H
          have H := H1
          clear H1
          have H' := Aside0.mk H
          clear H
          obtain ⟨HGz45, hgz45⟩ := HI5.out
          have hcz45_0 := cellS3_0 HGz45
          have hfz45_0 := blk_frozen HGz45 0
          clear HGz45 hgz45
          go_wp2
          go_roundg kj37
          case measure => have := HK1.out; have := HK2.out; have := HJ23.out; have := HJ37.out; omega
          case rel => exact ⟨(x0_2), (t183), (t186), (x13_1), (wrap64 (x6000_1 - 1)), H', ⟨by have := HK1.out; have := HK2.out; have := HJ23.out; have := HJ37.out; omega⟩, ⟨by (with_reducible repeat (first | apply Kd.V_alloc | apply Kd.V_drewN | apply Kd.V_drew)); exact Kd.V_mono (Kd.V_far (p := ⟨g, 0, none⟩) (Kd.V_mono HO_0.out (fun k_ hk => (⟨hk, hk.2.2⟩ : _ ∧ k_ ≠ g))) (fun _ hk => hk.2) (.int .i64 (wrap64 (x6000_1 - 1)))) (fun _ hk => ⟨hk.1.1, ⟨hk.1.2.1, hk.1.2.2⟩⟩)⟩, ⟨by (with_reducible repeat (first | apply Kd.V_alloc | apply Kd.V_drewN | apply Kd.V_drew)); exact Kd.V_mono (Kd.V_far (p := ⟨g, 0, none⟩) (Kd.V_mono HO_2.out (fun k_ hk => (⟨hk, hk.2.2⟩ : _ ∧ k_ ≠ g))) (fun _ hk => hk.2) (.int .i64 (wrap64 (x6000_1 - 1)))) (fun _ hk => ⟨hk.1.1, ⟨hk.1.2.1, hk.1.2.2⟩⟩)⟩, ⟨by (with_reducible repeat (first | apply Kd.V_alloc | apply Kd.V_drewN | apply Kd.V_drew)); exact Kd.V_mono (Kd.V_far (p := ⟨g, 0, none⟩) (Kd.V_mono HO_3.out (fun k_ hk => (⟨hk, hk.2.2⟩ : _ ∧ k_ ≠ g))) (fun _ hk => hk.2) (.int .i64 (wrap64 (x6000_1 - 1)))) (fun _ hk => ⟨hk.1.1, ⟨hk.1.2.1, hk.1.2.2⟩⟩)⟩, ⟨by (with_reducible repeat (first | apply Kd.R_alloc | apply Kd.R_drewN | apply Kd.R_drew)); exact Kd.R_mono (Kd.R_far (p := ⟨g, 0, none⟩) (IsS3.apart HI5.out HO_13.out (by decide)) (fun _ hk => hk.2) (.int .i64 (wrap64 (x6000_1 - 1)))) (fun _ hk => hk.1)⟩, ⟨ik HI5⟩, ⟨kk HK⟩, ⟨li HB HI5⟩⟩
         replace c44 := Bool.eq_false_iff.mpr c44
         subst c44
         have H1 : (if x17_23 = true then (num_shortest.j4 kj37 x0_2 l1 t183 t186 a4 x13_1 x14_2 x17_23 x18_23 false x6000_1) else (num_shortest.j4 kj37 x0_2 l1 t183 t186 a4 x13_1 x14_2 x17_23 x18_23 (!x18_23) x6000_1)) = some (r1, r2) := by rw [if_neg (show ¬ (false = true) by decide)] at H; exact H
         clear H
         have H := H1
         clear H1
         have HC46 := Aside0.mk H
         clear H
         go_upto_region 11 with (fail)
         go_cut [82] (fun v82 wc => ∃ (kq : Nat) (x82_45 : Bool), v82 = .bool x82_45 ∧ Aside0 (num_shortest.j4 kq x0_2 l1 t183 t186 a4 x13_1 x14_2 x17_23 x18_23 x82_45 x6000_1 = some (r1, r2)) ∧ Aside0 (kq ≤ kj37) ∧ Aside0 (Kd.V (Kd.int .u32) 102 wc w.heap.size (fun k_ => ((P0_ k_ ∨ P2_ k_ ∨ P3_ k_) ∨ w.heap.size ≤ k_) ∧ some k_ ≠ (u13 : Value).ownBlock ∧ k_ ≠ g) (.slice Ao25 x0_2.length co25) x0_2) ∧ Aside0 (Kd.V (Kd.int .u32) 102 wc w.heap.size (fun k_ => ((P0_ k_ ∨ P2_ k_ ∨ P3_ k_) ∨ w.heap.size ≤ k_) ∧ some k_ ≠ (u13 : Value).ownBlock ∧ k_ ≠ g) (.slice Ao26 t183.length co26) t183) ∧ Aside0 (Kd.V (Kd.int .u32) 102 wc w.heap.size (fun k_ => ((P0_ k_ ∨ P2_ k_ ∨ P3_ k_) ∨ w.heap.size ≤ k_) ∧ some k_ ≠ (u13 : Value).ownBlock ∧ k_ ≠ g) (.slice Ao27 t186.length co27) t186) ∧ Aside0 (Kd.R (Kd.int .u8) 5 wc w.heap.size (fun k_ => (w.heap.size ≤ k_)) u13 x13_1) ∧ Aside0 (IsS3 w0 wc g x6000_1) ∧ Aside0 (KeepBut w wc g none) ∧ Aside0 (Below w0.heap.size w0 wc))
         case first =>
          have H := HC46.out
          clear HC46
          by_cases c47 : x17_23 = true
          ·
           subst c47
           have H1 : (num_shortest.j4 kj37 x0_2 l1 t183 t186 a4 x13_1 x14_2 true x18_23 false x6000_1) = some (r1, r2) := by rw [if_pos rfl] at H; exact H
           clear H
           have H := H1
           clear H1
           have H' := Aside0.mk H
           clear H
           go_wp2
           go_meet
           case rel => exact ⟨_, (false), (by first | rfl | (simp; done) | (simp [*]; done)), H', ⟨by have := HK1.out; have := HK2.out; have := HJ23.out; have := HJ37.out; first | omega | exact Nat.le_refl _⟩, ⟨vk HO_0⟩, ⟨vk HO_2⟩, ⟨vk HO_3⟩, ⟨rk HO_13⟩, ⟨ik HI5⟩, ⟨kk HK⟩, ⟨li HB HI5⟩⟩
          replace c47 := Bool.eq_false_iff.mpr c47
          subst c47
          have H1 : (num_shortest.j4 kj37 x0_2 l1 t183 t186 a4 x13_1 x14_2 false x18_23 (!x18_23) x6000_1) = some (r1, r2) := by rw [if_neg (show ¬ (false = true) by decide)] at H; exact H
          clear H
          have H := H1
          clear H1
          have H' := Aside0.mk H
          clear H
          go_wp2
          go_meet
          case rel => exact ⟨_, (!x18_23), (by first | rfl | (simp; done) | (simp [*]; done)), H', ⟨by have := HK1.out; have := HK2.out; have := HJ23.out; have := HJ37.out; first | omega | exact Nat.le_refl _⟩, ⟨vk HO_0⟩, ⟨vk HO_2⟩, ⟨vk HO_3⟩, ⟨rk HO_13⟩, ⟨ik HI5⟩, ⟨kk HK⟩, ⟨li HB HI5⟩⟩
         case rest =>
          clear HC46
          try clear c1
          try clear c2
          try clear p2
          try clear c3
          try clear c4
          try clear c5
          try clear p6
          try clear c8
          try clear c17
          try clear c17b0
          try clear c30
          try clear c30b0
          try clear c31
          try clear c31b0
          try clear c32
          try clear c32b0
          try clear c32b1
          try clear c33
          try clear c33b0
          try clear c33b1
          try clear c34
          try clear c34b0
          try clear c35
          try clear c35b0
          try clear c35b1
          try clear c36
          try clear c36b0
          try clear c37
          try clear c37b0
          try clear c37b1
          try clear c39
          try clear c39b0
          try clear c39b1
          try clear c39b2
          try clear c40
          try clear c40b0
          try clear c40b1
          try clear c44
          try clear c47
          try clear hcz45_0
          try clear hfz45_0
          try clear p2
          obtain ⟨kq, x82_45, rfl, HA, HJ45, HO_0, HO_2, HO_3, HO_13, HI5, HK, HB⟩ := hcut
          cases kq with
          | zero => exact absurd HA.out (by simp [num_shortest.j4])
          | succ kj45 =>
           have H := HA.out
           clear HA
           simp only [num_shortest.j4] at H
           by_cases c48 : x82_45 = true
           ·
            subst c48
            have H1 : (if x13_1.length < 140737488355328 then (num_shortest.l0 kj45 x0_2 l1 t183 t186 a4 (x13_1 ++ [x14_2]) x6000_1) else (none)) = some (r1, r2) := by rw [if_pos rfl] at H; exact H
            clear H
            have H := H1
            clear H1
            by_cases c49 : x13_1.length < 140737488355328
            ·
             rw [if_pos c49] at H
             have LMc49 := Aside0.mk c49
             clear c49
             obtain ⟨y198, hy198⟩ : ∃ y_ : List Int, y_ = (x13_1 ++ [x14_2]) := ⟨_, rfl⟩
             replace H : (num_shortest.l0 kj45 x0_2 l1 t183 t186 a4 y198 x6000_1) = some (r1, r2) := by first | (rw [hy198]; with_reducible exact H) | (rw [hy198]; with_reducible exact (hs H :)) | with_reducible exact (hs H :) | with_reducible exact H | (rw [hy198]; exact H) | exact H
             have Ny198 := Aside0.mk hy198
             clear hy198
             have H' := Aside0.mk H
             clear H
             go_wp2_with (first | ((with_reducible refine gate_builtin (b := .append) (xs := #[.tmp 83, .tmp 85]) rfl ?_); at_builtin; refine Kd.R_append (Kd.int .u8) w.heap.size rfl (.tmp 83) (.tmp 85) 43 5 (.int .u8 0) 1 rfl Tryd.underlying43 info5 rfl (by decide) (by omega) u13 x13_1 x14_2 [.int .u8 x14_2] (fun k_ => (w.heap.size ≤ k_)) (fun _ => False) rfl rfl ?aP (fun _ hk => hk.elim) ?aF ?aO (Below.refl _ _) ?aS ?aL ?_; (case aP => exact rfl); (case aF => exact (fun k_ hk => (Nat.le_trans (keep_size (kk HK)) hk))); (case aO => exact (rk HO_13)); (case aS => exact (keep_size (kk HK))); (case aL => have := LMc49.out; omega); intro v199 w50 ho hb hg hat; rw [← Ny198.out] at ho; replace HO_0 := Aside0.mk (Kd.V_afterv (ok := (fun k_ => ((P0_ k_ ∨ P2_ k_ ∨ P3_ k_) ∨ w.heap.size ≤ k_) ∧ k_ ≠ g)) (by (with_reducible repeat (first | apply Kd.V_alloc | apply Kd.V_drewN | apply Kd.V_drew)); exact Kd.V_mono HO_0.out (fun _ hk => ⟨⟨hk.1, hk.2.2⟩, hk.2.1⟩)) hg hat); replace HO_2 := Aside0.mk (Kd.V_afterv (ok := (fun k_ => ((P0_ k_ ∨ P2_ k_ ∨ P3_ k_) ∨ w.heap.size ≤ k_) ∧ k_ ≠ g)) (by (with_reducible repeat (first | apply Kd.V_alloc | apply Kd.V_drewN | apply Kd.V_drew)); exact Kd.V_mono HO_2.out (fun _ hk => ⟨⟨hk.1, hk.2.2⟩, hk.2.1⟩)) hg hat); replace HO_3 := Aside0.mk (Kd.V_afterv (ok := (fun k_ => ((P0_ k_ ∨ P2_ k_ ∨ P3_ k_) ∨ w.heap.size ≤ k_) ∧ k_ ≠ g)) (by (with_reducible repeat (first | apply Kd.V_alloc | apply Kd.V_drewN | apply Kd.V_drew)); exact Kd.V_mono HO_3.out (fun _ hk => ⟨⟨hk.1, hk.2.2⟩, hk.2.1⟩)) hg hat); replace HB := Aside0.mk (below_weaken (li HB HI5) HL.out hb); replace HI5 := Aside0.mk (IsS3.grown (ik HI5) hg (IsS3.own_ne HI5.out HO_13.out (by decide))); replace HK := Aside0.mk (KeepBut.trans (kk HK) (KeepBut.of_grown hg g) (Kd.R_base2 HO_13.out)); have HO200 := Aside0.mk (ho); clear HO_13 ho hb hg hat))
             go_roundg kj45
             case measure => have := HK1.out; have := HK2.out; have := HJ23.out; have := HJ37.out; have := HJ45.out; omega
             case rel => exact ⟨(x0_2), (t183), (t186), (y198), (x6000_1), H', ⟨by have := HK1.out; have := HK2.out; have := HJ23.out; have := HJ37.out; have := HJ45.out; omega⟩, ⟨by (with_reducible repeat (first | apply Kd.V_alloc | apply Kd.V_drewN | apply Kd.V_drew)); exact Kd.V_mono HO_0.out (fun _ hk => ⟨hk.1.1, ⟨hk.2, hk.1.2⟩⟩)⟩, ⟨by (with_reducible repeat (first | apply Kd.V_alloc | apply Kd.V_drewN | apply Kd.V_drew)); exact Kd.V_mono HO_2.out (fun _ hk => ⟨hk.1.1, ⟨hk.2, hk.1.2⟩⟩)⟩, ⟨by (with_reducible repeat (first | apply Kd.V_alloc | apply Kd.V_drewN | apply Kd.V_drew)); exact Kd.V_mono HO_3.out (fun _ hk => ⟨hk.1.1, ⟨hk.2, hk.1.2⟩⟩)⟩, ⟨rk HO200⟩, ⟨ik HI5⟩, ⟨kk HK⟩, ⟨li HB HI5⟩⟩
            rw [if_neg c49] at H
            exact absurd H (by simp)
           replace c48 := Bool.eq_false_iff.mpr c48
           subst c48
           have H1 : ((num_nat_up.f kj45 x0_2 1).bind fun t201 => ((num_nat_against.f kj45 t201 l1).bind fun t204 => (if x18_23 = true then (if x17_23 = true then (if t204 > 0 then (if x13_1.length < 140737488355328 then (some ((x13_1 ++ [(x14_2 + 1) % 256]), x6000_1)) else (none)) else (if t204 = 0 then (if (Int.tmod x14_2 2) = 1 then (if x13_1.length < 140737488355328 then (some ((x13_1 ++ [(x14_2 + 1) % 256]), x6000_1)) else (none)) else (if x13_1.length < 140737488355328 then (some ((x13_1 ++ [x14_2]), x6000_1)) else (none))) else (if x13_1.length < 140737488355328 then (some ((x13_1 ++ [x14_2]), x6000_1)) else (none)))) else (if x13_1.length < 140737488355328 then (some ((x13_1 ++ [(x14_2 + 1) % 256]), x6000_1)) else (none))) else (if x13_1.length < 140737488355328 then (some ((x13_1 ++ [x14_2]), x6000_1)) else (none))))) = some (r1, r2) := by rw [if_neg (show ¬ (false = true) by decide)] at H; exact H
           clear H
           have H := H1
           clear H1
           replace H := Option.bind_eq_some_iff.mp H
           obtain ⟨t201, A510, H⟩ := H
           replace H : ((num_nat_against.f kj45 t201 l1).bind fun t204 => (if x18_23 = true then (if x17_23 = true then (if t204 > 0 then (if x13_1.length < 140737488355328 then (some ((x13_1 ++ [(x14_2 + 1) % 256]), x6000_1)) else (none)) else (if t204 = 0 then (if (Int.tmod x14_2 2) = 1 then (if x13_1.length < 140737488355328 then (some ((x13_1 ++ [(x14_2 + 1) % 256]), x6000_1)) else (none)) else (if x13_1.length < 140737488355328 then (some ((x13_1 ++ [x14_2]), x6000_1)) else (none))) else (if x13_1.length < 140737488355328 then (some ((x13_1 ++ [x14_2]), x6000_1)) else (none)))) else (if x13_1.length < 140737488355328 then (some ((x13_1 ++ [(x14_2 + 1) % 256]), x6000_1)) else (none))) else (if x13_1.length < 140737488355328 then (some ((x13_1 ++ [x14_2]), x6000_1)) else (none)))) = some (r1, r2) := H
           have A51 := Aside0.mk A510
           clear A510
           replace H := Option.bind_eq_some_iff.mp H
           obtain ⟨t204, A520, H⟩ := H
           replace H : (if x18_23 = true then (if x17_23 = true then (if t204 > 0 then (if x13_1.length < 140737488355328 then (some ((x13_1 ++ [(x14_2 + 1) % 256]), x6000_1)) else (none)) else (if t204 = 0 then (if (Int.tmod x14_2 2) = 1 then (if x13_1.length < 140737488355328 then (some ((x13_1 ++ [(x14_2 + 1) % 256]), x6000_1)) else (none)) else (if x13_1.length < 140737488355328 then (some ((x13_1 ++ [x14_2]), x6000_1)) else (none))) else (if x13_1.length < 140737488355328 then (some ((x13_1 ++ [x14_2]), x6000_1)) else (none)))) else (if x13_1.length < 140737488355328 then (some ((x13_1 ++ [(x14_2 + 1) % 256]), x6000_1)) else (none))) else (if x13_1.length < 140737488355328 then (some ((x13_1 ++ [x14_2]), x6000_1)) else (none))) = some (r1, r2) := H
           have A52 := Aside0.mk A520
           clear A520
           by_cases c53 : x18_23 = true
           ·
            subst c53
            have H1 : (if x17_23 = true then (if t204 > 0 then (if x13_1.length < 140737488355328 then (some ((x13_1 ++ [(x14_2 + 1) % 256]), x6000_1)) else (none)) else (if t204 = 0 then (if (Int.tmod x14_2 2) = 1 then (if x13_1.length < 140737488355328 then (some ((x13_1 ++ [(x14_2 + 1) % 256]), x6000_1)) else (none)) else (if x13_1.length < 140737488355328 then (some ((x13_1 ++ [x14_2]), x6000_1)) else (none))) else (if x13_1.length < 140737488355328 then (some ((x13_1 ++ [x14_2]), x6000_1)) else (none)))) else (if x13_1.length < 140737488355328 then (some ((x13_1 ++ [(x14_2 + 1) % 256]), x6000_1)) else (none))) = some (r1, r2) := by rw [if_pos rfl] at H; exact H
            clear H
            have H := H1
            clear H1
            by_cases c54 : x17_23 = true
            ·
             subst c54
             have H1 : (if t204 > 0 then (if x13_1.length < 140737488355328 then (some ((x13_1 ++ [(x14_2 + 1) % 256]), x6000_1)) else (none)) else (if t204 = 0 then (if (Int.tmod x14_2 2) = 1 then (if x13_1.length < 140737488355328 then (some ((x13_1 ++ [(x14_2 + 1) % 256]), x6000_1)) else (none)) else (if x13_1.length < 140737488355328 then (some ((x13_1 ++ [x14_2]), x6000_1)) else (none))) else (if x13_1.length < 140737488355328 then (some ((x13_1 ++ [x14_2]), x6000_1)) else (none)))) = some (r1, r2) := by rw [if_pos rfl] at H; exact H
             clear H
             have H := H1
             clear H1
             by_cases c55 : t204 > 0
             ·
              rw [if_pos c55] at H
              have c55b0 : decide (0 < t204) = true := decide_eq_true c55
              clear c55
              by_cases c56 : x13_1.length < 140737488355328
              ·
               rw [if_pos c56] at H
               have LMc56 := Aside0.mk c56
               clear c56
               obtain ⟨y205, hy205⟩ : ∃ y_ : List Int, y_ = (x13_1 ++ [(x14_2 + 1) % 256]) := ⟨_, rfl⟩
               replace H : (some (y205, x6000_1)) = some (r1, r2) := by first | (rw [hy205]; with_reducible exact H) | (rw [hy205]; with_reducible exact (hs H :)) | with_reducible exact (hs H :) | with_reducible exact H | (rw [hy205]; exact H) | exact H
               have Ny205 := Aside0.mk hy205
               clear hy205
               simp only [Option.some.injEq, Prod.mk.injEq] at H
               obtain ⟨rfl, rfl⟩ := H
               go_wp2_with (first | ((with_reducible refine gate_callee (f := 46) rfl ?_); refine gL (some 88) Tryd.func46 #[.slice Ao25 x0_2.length co25, .int .i64 1] ?_; (with_reducible refine (num_nat_up.calls kj45 _ _ x0_2 1 t201 _ ?side1 ?side2 A51.out).mono ?_); (case side1 => exact ck (Kd.V_reads' HO_0.out).2.2); (case side2 => exact (Kd.V_reads' HO_0.out).2.1); rintro e w57 ⟨v202, rfl, ho0, hb⟩; refine ⟨_, rfl, ?_⟩; replace HO_0 := vb HO_0 hb; replace HO_2 := vb HO_2 hb; replace HO_3 := vb HO_3 hb; have HO203 := Aside0.mk (Kd.V_lower (Kd.V_mono (ok' := fun k_ => ((P0_ k_ ∨ P2_ k_ ∨ P3_ k_) ∨ w.heap.size ≤ k_) ∧ some k_ ≠ (u13 : Value).ownBlock ∧ k_ ≠ g) ho0 (fun k_ hk_ => ⟨(.inr (Nat.le_trans (keep_size (kk HK)) hk_)), (Kd.fresh' (Kd.R_lt (rk HO_13)) k_ hk_), (IsS3.fresh (ik HI5) k_ hk_)⟩)) (keep_size (kk HK))); replace HO_13 := Aside0.mk (Kd.R_below (rk HO_13) hb); replace HK := Aside0.mk (KeepBut.trans (kk HK) (KeepBut.of_below hb g none) (.inl rfl)); replace HB := Aside0.mk (below_step (li HB HI5) hb); replace HI5 := Aside0.mk (IsS3.below (ik HI5) hb); (try clear hb); (try clear hb2); (try clear hk); (try clear hi); (try clear ho0); obtain ⟨Ao58, co58, eo58⟩ := Kd.V_slice HO203.out; subst eo58) | ((with_reducible refine gate_callee (f := 49) rfl ?_); refine gL (some 90) Tryd.func49 #[.slice Ao58 t201.length co58, .slice A1 l1.length c1] ?_; (with_reducible refine (num_nat_against.calls kj45 _ _ t201 _ _ l1 t204 _ ?side1 ?side2 ?side3 ?side4 A52.out).mono ?_); (case side1 => exact ck (Kd.V_reads' HO203.out).2.2); (case side2 => exact (Kd.V_reads' HO203.out).2.1); (case side3 => exact Kd.C_keep 0 HR1.out (kk HK) hf1); (case side4 => exact HC1.out); rintro e w' ⟨rfl, ⟨nd, rfl⟩⟩; refine ⟨_, rfl, ?_⟩) | ((with_reducible refine gate_builtin (b := .append) (xs := #[.tmp 111, .tmp 113]) rfl ?_); at_builtin; refine Kd.R_append (Kd.int .u8) w.heap.size rfl (.tmp 111) (.tmp 113) 43 5 (.int .u8 0) 1 rfl Tryd.underlying43 info5 rfl (by decide) (by omega) u13 x13_1 ((x14_2 + 1) % 256) [.int .u8 ((x14_2 + 1) % 256)] (fun k_ => (w.heap.size ≤ k_)) (fun _ => False) rfl rfl ?aP (fun _ hk => hk.elim) ?aF ?aO (Below.refl _ _) ?aS ?aL ?_; (case aP => exact rfl); (case aF => exact (fun k_ hk => (Nat.le_trans (keep_size (kk HK)) hk))); (case aO => exact (rk HO_13)); (case aS => exact (keep_size (kk HK))); (case aL => have := LMc56.out; omega); intro v206 w59 ho hb hg hat; rw [← Ny205.out] at ho; replace HO_0 := Aside0.mk (Kd.V_afterv (ok := (fun k_ => ((P0_ k_ ∨ P2_ k_ ∨ P3_ k_) ∨ w.heap.size ≤ k_) ∧ k_ ≠ g)) (by (with_reducible repeat (first | apply Kd.V_alloc | apply Kd.V_drewN | apply Kd.V_drew)); exact Kd.V_mono HO_0.out (fun _ hk => ⟨⟨hk.1, hk.2.2⟩, hk.2.1⟩)) hg hat); replace HO_2 := Aside0.mk (Kd.V_afterv (ok := (fun k_ => ((P0_ k_ ∨ P2_ k_ ∨ P3_ k_) ∨ w.heap.size ≤ k_) ∧ k_ ≠ g)) (by (with_reducible repeat (first | apply Kd.V_alloc | apply Kd.V_drewN | apply Kd.V_drew)); exact Kd.V_mono HO_2.out (fun _ hk => ⟨⟨hk.1, hk.2.2⟩, hk.2.1⟩)) hg hat); replace HO_3 := Aside0.mk (Kd.V_afterv (ok := (fun k_ => ((P0_ k_ ∨ P2_ k_ ∨ P3_ k_) ∨ w.heap.size ≤ k_) ∧ k_ ≠ g)) (by (with_reducible repeat (first | apply Kd.V_alloc | apply Kd.V_drewN | apply Kd.V_drew)); exact Kd.V_mono HO_3.out (fun _ hk => ⟨⟨hk.1, hk.2.2⟩, hk.2.1⟩)) hg hat); replace HO203 := Aside0.mk (Kd.V_afterv (ok := (fun k_ => ((P0_ k_ ∨ P2_ k_ ∨ P3_ k_) ∨ w.heap.size ≤ k_) ∧ k_ ≠ g)) (by (with_reducible repeat (first | apply Kd.V_alloc | apply Kd.V_drewN | apply Kd.V_drew)); exact Kd.V_mono HO203.out (fun _ hk => ⟨⟨hk.1, hk.2.2⟩, hk.2.1⟩)) hg hat); replace HB := Aside0.mk (below_weaken (li HB HI5) HL.out hb); replace HI5 := Aside0.mk (IsS3.grown (ik HI5) hg (IsS3.own_ne HI5.out HO_13.out (by decide))); replace HK := Aside0.mk (KeepBut.trans (kk HK) (KeepBut.of_grown hg g) (Kd.R_base2 HO_13.out)); have HO207 := Aside0.mk (ho); clear HO_13 ho hb hg hat))
               go_ret
               exact ⟨_, by first | rfl | (simp [errW_none, errW_some] <;> rfl) | (simp [*, errW_none, errW_some] <;> rfl), rk HO207, by repeat (first | (with_reducible first | exact HI5.out | apply IsS3.alloc | apply IsS3.drewN | apply IsS3.drew | apply IsS3.set_0) | exact HI5.out), by repeat (first | (with_reducible first | exact HB.out | apply below_alloc | apply pw_below_drewN | apply below_drew1 | refine below_set ?_ (IsS3.ge HI5.out)) | exact HB.out), by repeat (first | (with_reducible first | exact HK.out | apply KeepBut.set_ | apply keep_drewN | apply keep_drew | apply keep_alloc) | exact HK.out)⟩
              rw [if_neg c56] at H
              exact absurd H (by simp)
             rw [if_neg c55] at H
             have c55b0 : decide (0 < t204) = false := decide_eq_false c55
             clear c55
             by_cases c60 : t204 = 0
             ·
              rw [if_pos c60] at H
              have c60b0 : (t204 == 0) = true := beq_iff_eq.mpr c60
              have c60b1 : (t204 != 0) = false := bne_eq_false_iff_eq.mpr c60
              clear c60
              by_cases c61 : (Int.tmod x14_2 2) = 1
              ·
               rw [if_pos c61] at H
               have c61b0 : ((Int.tmod x14_2 2) == 1) = true := beq_iff_eq.mpr c61
               have c61b1 : ((Int.tmod x14_2 2) != 1) = false := bne_eq_false_iff_eq.mpr c61
               clear c61
               by_cases c62 : x13_1.length < 140737488355328
               ·
                rw [if_pos c62] at H
                have LMc62 := Aside0.mk c62
                clear c62
                obtain ⟨y208, hy208⟩ : ∃ y_ : List Int, y_ = (x13_1 ++ [(x14_2 + 1) % 256]) := ⟨_, rfl⟩
                replace H : (some (y208, x6000_1)) = some (r1, r2) := by first | (rw [hy208]; with_reducible exact H) | (rw [hy208]; with_reducible exact (hs H :)) | with_reducible exact (hs H :) | with_reducible exact H | (rw [hy208]; exact H) | exact H
                have Ny208 := Aside0.mk hy208
                clear hy208
                simp only [Option.some.injEq, Prod.mk.injEq] at H
                obtain ⟨rfl, rfl⟩ := H
                go_wp2_with (first | ((with_reducible refine gate_callee (f := 46) rfl ?_); refine gL (some 88) Tryd.func46 #[.slice Ao25 x0_2.length co25, .int .i64 1] ?_; (with_reducible refine (num_nat_up.calls kj45 _ _ x0_2 1 t201 _ ?side1 ?side2 A51.out).mono ?_); (case side1 => exact ck (Kd.V_reads' HO_0.out).2.2); (case side2 => exact (Kd.V_reads' HO_0.out).2.1); rintro e w63 ⟨v202, rfl, ho0, hb⟩; refine ⟨_, rfl, ?_⟩; replace HO_0 := vb HO_0 hb; replace HO_2 := vb HO_2 hb; replace HO_3 := vb HO_3 hb; have HO203 := Aside0.mk (Kd.V_lower (Kd.V_mono (ok' := fun k_ => ((P0_ k_ ∨ P2_ k_ ∨ P3_ k_) ∨ w.heap.size ≤ k_) ∧ some k_ ≠ (u13 : Value).ownBlock ∧ k_ ≠ g) ho0 (fun k_ hk_ => ⟨(.inr (Nat.le_trans (keep_size (kk HK)) hk_)), (Kd.fresh' (Kd.R_lt (rk HO_13)) k_ hk_), (IsS3.fresh (ik HI5) k_ hk_)⟩)) (keep_size (kk HK))); replace HO_13 := Aside0.mk (Kd.R_below (rk HO_13) hb); replace HK := Aside0.mk (KeepBut.trans (kk HK) (KeepBut.of_below hb g none) (.inl rfl)); replace HB := Aside0.mk (below_step (li HB HI5) hb); replace HI5 := Aside0.mk (IsS3.below (ik HI5) hb); (try clear hb); (try clear hb2); (try clear hk); (try clear hi); (try clear ho0); obtain ⟨Ao64, co64, eo64⟩ := Kd.V_slice HO203.out; subst eo64) | ((with_reducible refine gate_callee (f := 49) rfl ?_); refine gL (some 90) Tryd.func49 #[.slice Ao64 t201.length co64, .slice A1 l1.length c1] ?_; (with_reducible refine (num_nat_against.calls kj45 _ _ t201 _ _ l1 t204 _ ?side1 ?side2 ?side3 ?side4 A52.out).mono ?_); (case side1 => exact ck (Kd.V_reads' HO203.out).2.2); (case side2 => exact (Kd.V_reads' HO203.out).2.1); (case side3 => exact Kd.C_keep 0 HR1.out (kk HK) hf1); (case side4 => exact HC1.out); rintro e w' ⟨rfl, ⟨nd, rfl⟩⟩; refine ⟨_, rfl, ?_⟩) | ((with_reducible refine gate_builtin (b := .append) (xs := #[.tmp 111, .tmp 113]) rfl ?_); at_builtin; refine Kd.R_append (Kd.int .u8) w.heap.size rfl (.tmp 111) (.tmp 113) 43 5 (.int .u8 0) 1 rfl Tryd.underlying43 info5 rfl (by decide) (by omega) u13 x13_1 ((x14_2 + 1) % 256) [.int .u8 ((x14_2 + 1) % 256)] (fun k_ => (w.heap.size ≤ k_)) (fun _ => False) rfl rfl ?aP (fun _ hk => hk.elim) ?aF ?aO (Below.refl _ _) ?aS ?aL ?_; (case aP => exact rfl); (case aF => exact (fun k_ hk => (Nat.le_trans (keep_size (kk HK)) hk))); (case aO => exact (rk HO_13)); (case aS => exact (keep_size (kk HK))); (case aL => have := LMc62.out; omega); intro v209 w65 ho hb hg hat; rw [← Ny208.out] at ho; replace HO_0 := Aside0.mk (Kd.V_afterv (ok := (fun k_ => ((P0_ k_ ∨ P2_ k_ ∨ P3_ k_) ∨ w.heap.size ≤ k_) ∧ k_ ≠ g)) (by (with_reducible repeat (first | apply Kd.V_alloc | apply Kd.V_drewN | apply Kd.V_drew)); exact Kd.V_mono HO_0.out (fun _ hk => ⟨⟨hk.1, hk.2.2⟩, hk.2.1⟩)) hg hat); replace HO_2 := Aside0.mk (Kd.V_afterv (ok := (fun k_ => ((P0_ k_ ∨ P2_ k_ ∨ P3_ k_) ∨ w.heap.size ≤ k_) ∧ k_ ≠ g)) (by (with_reducible repeat (first | apply Kd.V_alloc | apply Kd.V_drewN | apply Kd.V_drew)); exact Kd.V_mono HO_2.out (fun _ hk => ⟨⟨hk.1, hk.2.2⟩, hk.2.1⟩)) hg hat); replace HO_3 := Aside0.mk (Kd.V_afterv (ok := (fun k_ => ((P0_ k_ ∨ P2_ k_ ∨ P3_ k_) ∨ w.heap.size ≤ k_) ∧ k_ ≠ g)) (by (with_reducible repeat (first | apply Kd.V_alloc | apply Kd.V_drewN | apply Kd.V_drew)); exact Kd.V_mono HO_3.out (fun _ hk => ⟨⟨hk.1, hk.2.2⟩, hk.2.1⟩)) hg hat); replace HO203 := Aside0.mk (Kd.V_afterv (ok := (fun k_ => ((P0_ k_ ∨ P2_ k_ ∨ P3_ k_) ∨ w.heap.size ≤ k_) ∧ k_ ≠ g)) (by (with_reducible repeat (first | apply Kd.V_alloc | apply Kd.V_drewN | apply Kd.V_drew)); exact Kd.V_mono HO203.out (fun _ hk => ⟨⟨hk.1, hk.2.2⟩, hk.2.1⟩)) hg hat); replace HB := Aside0.mk (below_weaken (li HB HI5) HL.out hb); replace HI5 := Aside0.mk (IsS3.grown (ik HI5) hg (IsS3.own_ne HI5.out HO_13.out (by decide))); replace HK := Aside0.mk (KeepBut.trans (kk HK) (KeepBut.of_grown hg g) (Kd.R_base2 HO_13.out)); have HO210 := Aside0.mk (ho); clear HO_13 ho hb hg hat))
                go_ret
                exact ⟨_, by first | rfl | (simp [errW_none, errW_some] <;> rfl) | (simp [*, errW_none, errW_some] <;> rfl), rk HO210, by repeat (first | (with_reducible first | exact HI5.out | apply IsS3.alloc | apply IsS3.drewN | apply IsS3.drew | apply IsS3.set_0) | exact HI5.out), by repeat (first | (with_reducible first | exact HB.out | apply below_alloc | apply pw_below_drewN | apply below_drew1 | refine below_set ?_ (IsS3.ge HI5.out)) | exact HB.out), by repeat (first | (with_reducible first | exact HK.out | apply KeepBut.set_ | apply keep_drewN | apply keep_drew | apply keep_alloc) | exact HK.out)⟩
               rw [if_neg c62] at H
               exact absurd H (by simp)
              rw [if_neg c61] at H
              have c61b0 : ((Int.tmod x14_2 2) == 1) = false := beq_eq_false_iff_ne.mpr c61
              have c61b1 : ((Int.tmod x14_2 2) != 1) = true := bne_iff_ne.mpr c61
              by_cases c66 : x13_1.length < 140737488355328
              ·
               rw [if_pos c66] at H
               have LMc66 := Aside0.mk c66
               clear c66
               obtain ⟨y211, hy211⟩ : ∃ y_ : List Int, y_ = (x13_1 ++ [x14_2]) := ⟨_, rfl⟩
               replace H : (some (y211, x6000_1)) = some (r1, r2) := by first | (rw [hy211]; with_reducible exact H) | (rw [hy211]; with_reducible exact (hs H :)) | with_reducible exact (hs H :) | with_reducible exact H | (rw [hy211]; exact H) | exact H
               have Ny211 := Aside0.mk hy211
               clear hy211
               simp only [Option.some.injEq, Prod.mk.injEq] at H
               obtain ⟨rfl, rfl⟩ := H
               go_wp2_with (first | ((with_reducible refine gate_callee (f := 46) rfl ?_); refine gL (some 88) Tryd.func46 #[.slice Ao25 x0_2.length co25, .int .i64 1] ?_; (with_reducible refine (num_nat_up.calls kj45 _ _ x0_2 1 t201 _ ?side1 ?side2 A51.out).mono ?_); (case side1 => exact ck (Kd.V_reads' HO_0.out).2.2); (case side2 => exact (Kd.V_reads' HO_0.out).2.1); rintro e w67 ⟨v202, rfl, ho0, hb⟩; refine ⟨_, rfl, ?_⟩; replace HO_0 := vb HO_0 hb; replace HO_2 := vb HO_2 hb; replace HO_3 := vb HO_3 hb; have HO203 := Aside0.mk (Kd.V_lower (Kd.V_mono (ok' := fun k_ => ((P0_ k_ ∨ P2_ k_ ∨ P3_ k_) ∨ w.heap.size ≤ k_) ∧ some k_ ≠ (u13 : Value).ownBlock ∧ k_ ≠ g) ho0 (fun k_ hk_ => ⟨(.inr (Nat.le_trans (keep_size (kk HK)) hk_)), (Kd.fresh' (Kd.R_lt (rk HO_13)) k_ hk_), (IsS3.fresh (ik HI5) k_ hk_)⟩)) (keep_size (kk HK))); replace HO_13 := Aside0.mk (Kd.R_below (rk HO_13) hb); replace HK := Aside0.mk (KeepBut.trans (kk HK) (KeepBut.of_below hb g none) (.inl rfl)); replace HB := Aside0.mk (below_step (li HB HI5) hb); replace HI5 := Aside0.mk (IsS3.below (ik HI5) hb); (try clear hb); (try clear hb2); (try clear hk); (try clear hi); (try clear ho0); obtain ⟨Ao68, co68, eo68⟩ := Kd.V_slice HO203.out; subst eo68) | ((with_reducible refine gate_callee (f := 49) rfl ?_); refine gL (some 90) Tryd.func49 #[.slice Ao68 t201.length co68, .slice A1 l1.length c1] ?_; (with_reducible refine (num_nat_against.calls kj45 _ _ t201 _ _ l1 t204 _ ?side1 ?side2 ?side3 ?side4 A52.out).mono ?_); (case side1 => exact ck (Kd.V_reads' HO203.out).2.2); (case side2 => exact (Kd.V_reads' HO203.out).2.1); (case side3 => exact Kd.C_keep 0 HR1.out (kk HK) hf1); (case side4 => exact HC1.out); rintro e w' ⟨rfl, ⟨nd, rfl⟩⟩; refine ⟨_, rfl, ?_⟩) | ((with_reducible refine gate_builtin (b := .append) (xs := #[.tmp 111, .tmp 113]) rfl ?_); at_builtin; refine Kd.R_append (Kd.int .u8) w.heap.size rfl (.tmp 111) (.tmp 113) 43 5 (.int .u8 0) 1 rfl Tryd.underlying43 info5 rfl (by decide) (by omega) u13 x13_1 x14_2 [.int .u8 x14_2] (fun k_ => (w.heap.size ≤ k_)) (fun _ => False) rfl rfl ?aP (fun _ hk => hk.elim) ?aF ?aO (Below.refl _ _) ?aS ?aL ?_; (case aP => exact rfl); (case aF => exact (fun k_ hk => (Nat.le_trans (keep_size (kk HK)) hk))); (case aO => exact (rk HO_13)); (case aS => exact (keep_size (kk HK))); (case aL => have := LMc66.out; omega); intro v212 w69 ho hb hg hat; rw [← Ny211.out] at ho; replace HO_0 := Aside0.mk (Kd.V_afterv (ok := (fun k_ => ((P0_ k_ ∨ P2_ k_ ∨ P3_ k_) ∨ w.heap.size ≤ k_) ∧ k_ ≠ g)) (by (with_reducible repeat (first | apply Kd.V_alloc | apply Kd.V_drewN | apply Kd.V_drew)); exact Kd.V_mono HO_0.out (fun _ hk => ⟨⟨hk.1, hk.2.2⟩, hk.2.1⟩)) hg hat); replace HO_2 := Aside0.mk (Kd.V_afterv (ok := (fun k_ => ((P0_ k_ ∨ P2_ k_ ∨ P3_ k_) ∨ w.heap.size ≤ k_) ∧ k_ ≠ g)) (by (with_reducible repeat (first | apply Kd.V_alloc | apply Kd.V_drewN | apply Kd.V_drew)); exact Kd.V_mono HO_2.out (fun _ hk => ⟨⟨hk.1, hk.2.2⟩, hk.2.1⟩)) hg hat); replace HO_3 := Aside0.mk (Kd.V_afterv (ok := (fun k_ => ((P0_ k_ ∨ P2_ k_ ∨ P3_ k_) ∨ w.heap.size ≤ k_) ∧ k_ ≠ g)) (by (with_reducible repeat (first | apply Kd.V_alloc | apply Kd.V_drewN | apply Kd.V_drew)); exact Kd.V_mono HO_3.out (fun _ hk => ⟨⟨hk.1, hk.2.2⟩, hk.2.1⟩)) hg hat); replace HO203 := Aside0.mk (Kd.V_afterv (ok := (fun k_ => ((P0_ k_ ∨ P2_ k_ ∨ P3_ k_) ∨ w.heap.size ≤ k_) ∧ k_ ≠ g)) (by (with_reducible repeat (first | apply Kd.V_alloc | apply Kd.V_drewN | apply Kd.V_drew)); exact Kd.V_mono HO203.out (fun _ hk => ⟨⟨hk.1, hk.2.2⟩, hk.2.1⟩)) hg hat); replace HB := Aside0.mk (below_weaken (li HB HI5) HL.out hb); replace HI5 := Aside0.mk (IsS3.grown (ik HI5) hg (IsS3.own_ne HI5.out HO_13.out (by decide))); replace HK := Aside0.mk (KeepBut.trans (kk HK) (KeepBut.of_grown hg g) (Kd.R_base2 HO_13.out)); have HO213 := Aside0.mk (ho); clear HO_13 ho hb hg hat))
               go_ret
               exact ⟨_, by first | rfl | (simp [errW_none, errW_some] <;> rfl) | (simp [*, errW_none, errW_some] <;> rfl), rk HO213, by repeat (first | (with_reducible first | exact HI5.out | apply IsS3.alloc | apply IsS3.drewN | apply IsS3.drew | apply IsS3.set_0) | exact HI5.out), by repeat (first | (with_reducible first | exact HB.out | apply below_alloc | apply pw_below_drewN | apply below_drew1 | refine below_set ?_ (IsS3.ge HI5.out)) | exact HB.out), by repeat (first | (with_reducible first | exact HK.out | apply KeepBut.set_ | apply keep_drewN | apply keep_drew | apply keep_alloc) | exact HK.out)⟩
              rw [if_neg c66] at H
              exact absurd H (by simp)
             rw [if_neg c60] at H
             have c60b0 : (t204 == 0) = false := beq_eq_false_iff_ne.mpr c60
             have c60b1 : (t204 != 0) = true := bne_iff_ne.mpr c60
             by_cases c70 : x13_1.length < 140737488355328
             ·
              rw [if_pos c70] at H
              have LMc70 := Aside0.mk c70
              clear c70
              obtain ⟨y214, hy214⟩ : ∃ y_ : List Int, y_ = (x13_1 ++ [x14_2]) := ⟨_, rfl⟩
              replace H : (some (y214, x6000_1)) = some (r1, r2) := by first | (rw [hy214]; with_reducible exact H) | (rw [hy214]; with_reducible exact (hs H :)) | with_reducible exact (hs H :) | with_reducible exact H | (rw [hy214]; exact H) | exact H
              have Ny214 := Aside0.mk hy214
              clear hy214
              simp only [Option.some.injEq, Prod.mk.injEq] at H
              obtain ⟨rfl, rfl⟩ := H
              go_wp2_with (first | ((with_reducible refine gate_callee (f := 46) rfl ?_); refine gL (some 88) Tryd.func46 #[.slice Ao25 x0_2.length co25, .int .i64 1] ?_; (with_reducible refine (num_nat_up.calls kj45 _ _ x0_2 1 t201 _ ?side1 ?side2 A51.out).mono ?_); (case side1 => exact ck (Kd.V_reads' HO_0.out).2.2); (case side2 => exact (Kd.V_reads' HO_0.out).2.1); rintro e w71 ⟨v202, rfl, ho0, hb⟩; refine ⟨_, rfl, ?_⟩; replace HO_0 := vb HO_0 hb; replace HO_2 := vb HO_2 hb; replace HO_3 := vb HO_3 hb; have HO203 := Aside0.mk (Kd.V_lower (Kd.V_mono (ok' := fun k_ => ((P0_ k_ ∨ P2_ k_ ∨ P3_ k_) ∨ w.heap.size ≤ k_) ∧ some k_ ≠ (u13 : Value).ownBlock ∧ k_ ≠ g) ho0 (fun k_ hk_ => ⟨(.inr (Nat.le_trans (keep_size (kk HK)) hk_)), (Kd.fresh' (Kd.R_lt (rk HO_13)) k_ hk_), (IsS3.fresh (ik HI5) k_ hk_)⟩)) (keep_size (kk HK))); replace HO_13 := Aside0.mk (Kd.R_below (rk HO_13) hb); replace HK := Aside0.mk (KeepBut.trans (kk HK) (KeepBut.of_below hb g none) (.inl rfl)); replace HB := Aside0.mk (below_step (li HB HI5) hb); replace HI5 := Aside0.mk (IsS3.below (ik HI5) hb); (try clear hb); (try clear hb2); (try clear hk); (try clear hi); (try clear ho0); obtain ⟨Ao72, co72, eo72⟩ := Kd.V_slice HO203.out; subst eo72) | ((with_reducible refine gate_callee (f := 49) rfl ?_); refine gL (some 90) Tryd.func49 #[.slice Ao72 t201.length co72, .slice A1 l1.length c1] ?_; (with_reducible refine (num_nat_against.calls kj45 _ _ t201 _ _ l1 t204 _ ?side1 ?side2 ?side3 ?side4 A52.out).mono ?_); (case side1 => exact ck (Kd.V_reads' HO203.out).2.2); (case side2 => exact (Kd.V_reads' HO203.out).2.1); (case side3 => exact Kd.C_keep 0 HR1.out (kk HK) hf1); (case side4 => exact HC1.out); rintro e w' ⟨rfl, ⟨nd, rfl⟩⟩; refine ⟨_, rfl, ?_⟩) | ((with_reducible refine gate_builtin (b := .append) (xs := #[.tmp 111, .tmp 113]) rfl ?_); at_builtin; refine Kd.R_append (Kd.int .u8) w.heap.size rfl (.tmp 111) (.tmp 113) 43 5 (.int .u8 0) 1 rfl Tryd.underlying43 info5 rfl (by decide) (by omega) u13 x13_1 x14_2 [.int .u8 x14_2] (fun k_ => (w.heap.size ≤ k_)) (fun _ => False) rfl rfl ?aP (fun _ hk => hk.elim) ?aF ?aO (Below.refl _ _) ?aS ?aL ?_; (case aP => exact rfl); (case aF => exact (fun k_ hk => (Nat.le_trans (keep_size (kk HK)) hk))); (case aO => exact (rk HO_13)); (case aS => exact (keep_size (kk HK))); (case aL => have := LMc70.out; omega); intro v215 w73 ho hb hg hat; rw [← Ny214.out] at ho; replace HO_0 := Aside0.mk (Kd.V_afterv (ok := (fun k_ => ((P0_ k_ ∨ P2_ k_ ∨ P3_ k_) ∨ w.heap.size ≤ k_) ∧ k_ ≠ g)) (by (with_reducible repeat (first | apply Kd.V_alloc | apply Kd.V_drewN | apply Kd.V_drew)); exact Kd.V_mono HO_0.out (fun _ hk => ⟨⟨hk.1, hk.2.2⟩, hk.2.1⟩)) hg hat); replace HO_2 := Aside0.mk (Kd.V_afterv (ok := (fun k_ => ((P0_ k_ ∨ P2_ k_ ∨ P3_ k_) ∨ w.heap.size ≤ k_) ∧ k_ ≠ g)) (by (with_reducible repeat (first | apply Kd.V_alloc | apply Kd.V_drewN | apply Kd.V_drew)); exact Kd.V_mono HO_2.out (fun _ hk => ⟨⟨hk.1, hk.2.2⟩, hk.2.1⟩)) hg hat); replace HO_3 := Aside0.mk (Kd.V_afterv (ok := (fun k_ => ((P0_ k_ ∨ P2_ k_ ∨ P3_ k_) ∨ w.heap.size ≤ k_) ∧ k_ ≠ g)) (by (with_reducible repeat (first | apply Kd.V_alloc | apply Kd.V_drewN | apply Kd.V_drew)); exact Kd.V_mono HO_3.out (fun _ hk => ⟨⟨hk.1, hk.2.2⟩, hk.2.1⟩)) hg hat); replace HO203 := Aside0.mk (Kd.V_afterv (ok := (fun k_ => ((P0_ k_ ∨ P2_ k_ ∨ P3_ k_) ∨ w.heap.size ≤ k_) ∧ k_ ≠ g)) (by (with_reducible repeat (first | apply Kd.V_alloc | apply Kd.V_drewN | apply Kd.V_drew)); exact Kd.V_mono HO203.out (fun _ hk => ⟨⟨hk.1, hk.2.2⟩, hk.2.1⟩)) hg hat); replace HB := Aside0.mk (below_weaken (li HB HI5) HL.out hb); replace HI5 := Aside0.mk (IsS3.grown (ik HI5) hg (IsS3.own_ne HI5.out HO_13.out (by decide))); replace HK := Aside0.mk (KeepBut.trans (kk HK) (KeepBut.of_grown hg g) (Kd.R_base2 HO_13.out)); have HO216 := Aside0.mk (ho); clear HO_13 ho hb hg hat))
              go_ret
              exact ⟨_, by first | rfl | (simp [errW_none, errW_some] <;> rfl) | (simp [*, errW_none, errW_some] <;> rfl), rk HO216, by repeat (first | (with_reducible first | exact HI5.out | apply IsS3.alloc | apply IsS3.drewN | apply IsS3.drew | apply IsS3.set_0) | exact HI5.out), by repeat (first | (with_reducible first | exact HB.out | apply below_alloc | apply pw_below_drewN | apply below_drew1 | refine below_set ?_ (IsS3.ge HI5.out)) | exact HB.out), by repeat (first | (with_reducible first | exact HK.out | apply KeepBut.set_ | apply keep_drewN | apply keep_drew | apply keep_alloc) | exact HK.out)⟩
             rw [if_neg c70] at H
             exact absurd H (by simp)
            replace c54 := Bool.eq_false_iff.mpr c54
            subst c54
            have H1 : (if x13_1.length < 140737488355328 then (some ((x13_1 ++ [(x14_2 + 1) % 256]), x6000_1)) else (none)) = some (r1, r2) := by rw [if_neg (show ¬ (false = true) by decide)] at H; exact H
            clear H
            have H := H1
            clear H1
            by_cases c74 : x13_1.length < 140737488355328
            ·
             rw [if_pos c74] at H
             have LMc74 := Aside0.mk c74
             clear c74
             obtain ⟨y217, hy217⟩ : ∃ y_ : List Int, y_ = (x13_1 ++ [(x14_2 + 1) % 256]) := ⟨_, rfl⟩
             replace H : (some (y217, x6000_1)) = some (r1, r2) := by first | (rw [hy217]; with_reducible exact H) | (rw [hy217]; with_reducible exact (hs H :)) | with_reducible exact (hs H :) | with_reducible exact H | (rw [hy217]; exact H) | exact H
             have Ny217 := Aside0.mk hy217
             clear hy217
             simp only [Option.some.injEq, Prod.mk.injEq] at H
             obtain ⟨rfl, rfl⟩ := H
             go_wp2_with (first | ((with_reducible refine gate_callee (f := 46) rfl ?_); refine gL (some 88) Tryd.func46 #[.slice Ao25 x0_2.length co25, .int .i64 1] ?_; (with_reducible refine (num_nat_up.calls kj45 _ _ x0_2 1 t201 _ ?side1 ?side2 A51.out).mono ?_); (case side1 => exact ck (Kd.V_reads' HO_0.out).2.2); (case side2 => exact (Kd.V_reads' HO_0.out).2.1); rintro e w75 ⟨v202, rfl, ho0, hb⟩; refine ⟨_, rfl, ?_⟩; replace HO_0 := vb HO_0 hb; replace HO_2 := vb HO_2 hb; replace HO_3 := vb HO_3 hb; have HO203 := Aside0.mk (Kd.V_lower (Kd.V_mono (ok' := fun k_ => ((P0_ k_ ∨ P2_ k_ ∨ P3_ k_) ∨ w.heap.size ≤ k_) ∧ some k_ ≠ (u13 : Value).ownBlock ∧ k_ ≠ g) ho0 (fun k_ hk_ => ⟨(.inr (Nat.le_trans (keep_size (kk HK)) hk_)), (Kd.fresh' (Kd.R_lt (rk HO_13)) k_ hk_), (IsS3.fresh (ik HI5) k_ hk_)⟩)) (keep_size (kk HK))); replace HO_13 := Aside0.mk (Kd.R_below (rk HO_13) hb); replace HK := Aside0.mk (KeepBut.trans (kk HK) (KeepBut.of_below hb g none) (.inl rfl)); replace HB := Aside0.mk (below_step (li HB HI5) hb); replace HI5 := Aside0.mk (IsS3.below (ik HI5) hb); (try clear hb); (try clear hb2); (try clear hk); (try clear hi); (try clear ho0); obtain ⟨Ao76, co76, eo76⟩ := Kd.V_slice HO203.out; subst eo76) | ((with_reducible refine gate_callee (f := 49) rfl ?_); refine gL (some 90) Tryd.func49 #[.slice Ao76 t201.length co76, .slice A1 l1.length c1] ?_; (with_reducible refine (num_nat_against.calls kj45 _ _ t201 _ _ l1 t204 _ ?side1 ?side2 ?side3 ?side4 A52.out).mono ?_); (case side1 => exact ck (Kd.V_reads' HO203.out).2.2); (case side2 => exact (Kd.V_reads' HO203.out).2.1); (case side3 => exact Kd.C_keep 0 HR1.out (kk HK) hf1); (case side4 => exact HC1.out); rintro e w' ⟨rfl, ⟨nd, rfl⟩⟩; refine ⟨_, rfl, ?_⟩) | ((with_reducible refine gate_builtin (b := .append) (xs := #[.tmp 111, .tmp 113]) rfl ?_); at_builtin; refine Kd.R_append (Kd.int .u8) w.heap.size rfl (.tmp 111) (.tmp 113) 43 5 (.int .u8 0) 1 rfl Tryd.underlying43 info5 rfl (by decide) (by omega) u13 x13_1 ((x14_2 + 1) % 256) [.int .u8 ((x14_2 + 1) % 256)] (fun k_ => (w.heap.size ≤ k_)) (fun _ => False) rfl rfl ?aP (fun _ hk => hk.elim) ?aF ?aO (Below.refl _ _) ?aS ?aL ?_; (case aP => exact rfl); (case aF => exact (fun k_ hk => (Nat.le_trans (keep_size (kk HK)) hk))); (case aO => exact (rk HO_13)); (case aS => exact (keep_size (kk HK))); (case aL => have := LMc74.out; omega); intro v218 w77 ho hb hg hat; rw [← Ny217.out] at ho; replace HO_0 := Aside0.mk (Kd.V_afterv (ok := (fun k_ => ((P0_ k_ ∨ P2_ k_ ∨ P3_ k_) ∨ w.heap.size ≤ k_) ∧ k_ ≠ g)) (by (with_reducible repeat (first | apply Kd.V_alloc | apply Kd.V_drewN | apply Kd.V_drew)); exact Kd.V_mono HO_0.out (fun _ hk => ⟨⟨hk.1, hk.2.2⟩, hk.2.1⟩)) hg hat); replace HO_2 := Aside0.mk (Kd.V_afterv (ok := (fun k_ => ((P0_ k_ ∨ P2_ k_ ∨ P3_ k_) ∨ w.heap.size ≤ k_) ∧ k_ ≠ g)) (by (with_reducible repeat (first | apply Kd.V_alloc | apply Kd.V_drewN | apply Kd.V_drew)); exact Kd.V_mono HO_2.out (fun _ hk => ⟨⟨hk.1, hk.2.2⟩, hk.2.1⟩)) hg hat); replace HO_3 := Aside0.mk (Kd.V_afterv (ok := (fun k_ => ((P0_ k_ ∨ P2_ k_ ∨ P3_ k_) ∨ w.heap.size ≤ k_) ∧ k_ ≠ g)) (by (with_reducible repeat (first | apply Kd.V_alloc | apply Kd.V_drewN | apply Kd.V_drew)); exact Kd.V_mono HO_3.out (fun _ hk => ⟨⟨hk.1, hk.2.2⟩, hk.2.1⟩)) hg hat); replace HO203 := Aside0.mk (Kd.V_afterv (ok := (fun k_ => ((P0_ k_ ∨ P2_ k_ ∨ P3_ k_) ∨ w.heap.size ≤ k_) ∧ k_ ≠ g)) (by (with_reducible repeat (first | apply Kd.V_alloc | apply Kd.V_drewN | apply Kd.V_drew)); exact Kd.V_mono HO203.out (fun _ hk => ⟨⟨hk.1, hk.2.2⟩, hk.2.1⟩)) hg hat); replace HB := Aside0.mk (below_weaken (li HB HI5) HL.out hb); replace HI5 := Aside0.mk (IsS3.grown (ik HI5) hg (IsS3.own_ne HI5.out HO_13.out (by decide))); replace HK := Aside0.mk (KeepBut.trans (kk HK) (KeepBut.of_grown hg g) (Kd.R_base2 HO_13.out)); have HO219 := Aside0.mk (ho); clear HO_13 ho hb hg hat))
             go_ret
             exact ⟨_, by first | rfl | (simp [errW_none, errW_some] <;> rfl) | (simp [*, errW_none, errW_some] <;> rfl), rk HO219, by repeat (first | (with_reducible first | exact HI5.out | apply IsS3.alloc | apply IsS3.drewN | apply IsS3.drew | apply IsS3.set_0) | exact HI5.out), by repeat (first | (with_reducible first | exact HB.out | apply below_alloc | apply pw_below_drewN | apply below_drew1 | refine below_set ?_ (IsS3.ge HI5.out)) | exact HB.out), by repeat (first | (with_reducible first | exact HK.out | apply KeepBut.set_ | apply keep_drewN | apply keep_drew | apply keep_alloc) | exact HK.out)⟩
            rw [if_neg c74] at H
            exact absurd H (by simp)
           replace c53 := Bool.eq_false_iff.mpr c53
           subst c53
           have H1 : (if x13_1.length < 140737488355328 then (some ((x13_1 ++ [x14_2]), x6000_1)) else (none)) = some (r1, r2) := by rw [if_neg (show ¬ (false = true) by decide)] at H; exact H
           clear H
           have H := H1
           clear H1
           by_cases c78 : x13_1.length < 140737488355328
           ·
            rw [if_pos c78] at H
            have LMc78 := Aside0.mk c78
            clear c78
            obtain ⟨y220, hy220⟩ : ∃ y_ : List Int, y_ = (x13_1 ++ [x14_2]) := ⟨_, rfl⟩
            replace H : (some (y220, x6000_1)) = some (r1, r2) := by first | (rw [hy220]; with_reducible exact H) | (rw [hy220]; with_reducible exact (hs H :)) | with_reducible exact (hs H :) | with_reducible exact H | (rw [hy220]; exact H) | exact H
            have Ny220 := Aside0.mk hy220
            clear hy220
            simp only [Option.some.injEq, Prod.mk.injEq] at H
            obtain ⟨rfl, rfl⟩ := H
            go_wp2_with (first | ((with_reducible refine gate_callee (f := 46) rfl ?_); refine gL (some 88) Tryd.func46 #[.slice Ao25 x0_2.length co25, .int .i64 1] ?_; (with_reducible refine (num_nat_up.calls kj45 _ _ x0_2 1 t201 _ ?side1 ?side2 A51.out).mono ?_); (case side1 => exact ck (Kd.V_reads' HO_0.out).2.2); (case side2 => exact (Kd.V_reads' HO_0.out).2.1); rintro e w79 ⟨v202, rfl, ho0, hb⟩; refine ⟨_, rfl, ?_⟩; replace HO_0 := vb HO_0 hb; replace HO_2 := vb HO_2 hb; replace HO_3 := vb HO_3 hb; have HO203 := Aside0.mk (Kd.V_lower (Kd.V_mono (ok' := fun k_ => ((P0_ k_ ∨ P2_ k_ ∨ P3_ k_) ∨ w.heap.size ≤ k_) ∧ some k_ ≠ (u13 : Value).ownBlock ∧ k_ ≠ g) ho0 (fun k_ hk_ => ⟨(.inr (Nat.le_trans (keep_size (kk HK)) hk_)), (Kd.fresh' (Kd.R_lt (rk HO_13)) k_ hk_), (IsS3.fresh (ik HI5) k_ hk_)⟩)) (keep_size (kk HK))); replace HO_13 := Aside0.mk (Kd.R_below (rk HO_13) hb); replace HK := Aside0.mk (KeepBut.trans (kk HK) (KeepBut.of_below hb g none) (.inl rfl)); replace HB := Aside0.mk (below_step (li HB HI5) hb); replace HI5 := Aside0.mk (IsS3.below (ik HI5) hb); (try clear hb); (try clear hb2); (try clear hk); (try clear hi); (try clear ho0); obtain ⟨Ao80, co80, eo80⟩ := Kd.V_slice HO203.out; subst eo80) | ((with_reducible refine gate_callee (f := 49) rfl ?_); refine gL (some 90) Tryd.func49 #[.slice Ao80 t201.length co80, .slice A1 l1.length c1] ?_; (with_reducible refine (num_nat_against.calls kj45 _ _ t201 _ _ l1 t204 _ ?side1 ?side2 ?side3 ?side4 A52.out).mono ?_); (case side1 => exact ck (Kd.V_reads' HO203.out).2.2); (case side2 => exact (Kd.V_reads' HO203.out).2.1); (case side3 => exact Kd.C_keep 0 HR1.out (kk HK) hf1); (case side4 => exact HC1.out); rintro e w' ⟨rfl, ⟨nd, rfl⟩⟩; refine ⟨_, rfl, ?_⟩) | ((with_reducible refine gate_builtin (b := .append) (xs := #[.tmp 111, .tmp 113]) rfl ?_); at_builtin; refine Kd.R_append (Kd.int .u8) w.heap.size rfl (.tmp 111) (.tmp 113) 43 5 (.int .u8 0) 1 rfl Tryd.underlying43 info5 rfl (by decide) (by omega) u13 x13_1 x14_2 [.int .u8 x14_2] (fun k_ => (w.heap.size ≤ k_)) (fun _ => False) rfl rfl ?aP (fun _ hk => hk.elim) ?aF ?aO (Below.refl _ _) ?aS ?aL ?_; (case aP => exact rfl); (case aF => exact (fun k_ hk => (Nat.le_trans (keep_size (kk HK)) hk))); (case aO => exact (rk HO_13)); (case aS => exact (keep_size (kk HK))); (case aL => have := LMc78.out; omega); intro v221 w81 ho hb hg hat; rw [← Ny220.out] at ho; replace HO_0 := Aside0.mk (Kd.V_afterv (ok := (fun k_ => ((P0_ k_ ∨ P2_ k_ ∨ P3_ k_) ∨ w.heap.size ≤ k_) ∧ k_ ≠ g)) (by (with_reducible repeat (first | apply Kd.V_alloc | apply Kd.V_drewN | apply Kd.V_drew)); exact Kd.V_mono HO_0.out (fun _ hk => ⟨⟨hk.1, hk.2.2⟩, hk.2.1⟩)) hg hat); replace HO_2 := Aside0.mk (Kd.V_afterv (ok := (fun k_ => ((P0_ k_ ∨ P2_ k_ ∨ P3_ k_) ∨ w.heap.size ≤ k_) ∧ k_ ≠ g)) (by (with_reducible repeat (first | apply Kd.V_alloc | apply Kd.V_drewN | apply Kd.V_drew)); exact Kd.V_mono HO_2.out (fun _ hk => ⟨⟨hk.1, hk.2.2⟩, hk.2.1⟩)) hg hat); replace HO_3 := Aside0.mk (Kd.V_afterv (ok := (fun k_ => ((P0_ k_ ∨ P2_ k_ ∨ P3_ k_) ∨ w.heap.size ≤ k_) ∧ k_ ≠ g)) (by (with_reducible repeat (first | apply Kd.V_alloc | apply Kd.V_drewN | apply Kd.V_drew)); exact Kd.V_mono HO_3.out (fun _ hk => ⟨⟨hk.1, hk.2.2⟩, hk.2.1⟩)) hg hat); replace HO203 := Aside0.mk (Kd.V_afterv (ok := (fun k_ => ((P0_ k_ ∨ P2_ k_ ∨ P3_ k_) ∨ w.heap.size ≤ k_) ∧ k_ ≠ g)) (by (with_reducible repeat (first | apply Kd.V_alloc | apply Kd.V_drewN | apply Kd.V_drew)); exact Kd.V_mono HO203.out (fun _ hk => ⟨⟨hk.1, hk.2.2⟩, hk.2.1⟩)) hg hat); replace HB := Aside0.mk (below_weaken (li HB HI5) HL.out hb); replace HI5 := Aside0.mk (IsS3.grown (ik HI5) hg (IsS3.own_ne HI5.out HO_13.out (by decide))); replace HK := Aside0.mk (KeepBut.trans (kk HK) (KeepBut.of_grown hg g) (Kd.R_base2 HO_13.out)); have HO222 := Aside0.mk (ho); clear HO_13 ho hb hg hat))
            go_ret
            exact ⟨_, by first | rfl | (simp [errW_none, errW_some] <;> rfl) | (simp [*, errW_none, errW_some] <;> rfl), rk HO222, by repeat (first | (with_reducible first | exact HI5.out | apply IsS3.alloc | apply IsS3.drewN | apply IsS3.drew | apply IsS3.set_0) | exact HI5.out), by repeat (first | (with_reducible first | exact HB.out | apply below_alloc | apply pw_below_drewN | apply below_drew1 | refine below_set ?_ (IsS3.ge HI5.out)) | exact HB.out), by repeat (first | (with_reducible first | exact HK.out | apply KeepBut.set_ | apply keep_drewN | apply keep_drew | apply keep_alloc) | exact HK.out)⟩
           rw [if_neg c78] at H
           exact absurd H (by simp)
def num_units.f  : Option ((List (S98))) := some (([(⟨(⟨#[121]⟩ : ByteArray), 31536000000⟩ : S98), (⟨(⟨#[119]⟩ : ByteArray), 604800000⟩ : S98), (⟨(⟨#[100]⟩ : ByteArray), 86400000⟩ : S98), (⟨(⟨#[104]⟩ : ByteArray), 3600000⟩ : S98), (⟨(⟨#[109]⟩ : ByteArray), 60000⟩ : S98), (⟨(⟨#[115]⟩ : ByteArray), 1000⟩ : S98), (⟨(⟨#[109, 115]⟩ : ByteArray), 1⟩ : S98)] : List (S98)))
set_option maxHeartbeats 8000000 in
set_option maxRecDepth 100000 in
theorem num_units.calls  (r : List (S98)) (w : World) (h : num_units.f  = some r) :
  Calls Tryd.prog 77 #[] w fun e w' => ∃ v0_ : Value, e = .returned (v0_) ∧ Kd.R k98 98 w' w.heap.size (fun _ => True) v0_ r ∧ Below w.heap.size w w' := by
 have hu98 := Tryd.underlying98
 have HB := Aside0.mk (Below.refl w.heap.size w)
 have H : (some (([(⟨(⟨#[121]⟩ : ByteArray), 31536000000⟩ : S98), (⟨(⟨#[119]⟩ : ByteArray), 604800000⟩ : S98), (⟨(⟨#[100]⟩ : ByteArray), 86400000⟩ : S98), (⟨(⟨#[104]⟩ : ByteArray), 3600000⟩ : S98), (⟨(⟨#[109]⟩ : ByteArray), 60000⟩ : S98), (⟨(⟨#[115]⟩ : ByteArray), 1000⟩ : S98), (⟨(⟨#[109, 115]⟩ : ByteArray), 1⟩ : S98)] : List (S98)))) = some r := h
 clear h
 obtain ⟨y606, hy606⟩ : ∃ y_ : List (S98), y_ = (([(⟨(⟨#[121]⟩ : ByteArray), 31536000000⟩ : S98), (⟨(⟨#[119]⟩ : ByteArray), 604800000⟩ : S98), (⟨(⟨#[100]⟩ : ByteArray), 86400000⟩ : S98), (⟨(⟨#[104]⟩ : ByteArray), 3600000⟩ : S98), (⟨(⟨#[109]⟩ : ByteArray), 60000⟩ : S98), (⟨(⟨#[115]⟩ : ByteArray), 1000⟩ : S98), (⟨(⟨#[109, 115]⟩ : ByteArray), 1⟩ : S98)] : List (S98))) := ⟨_, rfl⟩
 replace H : (some y606) = some r := by first | (rw [hy606]; with_reducible exact H) | (rw [hy606]; with_reducible exact (hs H :)) | with_reducible exact (hs H :) | with_reducible exact H | (rw [hy606]; exact H) | exact H
 have Ny606 := Aside0.mk hy606
 clear hy606
 obtain rfl := Option.some.inj H
 go_enter Tryd.func77, Tryd.ntmps77
 go_wp2_with (first | ((with_reducible refine gate_dst (N := 8) rfl ?_); refine Kd.R_lit k98 _ 98 ?hg (N := 8) ?hd (xs := ([(⟨(⟨#[121]⟩ : ByteArray), 31536000000⟩ : S98), (⟨(⟨#[119]⟩ : ByteArray), 604800000⟩ : S98), (⟨(⟨#[100]⟩ : ByteArray), 86400000⟩ : S98), (⟨(⟨#[104]⟩ : ByteArray), 3600000⟩ : S98), (⟨(⟨#[109]⟩ : ByteArray), 60000⟩ : S98), (⟨(⟨#[115]⟩ : ByteArray), 1000⟩ : S98), (⟨(⟨#[109, 115]⟩ : ByteArray), 1⟩ : S98)] : List (S98))) (inner := [.string (⟨#[121]⟩ : ByteArray), .int .i64 31536000000, .string (⟨#[119]⟩ : ByteArray), .int .i64 604800000, .string (⟨#[100]⟩ : ByteArray), .int .i64 86400000, .string (⟨#[104]⟩ : ByteArray), .int .i64 3600000, .string (⟨#[109]⟩ : ByteArray), .int .i64 60000, .string (⟨#[115]⟩ : ByteArray), .int .i64 1000, .string (⟨#[109, 115]⟩ : ByteArray), .int .i64 1]) (ok := fun _ => True) (okp := fun _ => True) ?hr ?hp (fun _ hk => hk) trivial (Below.refl _ _) (Nat.le_refl _) (by simp) ?_; (case hd => rfl); (case hg => rfl); (case hr => first | (go_simp; done) | (go_simp; rfl)); (case hp => exact (Reps.c2 (show Kd.M k98 _ _ _ (⟨(⟨#[121]⟩ : ByteArray), 31536000000⟩ : S98) [.string (⟨#[121]⟩ : ByteArray), .int .i64 31536000000] from (k98_mkM _ _ _ (⟨(⟨#[121]⟩ : ByteArray), 31536000000⟩ : S98) )) (Reps.c2 (show Kd.M k98 _ _ _ (⟨(⟨#[119]⟩ : ByteArray), 604800000⟩ : S98) [.string (⟨#[119]⟩ : ByteArray), .int .i64 604800000] from (k98_mkM _ _ _ (⟨(⟨#[119]⟩ : ByteArray), 604800000⟩ : S98) )) (Reps.c2 (show Kd.M k98 _ _ _ (⟨(⟨#[100]⟩ : ByteArray), 86400000⟩ : S98) [.string (⟨#[100]⟩ : ByteArray), .int .i64 86400000] from (k98_mkM _ _ _ (⟨(⟨#[100]⟩ : ByteArray), 86400000⟩ : S98) )) (Reps.c2 (show Kd.M k98 _ _ _ (⟨(⟨#[104]⟩ : ByteArray), 3600000⟩ : S98) [.string (⟨#[104]⟩ : ByteArray), .int .i64 3600000] from (k98_mkM _ _ _ (⟨(⟨#[104]⟩ : ByteArray), 3600000⟩ : S98) )) (Reps.c2 (show Kd.M k98 _ _ _ (⟨(⟨#[109]⟩ : ByteArray), 60000⟩ : S98) [.string (⟨#[109]⟩ : ByteArray), .int .i64 60000] from (k98_mkM _ _ _ (⟨(⟨#[109]⟩ : ByteArray), 60000⟩ : S98) )) (Reps.c2 (show Kd.M k98 _ _ _ (⟨(⟨#[115]⟩ : ByteArray), 1000⟩ : S98) [.string (⟨#[115]⟩ : ByteArray), .int .i64 1000] from (k98_mkM _ _ _ (⟨(⟨#[115]⟩ : ByteArray), 1000⟩ : S98) )) (Reps.c2 (show Kd.M k98 _ _ _ (⟨(⟨#[109, 115]⟩ : ByteArray), 1⟩ : S98) [.string (⟨#[109, 115]⟩ : ByteArray), .int .i64 1] from (k98_mkM _ _ _ (⟨(⟨#[109, 115]⟩ : ByteArray), 1⟩ : S98) )) (Reps.none _ _))))))))); intro v607 w1 ho2 hb hg_ hnew_; clear hg_ hnew_; (first | rw [← Ny606.out] at ho2 | (simp only [Int.reduceToNat] at ho2; rw [← Ny606.out] at ho2)); have HO608 := Aside0.mk (Kd.R_lower ho2 (below_size (lk HB))); replace HB := lb HB hb; clear hb ho2))
 go_ret
 exact ⟨_, by first | rfl | (simp [errW_none, errW_some] <;> rfl) | (simp [*, errW_none, errW_some] <;> rfl), rk HO608, lk HB⟩
def q_Bits.f (a0 : Nat) (a1 : Nat) : Option (Bool) := some ((a0 : Int) == (a1 : Int))
set_option maxHeartbeats 8000000 in
set_option maxRecDepth 100000 in
theorem q_Bits.calls (a0 : Nat) (a1 : Nat) (r : Bool) (w : World) (h : q_Bits.f a0 a1 = some r) :
  Calls Tryd.prog 20 #[.float .f64 a0, .float .f64 a1] w fun e w' => e = .returned (.bool r) ∧ Drawn0 w w' := by
 have H : (some ((a0 : Int) == (a1 : Int))) = some r := h
 clear h
 obtain rfl := Option.some.inj H
 have hext0 := Hd.ext54
 go_enter Tryd.func20, Tryd.ntmps20
 go_wp2
 go_ret
 exact ⟨by first | rfl | (simp; done) | (simp [*]; done), by repeat (first | exact Drawn0.refl _ | apply Drawn0.step)⟩
end Go.Proofs.YtjlnfnfdibfniaaDoor.F
namespace Go.Proofs.YtjlnfnfdibfniaaDoor.Hd
def decF : Nat → Nat → List UInt8
 | 0, _ => []
 | f + 1, n => (if n < 10 then [] else decF f (n / 10)) ++ [UInt8.ofNat (48 + n % 10)]
def dec (n : Nat) : List UInt8 := decF 20 n
def dec0 (n : Nat) : List UInt8 := if n = 0 then [] else dec n
theorem decF_stable : ∀ (f n : Nat), n < 10 ^ (f + 1) → decF (f + 2) n = decF (f + 1) n
 | 0, n, h => by
  have : n < 10 := by simpa using h
  simp [decF, this]
 | f + 1, n, h => by
  by_cases hn : n < 10
  ·
   simp [decF, hn]
  ·
   have hd : n / 10 < 10 ^ (f + 1) := by
    rw [Nat.pow_succ] at h
    omega
   have := decF_stable f (n / 10) hd
   show (if n < 10 then [] else decF (f + 2) (n / 10)) ++ _ = (if n < 10 then [] else decF (f + 1) (n / 10)) ++ _
   rw [this]
theorem dec_step (n : Nat) (h : n < 10 ^ 20) : dec n = dec0 (n / 10) ++ [UInt8.ofNat (48 + n % 10)] := by
 unfold dec dec0
 by_cases hn : n < 10
 ·
  have : n / 10 = 0 := by omega
  simp [decF, hn, this]
 ·
  have h0 : ¬ n / 10 = 0 := by omega
  rw [if_neg h0]
  have hs : decF 20 (n / 10) = decF 19 (n / 10) := decF_stable 18 (n / 10) (by omega)
  unfold dec
  rw [hs, decF, if_neg hn]
theorem decF_length : ∀ f n, (decF f n).length ≤ f
 | 0, _ => by simp [decF]
 | f + 1, n => by
  have := decF_length f (n / 10)
  rw [decF]
  split <;> simp <;> omega
theorem dec_length (n : Nat) : (dec n).length ≤ 20 := decF_length 20 n
def intText (n : Int) : ByteArray := if n < 0 then ⟨(45 :: dec (-n).toNat).toArray⟩ else ⟨(dec n.toNat).toArray⟩
structure IntLoop (U p m : Nat) (first : Bool) (acc : List UInt8) (arr : Array Value) : Prop where
 hp : p ≤ 20
 hacc : acc.length = 20 - p
 hsz : arr.size = 20
 hcell : ∀ i (h : i < acc.length), arr[p + i]? = some (.int .u8 (acc[i].toNat : Int))
 hold : ∀ i, i < 20 → ∃ v, arr[i]? = some (.int .u8 v)
 hm : m < 10 ^ p
 hU : U < 10 ^ 20
 hrel : (first = true ∧ p = 20 ∧ m = U ∧ acc = []) ∨ (first = false ∧ dec U = dec0 m ++ acc)
theorem IntLoop.start (U : Nat) (hU : U < 10 ^ 20) (arr : Array Value) (h : arr.size = 20) (ho : ∀ i, i < 20 → ∃ v, arr[i]? = some (.int .u8 v)) : IntLoop U 20 U true [] arr :=
 ⟨Nat.le_refl _, rfl, h, fun i hi => by simp at hi, ho, hU, hU, .inl ⟨rfl, rfl, rfl, rfl⟩⟩
theorem IntLoop.round {U q m : Nat} {first : Bool} {acc : List UInt8} {arr : Array Value} (h : IntLoop U (q + 1) m first acc arr) (hgo : first = true ∨ 0 < m) :
  IntLoop U q (m / 10) false (UInt8.ofNat (48 + m % 10) :: acc) (arr.setIfInBounds q (.int .u8 (48 + m % 10 : Nat))) := by
 have hb : (UInt8.ofNat (48 + m % 10)).toNat = 48 + m % 10 := by
  rw [UInt8.toNat_ofNat']; omega
 have hq := h.hp
 refine ⟨by omega, by have := h.hacc; simp; omega, by simpa using h.hsz, ?_, ?_, ?_, h.hU, .inr ⟨rfl, ?_⟩⟩
 ·
  intro i hi
  cases i with
  | zero =>
   simp only [Nat.add_zero, List.getElem_cons_zero, hb]
   rw [Array.getElem?_setIfInBounds_self_of_lt (by rw [h.hsz]; omega)]
  | succ i =>
   have hi' : i < acc.length := by simpa using hi
   have := h.hcell i hi'
   rw [Array.getElem?_setIfInBounds_ne (by omega)]
   simp only [List.getElem_cons_succ]
   rw [show q + (i + 1) = q + 1 + i from by omega]
   exact this
 ·
  intro i hi
  by_cases e : q = i
  ·
   subst e
   exact ⟨_, by rw [Array.getElem?_setIfInBounds_self_of_lt (by rw [h.hsz]; omega)]⟩
  ·
   rw [Array.getElem?_setIfInBounds_ne e]
   exact h.hold i hi
 ·
  have := h.hm
  rw [Nat.pow_succ] at this
  omega
 ·
  have hm20 : m < 10 ^ 20 := Nat.lt_of_lt_of_le h.hm (Nat.pow_le_pow_right (by omega) h.hp)
  rcases h.hrel with ⟨_, _, rfl, rfl⟩ | ⟨hf, hd⟩
  ·
   exact dec_step m hm20
  ·
   have hm0 : m ≠ 0 := by
    rcases hgo with hg | hg
    ·
     rw [hf] at hg; cases hg
    ·
     omega
   rw [hd, show dec0 m = dec m from if_neg hm0, dec_step m hm20, List.append_assoc]
   rfl
theorem IntLoop.exit {U p : Nat} {acc : List UInt8} {arr : Array Value} (h : IntLoop U p 0 false acc arr) : acc = dec U := by
 rcases h.hrel with ⟨hf, _⟩ | ⟨_, hd⟩
 ·
  cases hf
 ·
  rw [hd]; simp [dec0]
theorem dec_ne (n : Nat) : 1 ≤ (dec n).length := by
 unfold dec
 rw [decF]
 simp
theorem IntLoop.lt {U p : Nat} {arr : Array Value} (h : IntLoop U p 0 false (dec U) arr) : p < 20 := by
 have := h.hacc
 have := dec_ne U
 omega
theorem IntLoop.pos {U p m : Nat} {first : Bool} {acc : List UInt8} {arr : Array Value} (h : IntLoop U p m first acc arr) (hgo : first = true ∨ 0 < m) : 1 ≤ p := by
 rcases Nat.eq_zero_or_pos p with rfl | hp
 ·
  have := h.hm
  rcases h.hrel with ⟨_, hp, _⟩ | ⟨hf, _⟩
  ·
   omega
  ·
   rcases hgo with hg | hg
   ·
    rw [hf] at hg; cases hg
   ·
    simp at this; omega
 ·
  exact hp
end Go.Proofs.YtjlnfnfdibfniaaDoor.Hd
namespace Go.Proofs.YtjlnfnfdibfniaaDoor.Hd
open Go.RowKit Go.Proofs.YtjlnfnfdibfniaaDoorW.PrintWords Go.Proofs.YtjlnfnfdibfniaaDoorW.PrintLast
def BRow (w : World) (B : Nat) (bs : List UInt8) : Prop :=
 ∃ C : Array Value, w.heap[B]? = some (.cells C 5 (C.size, C.size + 1)) ∧ bs.length ≤ C.size ∧ ∀ i (h : i < bs.length), C[i]? = some (.int .u8 (bs[i].toNat : Int))
theorem BRow.cell {w : World} {B : Nat} {bs : List UInt8} (h : BRow w B bs) (i : Nat) (hi : i < bs.length) : w.cell? ⟨B, i, none⟩ = some (.int .u8 (bs[i].toNat : Int)) := by
 obtain ⟨C, h1, h2, h3⟩ := h
 unfold World.cell?
 dsimp only
 rw [h1]
 simpa using h3 i hi
theorem BRow.free {w : World} {B : Nat} {bs : List UInt8} (h : BRow w B bs) (i : Nat) (hi : i < bs.length) : w.frozen? ⟨B, i, none⟩ = false := by
 obtain ⟨C, h1, h2, h3⟩ := h
 unfold World.frozen?
 dsimp only
 rw [h1]
 simp
 omega
theorem BRow.set {w : World} {B : Nat} {bs : List UInt8} (h : BRow w B bs) (i : Nat) (v : UInt8) (z : Int) (hz : z = (v.toNat : Int)) : BRow (w.setCell ⟨B, i, none⟩ (.int .u8 z)) B (bs.set i v) := by
 subst hz
 obtain ⟨C, h1, h2, h3⟩ := h
 refine ⟨C.setIfInBounds i (.int .u8 (v.toNat : Int)), ?_, by simpa using h2, ?_⟩
 ·
  unfold World.setCell
  simp only [Array.getElem?_modify, if_true, h1]
  simp
 ·
  intro j hj
  have hj' : j < bs.length := by simpa using hj
  by_cases e : i = j
  ·
   subst e
   rw [Array.getElem?_setIfInBounds_self_of_lt (by omega)]
   simp
  ·
   rw [Array.getElem?_setIfInBounds_ne e, h3 j hj', List.getElem_set_ne e]
theorem BRow.string {w : World} {B : Nat} {bs : List UInt8} (h : BRow w B bs) (n cap : Nat) (hn : n = bs.length) :
  (convert 43 9 (.slice (some ⟨B, 0, none⟩) n cap)).run Tryd.prog w = .ok (.string ⟨bs.toArray⟩) w := by
 subst hn
 refine run_convert_bytes_back w 43 9 5 _ cap bs Tryd.underlying43 Tryd.underlying5 Tryd.underlying9 fun j hj => ?_
 have : (⟨B, 0, none⟩ : Addr).add j = ⟨B, j, none⟩ := by
  unfold Addr.add
  split
  ·
   rename_i e; subst e; rfl
  ·
   simp
 rw [this]
 exact h.cell j hj
theorem BRow.drewN {w : World} {B : Nat} {bs : List UInt8} (h : BRow w B bs) (n : Nat) : BRow (w.drewN n) B bs := h
theorem BRow.drew {w : World} {B : Nat} {bs : List UInt8} (h : BRow w B bs) : BRow w.drew B bs := h
theorem conv_bytes (s : ByteArray) (w : World) : ∃ (cap : Nat) (o : Obj), (convert 9 43 (.string s)).run Tryd.prog w = .ok (.slice (some ⟨w.heap.size, 0, none⟩) s.size cap) ((w.alloc o).drew) ∧ BRow ((w.alloc o).drew) w.heap.size s.data.toList := by
 have h := run_bytes_of_string (P := Tryd.prog) w 9 43 5 s Tryd.underlying9 Tryd.underlying43 Tryd.underlying5
 refine ⟨_, _, h, bytesRow s (grownCap w s.size 0 5), ?_, ?_, ?_⟩
 ·
  show (w.heap.push _)[w.heap.size]? = _
  simp
 ·
  simp [bytesRow]
 ·
  intro i hi
  have hi' : i < s.data.size := by simpa using hi
  unfold bytesRow
  rw [Array.getElem?_append_left (by simpa using hi'), Array.getElem?_map, Array.getElem?_eq_getElem hi']
  rfl
def mixed (f : UInt8 → UInt8) (bs : List UInt8) (i : Nat) : List UInt8 := (bs.take i).map f ++ bs.drop i
theorem mixed_zero (f : UInt8 → UInt8) (bs : List UInt8) : mixed f bs 0 = bs := by simp [mixed]
theorem mixed_length (f : UInt8 → UInt8) (bs : List UInt8) (i : Nat) : (mixed f bs i).length = bs.length := by simp [mixed]; omega
theorem mixed_all (f : UInt8 → UInt8) (bs : List UInt8) : mixed f bs bs.length = bs.map f := by simp [mixed]
theorem mixed_get (f : UInt8 → UInt8) (bs : List UInt8) (i : Nat) (h : i < bs.length) : (mixed f bs i)[i]'(by rw [mixed_length]; exact h) = bs[i] := by
 unfold mixed
 have hl : ((bs.take i).map f).length = i := by simp; omega
 rw [List.getElem_append_right (by omega)]
 simp only [hl, Nat.sub_self, List.getElem_drop, Nat.add_zero]
theorem mixed_set (f : UInt8 → UInt8) (bs : List UInt8) (i : Nat) (h : i < bs.length) : (mixed f bs i).set i (f bs[i]) = mixed f bs (i + 1) := by
 unfold mixed
 have hl : ((bs.take i).map f).length = i := by simp; omega
 rw [List.set_append_right _ _ (by omega), hl, Nat.sub_self, List.drop_eq_getElem_cons h, List.set_cons_zero]
 rw [List.take_succ_eq_append_getElem h, List.map_append, List.append_assoc]
 rfl
theorem mixed_same (f : UInt8 → UInt8) (bs : List UInt8) (i : Nat) (h : i < bs.length) (hf : f bs[i] = bs[i]) : mixed f bs (i + 1) = mixed f bs i := by
 rw [← mixed_set f bs i h, hf]
 apply List.ext_getElem
 ·
  simp
 ·
  intro j h1 h2
  by_cases e : i = j
  ·
   subst e
   simp [mixed_get f bs i h]
  ·
   rw [List.getElem_set_ne e]
end Go.Proofs.YtjlnfnfdibfniaaDoor.Hd
namespace Go.Proofs.YtjlnfnfdibfniaaDoor.Hd
open Go.RowKit Go.Proofs.YtjlnfnfdibfniaaDoorW.PrintWords Go.Proofs.YtjlnfnfdibfniaaDoorW.PrintLast
def low (c : UInt8) : UInt8 := if 65 ≤ c.toNat ∧ c.toNat ≤ 90 then UInt8.ofNat (c.toNat + 32) else c
theorem low_hit (c : UInt8) (h1 : 65 ≤ c.toNat) (h2 : c.toNat ≤ 90) : ((low c).toNat : Int) = (c.toNat : Int) + 32 := by
 unfold low
 rw [if_pos ⟨h1, h2⟩, UInt8.toNat_ofNat']
 omega
def smallF (s : ByteArray) : ByteArray := ⟨(s.data.toList.map low).toArray⟩
def num_small.f (a0 : ByteArray) : Option ByteArray := if a0.size ≤ 9223372036854775807 then some (smallF a0) else none
set_option maxHeartbeats 2000000 in
set_option maxRecDepth 100000 in
theorem small_any (s : ByteArray) (w : World) (hs : s.size ≤ 9223372036854775807) :
  Calls Tryd.prog 65 #[.string s] w fun e w' => e = .returned (.string (smallF s)) ∧ Below w.heap.size w w' := by
 obtain ⟨cap, o, hrun, hrow⟩ := conv_bytes s w
 have HW := Aside0.mk (rfl : s.data.toList.length = s.size)
 obtain ⟨bs, hbs⟩ : ∃ bs, bs = s.data.toList := ⟨_, rfl⟩
 obtain ⟨n, hn⟩ : ∃ n, n = s.size := ⟨_, rfl⟩
 rw [← hn] at hs hrun
 rw [← hbs] at hrow
 have HN := Aside0.mk hn
 have HBS := Aside0.mk hbs
 have HRow := Aside0.mk hrow
 have hlen : Aside0 (bs.length = n) := ⟨by rw [hbs, hn]; rfl⟩
 clear hn hbs hrow HW
 go_enter Tryd.func65, Tryd.ntmps65
 go_wp2
 go_loopg [10] (n + 1) (fun kq v10 wr => ∃ i : Nat, v10 = .int .i64 (i : Int) ∧ i ≤ n ∧ Aside0 (BRow wr w.heap.size (mixed low bs i)) ∧ Aside0 (Below w.heap.size w wr) ∧ Aside0 (n - i < kq))
 case atStart => exact ⟨0, rfl, Nat.zero_le _, ⟨by rw [mixed_zero]; exact HRow.out⟩, ⟨below_drew1 ((Below.refl _ _).alloc (Nat.le_refl _) _)⟩, ⟨by omega⟩⟩
 case round =>
  obtain ⟨i, rfl, hi, HR, HB, HK⟩ := hrel
  by_cases hlt : i < n
  ·
   obtain ⟨c, hcell, hfree, HC, HD⟩ : ∃ c : UInt8, wr.cell? ⟨w.heap.size, i, none⟩ = some (.int .u8 (c.toNat : Int)) ∧ wr.frozen? ⟨w.heap.size, i, none⟩ = false ∧
     Aside0 (∀ z : Int, z = ((low c).toNat : Int) → BRow (wr.setCell ⟨w.heap.size, i, none⟩ (.int .u8 z)) w.heap.size (mixed low bs (i + 1))) ∧
     Aside0 (low c = c → BRow wr w.heap.size (mixed low bs (i + 1))) := by
    have hil : i < bs.length := by rw [hlen.out]; exact hlt
    have hil' : i < (mixed low bs i).length := by rw [mixed_length]; exact hil
    refine ⟨bs[i], ?_, HR.out.free i hil', ⟨fun z hz => ?_⟩, ⟨fun h => ?_⟩⟩
    ·
     rw [← mixed_get low bs i hil]; exact HR.out.cell i hil'
    ·
     rw [← mixed_set low bs i hil]; exact HR.out.set i _ z hz
    ·
     rw [mixed_same low bs i hil h]; exact HR.out
   clear HR
   have hc255 := c.toNat_lt
   by_cases h1 : 65 ≤ c.toNat
   ·
    by_cases h2 : c.toNat ≤ 90
    ·
     have hb1 : decide ((65 : Int) ≤ (c.toNat : Int)) = true := by simp; omega
     have hb2 : decide ((c.toNat : Int) ≤ (90 : Int)) = true := by simp; omega
     go_wp2
     go_roundg (gk - 1)
     case measure => have := HK.out; omega
     case rel => exact ⟨i + 1, by go_num, by omega, ⟨HC.out _ (by rw [low_hit c h1 h2] <;> omega)⟩, ⟨below_set HB.out (Nat.le_refl _)⟩, ⟨by have := HK.out; omega⟩⟩
    ·
     have hb1 : decide ((65 : Int) ≤ (c.toNat : Int)) = true := by simp; omega
     have hb2 : decide ((c.toNat : Int) ≤ (90 : Int)) = false := by simp; omega
     go_wp2
     go_roundg (gk - 1)
     case measure => have := HK.out; omega
     case rel => exact ⟨i + 1, by go_num, by omega, ⟨HD.out (by unfold low; rw [if_neg (by omega)])⟩, HB, ⟨by have := HK.out; omega⟩⟩
   ·
    have hb1 : decide ((65 : Int) ≤ (c.toNat : Int)) = false := by simp; omega
    go_wp2
    go_roundg (gk - 1)
    case measure => have := HK.out; omega
    case rel => exact ⟨i + 1, by go_num, by omega, ⟨HD.out (by unfold low; rw [if_neg (by omega)])⟩, HB, ⟨by have := HK.out; omega⟩⟩
  ·
   obtain rfl : i = n := by omega
   have hst := HR.out.string i cap (by rw [mixed_length]; exact hlen.out.symm)
   have he : Aside0 (ByteArray.mk (mixed low bs i).toArray = smallF s) := ⟨by rw [← hlen.out, mixed_all, HBS.out]; rfl⟩
   go_wp2
   go_ret
   exact ⟨by rw [← he.out]; rfl, HB.out⟩
theorem num_small.calls (a0 : ByteArray) (r : ByteArray) (w : World) (h : num_small.f a0 = some r) :
  Calls Tryd.prog 65 #[.string a0] w fun e w' => e = .returned (.string r) ∧ Below w.heap.size w w' := by
 unfold num_small.f at h
 split at h
 ·
  cases h
  exact small_any a0 w (by assumption)
 ·
  cases h
def r_lower.f (a0 : ByteArray) : Option ByteArray := if a0.size ≤ 9223372036854775807 then some (smallF a0) else none
set_option maxHeartbeats 2000000 in
set_option maxRecDepth 100000 in
theorem lower_any (s : ByteArray) (w : World) (hs : s.size ≤ 9223372036854775807) :
  Calls Tryd.prog 68 #[.string s] w fun e w' => e = .returned (.string (smallF s)) ∧ Below w.heap.size w w' := by
 obtain ⟨cap, o, hrun, hrow⟩ := conv_bytes s w
 have HW := Aside0.mk (rfl : s.data.toList.length = s.size)
 obtain ⟨bs, hbs⟩ : ∃ bs, bs = s.data.toList := ⟨_, rfl⟩
 obtain ⟨n, hn⟩ : ∃ n, n = s.size := ⟨_, rfl⟩
 rw [← hn] at hs hrun
 rw [← hbs] at hrow
 have HN := Aside0.mk hn
 have HBS := Aside0.mk hbs
 have HRow := Aside0.mk hrow
 have hlen : Aside0 (bs.length = n) := ⟨by rw [hbs, hn]; rfl⟩
 clear hn hbs hrow HW
 go_enter Tryd.func68, Tryd.ntmps68
 go_wp2
 go_loopg [4] (n + 1) (fun kq v4 wr => ∃ i : Nat, v4 = .int .i64 (i : Int) ∧ i ≤ n ∧ Aside0 (BRow wr w.heap.size (mixed low bs i)) ∧ Aside0 (Below w.heap.size w wr) ∧ Aside0 (n - i < kq))
 case atStart => exact ⟨0, rfl, Nat.zero_le _, ⟨by rw [mixed_zero]; exact HRow.out⟩, ⟨below_drew1 ((Below.refl _ _).alloc (Nat.le_refl _) _)⟩, ⟨by omega⟩⟩
 case round =>
  obtain ⟨i, rfl, hi, HR, HB, HK⟩ := hrel
  by_cases hlt : i < n
  ·
   obtain ⟨c, hcell, hfree, HC, HD⟩ : ∃ c : UInt8, wr.cell? ⟨w.heap.size, i, none⟩ = some (.int .u8 (c.toNat : Int)) ∧ wr.frozen? ⟨w.heap.size, i, none⟩ = false ∧
     Aside0 (∀ z : Int, z = ((low c).toNat : Int) → BRow (wr.setCell ⟨w.heap.size, i, none⟩ (.int .u8 z)) w.heap.size (mixed low bs (i + 1))) ∧
     Aside0 (low c = c → BRow wr w.heap.size (mixed low bs (i + 1))) := by
    have hil : i < bs.length := by rw [hlen.out]; exact hlt
    have hil' : i < (mixed low bs i).length := by rw [mixed_length]; exact hil
    refine ⟨bs[i], ?_, HR.out.free i hil', ⟨fun z hz => ?_⟩, ⟨fun h => ?_⟩⟩
    ·
     rw [← mixed_get low bs i hil]; exact HR.out.cell i hil'
    ·
     rw [← mixed_set low bs i hil]; exact HR.out.set i _ z hz
    ·
     rw [mixed_same low bs i hil h]; exact HR.out
   clear HR
   have hc255 := c.toNat_lt
   by_cases h1 : 65 ≤ c.toNat
   ·
    by_cases h2 : c.toNat ≤ 90
    ·
     have hb1 : decide ((65 : Int) ≤ (c.toNat : Int)) = true := by simp; omega
     have hb2 : decide ((c.toNat : Int) ≤ (90 : Int)) = true := by simp; omega
     go_wp2
     go_roundg (gk - 1)
     case measure => have := HK.out; omega
     case rel => exact ⟨i + 1, by go_num, by omega, ⟨HC.out _ (by rw [low_hit c h1 h2] <;> omega)⟩, ⟨below_set HB.out (Nat.le_refl _)⟩, ⟨by have := HK.out; omega⟩⟩
    ·
     have hb1 : decide ((65 : Int) ≤ (c.toNat : Int)) = true := by simp; omega
     have hb2 : decide ((c.toNat : Int) ≤ (90 : Int)) = false := by simp; omega
     go_wp2
     go_roundg (gk - 1)
     case measure => have := HK.out; omega
     case rel => exact ⟨i + 1, by go_num, by omega, ⟨HD.out (by unfold low; rw [if_neg (by omega)])⟩, HB, ⟨by have := HK.out; omega⟩⟩
   ·
    have hb1 : decide ((65 : Int) ≤ (c.toNat : Int)) = false := by simp; omega
    go_wp2
    go_roundg (gk - 1)
    case measure => have := HK.out; omega
    case rel => exact ⟨i + 1, by go_num, by omega, ⟨HD.out (by unfold low; rw [if_neg (by omega)])⟩, HB, ⟨by have := HK.out; omega⟩⟩
  ·
   obtain rfl : i = n := by omega
   have hst := HR.out.string i cap (by rw [mixed_length]; exact hlen.out.symm)
   have he : Aside0 (ByteArray.mk (mixed low bs i).toArray = smallF s) := ⟨by rw [← hlen.out, mixed_all, HBS.out]; rfl⟩
   go_wp2
   go_ret
   exact ⟨by rw [← he.out]; rfl, HB.out⟩
theorem r_lower.calls (a0 : ByteArray) (r : ByteArray) (w : World) (h : r_lower.f a0 = some r) :
  Calls Tryd.prog 68 #[.string a0] w fun e w' => e = .returned (.string r) ∧ Below w.heap.size w w' := by
 unfold r_lower.f at h
 split at h
 ·
  cases h
  exact lower_any a0 w (by assumption)
 ·
  cases h
def lessR : List UInt8 → List UInt8
 | [] => []
 | c :: r => if 48 < c.toNat then UInt8.ofNat (c.toNat - 1) :: r else 57 :: lessR r
def timesR : List UInt8 → List UInt8
 | [] => [49]
 | c :: r => if c.toNat < 57 then UInt8.ofNat (c.toNat + 1) :: r else 48 :: timesR r
def tail (d : UInt8) (bs : List UInt8) (n j : Nat) : List UInt8 := bs.take j ++ List.replicate (n - j) d
theorem tail_all (d : UInt8) (bs : List UInt8) : tail d bs bs.length bs.length = bs := by simp [tail]
theorem tail_length (d : UInt8) (bs : List UInt8) (n j : Nat) (hn : bs.length = n) (h : j ≤ n) : (tail d bs n j).length = n := by simp [tail]; omega
theorem tail_get (d : UInt8) (bs : List UInt8) (n i : Nat) (hn : bs.length = n) (h : i < n) : (tail d bs n (i + 1))[i]'(by rw [tail_length d bs n _ hn (by omega)]; exact h) = bs[i]'(by omega) := by
 unfold tail
 rw [List.getElem_append_left (by rw [List.length_take]; omega)]
 simp
theorem tail_set (d v : UInt8) (bs : List UInt8) (n i : Nat) (hn : bs.length = n) (h : i < n) : (tail d bs n (i + 1)).set i v = bs.take i ++ v :: List.replicate (n - (i + 1)) d := by
 unfold tail
 rw [List.take_succ_eq_append_getElem (by omega)]
 have hl : (bs.take i).length = i := by rw [List.length_take]; omega
 rw [List.append_assoc, List.set_append_right _ _ (by omega), hl, Nat.sub_self]
 simp
theorem tail_next (d : UInt8) (bs : List UInt8) (n i : Nat) (hn : bs.length = n) (h : i < n) : (tail d bs n (i + 1)).set i d = tail d bs n i := by
 rw [tail_set d d bs n i hn h]
 unfold tail
 rw [show n - i = n - (i + 1) + 1 from by omega, List.replicate_succ]
theorem rev_take (bs : List UInt8) (i : Nat) (h : i < bs.length) : (bs.take (i + 1)).reverse = bs[i] :: (bs.take i).reverse := by
 rw [List.take_succ_eq_append_getElem h]
 simp
theorem rep_snoc (n i : Nat) (h : i < n) (d : UInt8) (l : List UInt8) : List.replicate (n - (i + 1)) d ++ d :: l = List.replicate (n - i) d ++ l := by
 rw [show n - i = n - (i + 1) + 1 from by omega, List.replicate_succ', List.append_assoc]
 rfl
def lessF (s : ByteArray) : ByteArray := ⟨(lessR s.data.toList.reverse).reverse.toArray⟩
def w_less.f (a0 : ByteArray) : Option ByteArray := if a0.size ≤ 140737488355328 then some (lessF a0) else none
theorem less_hit (bs : List UInt8) (n i : Nat) (hn : bs.length = n) (h : i < n) (c : UInt8) (hc : c = bs[i]'(by omega)) (ht : 48 < c.toNat)
  (hR : lessR bs.reverse = List.replicate (n - (i + 1)) 57 ++ lessR (bs.take (i + 1)).reverse) :
  (tail 57 bs n (i + 1)).set i (UInt8.ofNat (c.toNat - 1)) = (lessR bs.reverse).reverse := by
 rw [hR, rev_take bs i (by omega), ← hc, lessR, if_pos ht, tail_set _ _ _ _ _ hn h]
 simp
theorem less_miss (bs : List UInt8) (n i : Nat) (hn : bs.length = n) (h : i < n) (c : UInt8) (hc : c = bs[i]'(by omega)) (ht : ¬ 48 < c.toNat)
  (hR : lessR bs.reverse = List.replicate (n - (i + 1)) 57 ++ lessR (bs.take (i + 1)).reverse) :
  lessR bs.reverse = List.replicate (n - i) 57 ++ lessR (bs.take i).reverse := by
 rw [hR, rev_take bs i (by omega), ← hc, lessR, if_neg ht, rep_snoc n i h]
set_option maxHeartbeats 2000000 in
set_option maxRecDepth 100000 in
theorem less_any (s : ByteArray) (w : World) (hs : s.size ≤ 140737488355328) :
  Calls Tryd.prog 24 #[.string s] w fun e w' => e = .returned (.string (lessF s)) ∧ Below w.heap.size w w' := by
 obtain ⟨cap, o, hrun, hrow⟩ := conv_bytes s w
 obtain ⟨bs, hbs⟩ : ∃ bs, bs = s.data.toList := ⟨_, rfl⟩
 obtain ⟨n, hn⟩ : ∃ n, n = s.size := ⟨_, rfl⟩
 rw [← hn] at hs hrun
 rw [← hbs] at hrow
 have HN := Aside0.mk hn
 have HBS := Aside0.mk hbs
 have HRow := Aside0.mk hrow
 have hlen : Aside0 (bs.length = n) := ⟨by rw [hbs, hn]; rfl⟩
 clear hn hbs hrow
 go_enter Tryd.func24, Tryd.ntmps24
 go_wp2
 go_loopg [4] (n + 1) (fun kq v4 wr => ∃ (z : Int) (j : Nat), v4 = .int .i64 z ∧ Aside0 (z + 1 = (j : Int)) ∧ j ≤ n ∧ Aside0 (BRow wr w.heap.size (tail 57 bs n j)) ∧ Aside0 (Below w.heap.size w wr) ∧ Aside0 (j < kq) ∧
   Aside0 (lessR bs.reverse = List.replicate (n - j) 57 ++ lessR (bs.take j).reverse))
 case atStart => exact ⟨_, n, rfl, ⟨by omega⟩, Nat.le_refl _, ⟨by have h := hlen.out; subst h; rw [tail_all]; exact HRow.out⟩, ⟨below_drew1 ((Below.refl _ _).alloc (Nat.le_refl _) _)⟩, ⟨by omega⟩, ⟨by have h := hlen.out; subst h; simp⟩⟩
 case round =>
  obtain ⟨z, j, rfl, HZ, hj, HR, HB, HK, HT⟩ := hrel
  rcases j with _ | i
  ·
   obtain rfl : z = -1 := by have := HZ.out; omega
   have hst := HR.out.string n cap (by rw [tail_length _ _ _ _ hlen.out (by omega)])
   have he : Aside0 (ByteArray.mk (tail 57 bs n 0).toArray = lessF s) := ⟨by
    unfold lessF
    rw [← HBS.out, HT.out]
    simp [tail, lessR]⟩
   have hsz : (tail 57 bs n 0).length = n := by rw [tail_length _ _ _ _ hlen.out (by omega)]
   go_wp2
   go_ret
   exact ⟨by rw [← he.out]; rfl, HB.out⟩
  ·
   obtain rfl : z = (i : Int) := by have := HZ.out; omega
   obtain ⟨c, hcell, hfree, HC⟩ : ∃ c : UInt8, wr.cell? ⟨w.heap.size, i, none⟩ = some (.int .u8 (c.toNat : Int)) ∧ wr.frozen? ⟨w.heap.size, i, none⟩ = false ∧ Aside0 (c = bs[i]'(by have := hlen.out; omega)) := by
    have hil' : i < (tail 57 bs n (i + 1)).length := by rw [tail_length _ _ _ _ hlen.out hj]; omega
    refine ⟨bs[i]'(by have := hlen.out; omega), ?_, HR.out.free i hil', ⟨rfl⟩⟩
    rw [← tail_get 57 bs n i hlen.out (by omega)]; exact HR.out.cell i hil'
   have hc255 := c.toNat_lt
   by_cases h1 : 48 < c.toNat
   ·
    have hb1 : decide ((48 : Int) < (c.toNat : Int)) = true := by simp; omega
    have hnext := HR.out.set i (UInt8.ofNat (c.toNat - 1)) ((c.toNat : Int) - 1) (by rw [UInt8.toNat_ofNat']; omega)
    rw [less_hit bs n i hlen.out (by omega) c HC.out h1 HT.out] at hnext
    have hst := hnext.string n cap (by
     have := congrArg List.length (less_hit bs n i hlen.out (by omega) c HC.out h1 HT.out)
     rw [List.length_set, tail_length _ _ _ _ hlen.out hj] at this
     exact this)
    clear hnext
    have he : Aside0 (ByteArray.mk (lessR bs.reverse).reverse.toArray = lessF s) := ⟨by rw [HBS.out]; rfl⟩
    obtain ⟨res, hres⟩ : ∃ l, l = (lessR bs.reverse).reverse := ⟨_, rfl⟩
    rw [← hres] at hst
    have HRes := Aside0.mk hres
    clear hres
    go_wp2
    go_ret
    exact ⟨by rw [← he.out, ← HRes.out]; rfl, below_set HB.out (Nat.le_refl _)⟩
   ·
    have hb1 : decide ((48 : Int) < (c.toNat : Int)) = false := by simp; omega
    have HN2 := Aside0.mk (HR.out.set i 57 57 rfl)
    have HT2 := Aside0.mk (less_miss bs n i hlen.out (by omega) c HC.out h1 HT.out)
    go_wp2
    go_roundg (gk - 1)
    case measure => have := HK.out; omega
    case rel => exact ⟨_, i, rfl, ⟨by omega⟩, by omega, ⟨by rw [← tail_next 57 bs n i hlen.out (by omega)]; exact HN2.out⟩, ⟨below_set HB.out (Nat.le_refl _)⟩, ⟨by have := HK.out; omega⟩, HT2⟩
theorem w_less.calls (a0 : ByteArray) (r : ByteArray) (w : World) (h : w_less.f a0 = some r) :
  Calls Tryd.prog 24 #[.string a0] w fun e w' => e = .returned (.string r) ∧ Below w.heap.size w w' := by
 unfold w_less.f at h
 split at h
 ·
  cases h
  exact less_any a0 w (by assumption)
 ·
  cases h
def timesF (s : ByteArray) : ByteArray := ⟨(timesR s.data.toList.reverse).reverse.toArray⟩
def w_times.f (a0 : ByteArray) : Option ByteArray := if a0.size ≤ 140737488355328 then some (timesF a0) else none
theorem times_hit (bs : List UInt8) (n i : Nat) (hn : bs.length = n) (h : i < n) (c : UInt8) (hc : c = bs[i]'(by omega)) (ht : c.toNat < 57)
  (hR : timesR bs.reverse = List.replicate (n - (i + 1)) 48 ++ timesR (bs.take (i + 1)).reverse) :
  (tail 48 bs n (i + 1)).set i (UInt8.ofNat (c.toNat + 1)) = (timesR bs.reverse).reverse := by
 rw [hR, rev_take bs i (by omega), ← hc, timesR, if_pos ht, tail_set _ _ _ _ _ hn h]
 simp
theorem times_miss (bs : List UInt8) (n i : Nat) (hn : bs.length = n) (h : i < n) (c : UInt8) (hc : c = bs[i]'(by omega)) (ht : ¬ c.toNat < 57)
  (hR : timesR bs.reverse = List.replicate (n - (i + 1)) 48 ++ timesR (bs.take (i + 1)).reverse) :
  timesR bs.reverse = List.replicate (n - i) 48 ++ timesR (bs.take i).reverse := by
 rw [hR, rev_take bs i (by omega), ← hc, timesR, if_neg ht, rep_snoc n i h]
set_option maxHeartbeats 2000000 in
set_option maxRecDepth 100000 in
theorem times_any (s : ByteArray) (w : World) (hs : s.size ≤ 140737488355328) :
  Calls Tryd.prog 27 #[.string s] w fun e w' => e = .returned (.string (timesF s)) ∧ Below w.heap.size w w' := by
 obtain ⟨cap, o, hrun, hrow⟩ := conv_bytes s w
 obtain ⟨bs, hbs⟩ : ∃ bs, bs = s.data.toList := ⟨_, rfl⟩
 obtain ⟨n, hn⟩ : ∃ n, n = s.size := ⟨_, rfl⟩
 rw [← hn] at hs hrun
 rw [← hbs] at hrow
 have HN := Aside0.mk hn
 have HBS := Aside0.mk hbs
 have HRow := Aside0.mk hrow
 have hlen : Aside0 (bs.length = n) := ⟨by rw [hbs, hn]; rfl⟩
 clear hn hbs hrow
 go_enter Tryd.func27, Tryd.ntmps27
 go_wp2
 go_loopg [4] (n + 1) (fun kq v4 wr => ∃ (z : Int) (j : Nat), v4 = .int .i64 z ∧ Aside0 (z + 1 = (j : Int)) ∧ j ≤ n ∧ Aside0 (BRow wr w.heap.size (tail 48 bs n j)) ∧ Aside0 (Below w.heap.size w wr) ∧ Aside0 (j < kq) ∧
   Aside0 (timesR bs.reverse = List.replicate (n - j) 48 ++ timesR (bs.take j).reverse))
 case atStart => exact ⟨_, n, rfl, ⟨by omega⟩, Nat.le_refl _, ⟨by have h := hlen.out; subst h; rw [tail_all]; exact HRow.out⟩, ⟨below_drew1 ((Below.refl _ _).alloc (Nat.le_refl _) _)⟩, ⟨by omega⟩, ⟨by have h := hlen.out; subst h; simp⟩⟩
 case round =>
  obtain ⟨z, j, rfl, HZ, hj, HR, HB, HK, HT⟩ := hrel
  rcases j with _ | i
  ·
   obtain rfl : z = -1 := by have := HZ.out; omega
   have hst := HR.out.string n cap (by rw [tail_length _ _ _ _ hlen.out (by omega)])
   have he : Aside0 (ByteArray.mk (49 :: tail 48 bs n 0).toArray = timesF s) := ⟨by
    unfold timesF
    rw [← HBS.out, HT.out]
    simp [tail, timesR]⟩
   have hsz : (tail 48 bs n 0).length = n := by rw [tail_length _ _ _ _ hlen.out (by omega)]
   go_wp2
   go_ret
   exact ⟨by rw [← he.out]; rfl, HB.out⟩
  ·
   obtain rfl : z = (i : Int) := by have := HZ.out; omega
   obtain ⟨c, hcell, hfree, HC⟩ : ∃ c : UInt8, wr.cell? ⟨w.heap.size, i, none⟩ = some (.int .u8 (c.toNat : Int)) ∧ wr.frozen? ⟨w.heap.size, i, none⟩ = false ∧ Aside0 (c = bs[i]'(by have := hlen.out; omega)) := by
    have hil' : i < (tail 48 bs n (i + 1)).length := by rw [tail_length _ _ _ _ hlen.out hj]; omega
    refine ⟨bs[i]'(by have := hlen.out; omega), ?_, HR.out.free i hil', ⟨rfl⟩⟩
    rw [← tail_get 48 bs n i hlen.out (by omega)]; exact HR.out.cell i hil'
   have hc255 := c.toNat_lt
   by_cases h1 : c.toNat < 57
   ·
    have hb1 : decide ((c.toNat : Int) < (57 : Int)) = true := by simp; omega
    have hnext := HR.out.set i (UInt8.ofNat (c.toNat + 1)) ((c.toNat : Int) + 1) (by rw [UInt8.toNat_ofNat']; omega)
    rw [times_hit bs n i hlen.out (by omega) c HC.out h1 HT.out] at hnext
    have hst := hnext.string n cap (by
     have := congrArg List.length (times_hit bs n i hlen.out (by omega) c HC.out h1 HT.out)
     rw [List.length_set, tail_length _ _ _ _ hlen.out hj] at this
     exact this)
    clear hnext
    have he : Aside0 (ByteArray.mk (timesR bs.reverse).reverse.toArray = timesF s) := ⟨by rw [HBS.out]; rfl⟩
    obtain ⟨res, hres⟩ : ∃ l, l = (timesR bs.reverse).reverse := ⟨_, rfl⟩
    rw [← hres] at hst
    have HRes := Aside0.mk hres
    clear hres
    go_wp2
    go_ret
    exact ⟨by rw [← he.out, ← HRes.out]; rfl, below_set HB.out (Nat.le_refl _)⟩
   ·
    have hb1 : decide ((c.toNat : Int) < (57 : Int)) = false := by simp; omega
    have HN2 := Aside0.mk (HR.out.set i 48 48 rfl)
    have HT2 := Aside0.mk (times_miss bs n i hlen.out (by omega) c HC.out h1 HT.out)
    go_wp2
    go_roundg (gk - 1)
    case measure => have := HK.out; omega
    case rel => exact ⟨_, i, rfl, ⟨by omega⟩, by omega, ⟨by rw [← tail_next 48 bs n i hlen.out (by omega)]; exact HN2.out⟩, ⟨below_set HB.out (Nat.le_refl _)⟩, ⟨by have := HK.out; omega⟩, HT2⟩
theorem w_times.calls (a0 : ByteArray) (r : ByteArray) (w : World) (h : w_times.f a0 = some r) :
  Calls Tryd.prog 27 #[.string a0] w fun e w' => e = .returned (.string r) ∧ Below w.heap.size w w' := by
 unfold w_times.f at h
 split at h
 ·
  cases h
  exact times_any a0 w (by assumption)
 ·
  cases h
end Go.Proofs.YtjlnfnfdibfniaaDoor.Hd

