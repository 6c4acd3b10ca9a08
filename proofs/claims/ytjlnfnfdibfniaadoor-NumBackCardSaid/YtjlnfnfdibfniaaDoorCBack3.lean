/- Words and walked functions of the proof (part 3). -/
import Derived.Test.YtjlnfnfdibfniaaDoorCBack2
import Derived.Below
import Derived.Laws.IdiomStrings
import Derived.Outline
import Derived.Shelf.Small.Bits
import Derived.Shelf.Strconv.Itoa0
import Derived.Shelf.Strings.Repeat
import Derived.Test.YtjlnfnfdibfniaaDoorProg
namespace Go.Proofs.YtjlnfnfdibfniaaDoor.F
open Go.RowKit Go.Proofs.YtjlnfnfdibfniaaDoorW.PrintWords Go.Proofs.YtjlnfnfdibfniaaDoorW.PrintLast Go.Proofs.YtjlnfnfdibfniaaDoorW.PrintMore
attribute [local go_sem] max2_int min2_int max_two min_two max_three min_three max_four min_four
set_option linter.unusedVariables false
set_option linter.unusedSimpArgs false
mutual
def num_read.j0 : Nat → ByteArray → ByteArray → Int → Option (ByteArray × Int × Bool)
 | 0, _, _, _ => none
 | k + 1, x0, x556000, x556001 => if x556000.toList = ([] : List UInt8) then (some (x556000, x556001, false)) else ((strings_TrimLeft.f k x556000 (⟨#[48]⟩ : ByteArray)).bind fun t563 => (if x0.toList = ([] : List UInt8) then (some (t563, x556001, true)) else (if 0 < (x0.size : Int) then (if (bt x0 0) = 101 then (num_read.j1 k x0 false t563 x556001) else (num_read.j1 k x0 ((bt x0 0) != 69) t563 x556001)) else (none))))
def num_read.j1 : Nat → ByteArray → Bool → ByteArray → Int → Option (ByteArray × Int × Bool)
 | 0, _, _, _, _ => none
 | k + 1, x0, x56, x556000, x556001 => if x56 = true then (some (x556000, x556001, false)) else (if 1 ≤ (x0.size : Int) then ((some (x0.extract 1 x0.size : ByteArray)).bind fun y564 => (if y564.toList = ([] : List UInt8) then (num_read.j2 k y564 1 false x556000 x556001) else (if 0 < (y564.size : Int) then (if (bt y564 0) = 43 then (num_read.j2 k y564 1 true x556000 x556001) else (num_read.j2 k y564 1 ((bt y564 0) == 45) x556000 x556001)) else (none)))) else (none))
def num_read.j2 : Nat → ByteArray → Int → Bool → ByteArray → Int → Option (ByteArray × Int × Bool)
 | 0, _, _, _, _, _ => none
 | k + 1, x0, x6, x71, x556000, x556001 => if x71 = true then (if 0 < (x0.size : Int) then (if (bt x0 0) = 45 then (if 1 ≤ (x0.size : Int) then (num_read.j3 k (x0.extract 1 x0.size) (-1) x556000 x556001) else (none)) else (if 1 ≤ (x0.size : Int) then (num_read.j3 k (x0.extract 1 x0.size) x6 x556000 x556001) else (none))) else (none)) else (num_read.j3 k x0 x6 x556000 x556001)
def num_read.j3 : Nat → ByteArray → Int → ByteArray → Int → Option (ByteArray × Int × Bool)
 | 0, _, _, _, _ => none
 | k + 1, x0, x6, x556000, x556001 => if x0.toList = ([] : List UInt8) then (num_read.j4 k x0 x6 true x556000 x556001) else ((num_run.f k x0).bind fun t567 => (num_read.j4 k x0 x6 (t567 != (x0.size : Int)) x556000 x556001))
def num_read.j4 : Nat → ByteArray → Int → Bool → ByteArray → Int → Option (ByteArray × Int × Bool)
 | 0, _, _, _, _, _ => none
 | k + 1, x0, x6, x85, x556000, x556001 => if x85 = true then (some (x556000, x556001, false)) else (num_read.l0 k x0 x6 0 (x0.size : Int) 0 x556000 x556001)
def num_read.l0 : Nat → ByteArray → Int → Int → Int → Int → ByteArray → Int → Option (ByteArray × Int × Bool)
 | 0, _, _, _, _, _, _, _ => none
 | k + 1, x0, x6, x7, x88, x89, x556000, x556001 => if x89 < x88 then (if 0 ≤ x89 then (if x89 < (x0.size : Int) then (num_read.l0 k x0 x6 (mn (wrap64 ((wrap64 (10 * x7)) + (((bt x0 x89) - 48) % 256))) 100000) x88 (wrap64 (x89 + 1)) x556000 x556001) else (none)) else (none)) else (some (x556000, wrap64 (x556001 + (wrap64 (x6 * x7))), true))
end
def num_read.f (k : Nat) (a0 : ByteArray) : Option (ByteArray × Int × Bool) := (num_run.f k a0).bind fun t553 => (if 0 ≤ t553 then (if t553 ≤ (a0.size : Int) then ((some (a0.extract 0 (t553 : Int).toNat : ByteArray)).bind fun y554 => ((some (a0.extract (t553 : Int).toNat a0.size : ByteArray)).bind fun y556 => ((strings_HasPrefix.f y556 (⟨#[46]⟩ : ByteArray)).bind fun t557 => (if t557 = true then (if 1 ≤ (y556.size : Int) then ((num_run.f k (y556.extract 1 y556.size)).bind fun t559 => (if 1 ≤ (wrap64 (1 + t559)) then (if (wrap64 (1 + t559)) ≤ (y556.size : Int) then ((some (y556.extract 1 ((wrap64 (1 + t559)) : Int).toNat : ByteArray)).bind fun y560 => (if y554.size + y560.size ≤ 9223372036854775807 then (if 0 ≤ (wrap64 (1 + t559)) then (num_read.j0 k (y556.extract ((wrap64 (1 + t559)) : Int).toNat y556.size) (y554 ++ y560) (wrap64 (-t559))) else (none)) else (none))) else (none)) else (none))) else (none)) else (num_read.j0 k y556 y554 0))))) else (none)) else (none))
theorem num_read.mono_l : ∀ k, (∀ y0 y1 y2, LeO (num_read.j0 k y0 y1 y2) (num_read.j0 (k + 1) y0 y1 y2)) ∧ (∀ y0 y1 y2 y3, LeO (num_read.j1 k y0 y1 y2 y3) (num_read.j1 (k + 1) y0 y1 y2 y3)) ∧ (∀ y0 y1 y2 y3 y4, LeO (num_read.j2 k y0 y1 y2 y3 y4) (num_read.j2 (k + 1) y0 y1 y2 y3 y4)) ∧ (∀ y0 y1 y2 y3, LeO (num_read.j3 k y0 y1 y2 y3) (num_read.j3 (k + 1) y0 y1 y2 y3)) ∧ (∀ y0 y1 y2 y3 y4, LeO (num_read.j4 k y0 y1 y2 y3 y4) (num_read.j4 (k + 1) y0 y1 y2 y3 y4)) ∧ (∀ y0 y1 y2 y3 y4 y5 y6, LeO (num_read.l0 k y0 y1 y2 y3 y4 y5 y6) (num_read.l0 (k + 1) y0 y1 y2 y3 y4 y5 y6))
 | 0 => ⟨fun _ _ _ r h => by simp [num_read.j0] at h, fun _ _ _ _ r h => by simp [num_read.j1] at h, fun _ _ _ _ _ r h => by simp [num_read.j2] at h, fun _ _ _ _ r h => by simp [num_read.j3] at h, fun _ _ _ _ _ r h => by simp [num_read.j4] at h, fun _ _ _ _ _ _ _ r h => by simp [num_read.l0] at h⟩
 | k + 1 => by
  obtain ⟨ih0, ih1, ih2, ih3, ih4, ih5⟩ := num_read.mono_l k
  refine ⟨?_, ?_, ?_, ?_, ?_, ?_⟩
  ·
   intro y0 y1 y2
   unfold num_read.j0
   repeat' (with_reducible first | exact ih0 _ _ _ | exact ih1 _ _ _ _ | exact ih2 _ _ _ _ _ | exact ih3 _ _ _ _ | exact ih4 _ _ _ _ _ | exact ih5 _ _ _ _ _ _ _ | exact num_run.mono _ _ | exact strings_TrimLeft.mono _ _ _ | exact LeO.refl _ | exact LeO.none _ | refine LeO.ite ?_ ?_ | refine LeO.bind ?_ (fun _ => ?_))
  ·
   intro y0 y1 y2 y3
   unfold num_read.j1
   repeat' (with_reducible first | exact ih0 _ _ _ | exact ih1 _ _ _ _ | exact ih2 _ _ _ _ _ | exact ih3 _ _ _ _ | exact ih4 _ _ _ _ _ | exact ih5 _ _ _ _ _ _ _ | exact num_run.mono _ _ | exact strings_TrimLeft.mono _ _ _ | exact LeO.refl _ | exact LeO.none _ | refine LeO.ite ?_ ?_ | refine LeO.bind ?_ (fun _ => ?_))
  ·
   intro y0 y1 y2 y3 y4
   unfold num_read.j2
   repeat' (with_reducible first | exact ih0 _ _ _ | exact ih1 _ _ _ _ | exact ih2 _ _ _ _ _ | exact ih3 _ _ _ _ | exact ih4 _ _ _ _ _ | exact ih5 _ _ _ _ _ _ _ | exact num_run.mono _ _ | exact strings_TrimLeft.mono _ _ _ | exact LeO.refl _ | exact LeO.none _ | refine LeO.ite ?_ ?_ | refine LeO.bind ?_ (fun _ => ?_))
  ·
   intro y0 y1 y2 y3
   unfold num_read.j3
   repeat' (with_reducible first | exact ih0 _ _ _ | exact ih1 _ _ _ _ | exact ih2 _ _ _ _ _ | exact ih3 _ _ _ _ | exact ih4 _ _ _ _ _ | exact ih5 _ _ _ _ _ _ _ | exact num_run.mono _ _ | exact strings_TrimLeft.mono _ _ _ | exact LeO.refl _ | exact LeO.none _ | refine LeO.ite ?_ ?_ | refine LeO.bind ?_ (fun _ => ?_))
  ·
   intro y0 y1 y2 y3 y4
   unfold num_read.j4
   repeat' (with_reducible first | exact ih0 _ _ _ | exact ih1 _ _ _ _ | exact ih2 _ _ _ _ _ | exact ih3 _ _ _ _ | exact ih4 _ _ _ _ _ | exact ih5 _ _ _ _ _ _ _ | exact num_run.mono _ _ | exact strings_TrimLeft.mono _ _ _ | exact LeO.refl _ | exact LeO.none _ | refine LeO.ite ?_ ?_ | refine LeO.bind ?_ (fun _ => ?_))
  intro y0 y1 y2 y3 y4 y5 y6
  unfold num_read.l0
  repeat' (with_reducible first | exact ih0 _ _ _ | exact ih1 _ _ _ _ | exact ih2 _ _ _ _ _ | exact ih3 _ _ _ _ | exact ih4 _ _ _ _ _ | exact ih5 _ _ _ _ _ _ _ | exact num_run.mono _ _ | exact strings_TrimLeft.mono _ _ _ | exact LeO.refl _ | exact LeO.none _ | refine LeO.ite ?_ ?_ | refine LeO.bind ?_ (fun _ => ?_))
theorem num_read.mono : ∀ a0 k, LeO (num_read.f k a0) (num_read.f (k + 1) a0) := by
 intro a0 k
 obtain ⟨ih0, ih1, ih2, ih3, ih4, ih5⟩ := num_read.mono_l k
 unfold num_read.f
 repeat' (with_reducible first | exact ih0 _ _ _ | exact ih1 _ _ _ _ | exact ih2 _ _ _ _ _ | exact ih3 _ _ _ _ | exact ih4 _ _ _ _ _ | exact ih5 _ _ _ _ _ _ _ | exact num_run.mono _ _ | exact strings_TrimLeft.mono _ _ _ | exact LeO.refl _ | exact LeO.none _ | refine LeO.ite ?_ ?_ | refine LeO.bind ?_ (fun _ => ?_))
def num_read.T6 : Bool × List (List Nat × List Nat) := (true, [([], []), ([0], [0]), ([], []), ([], []), ([3], [3]), ([2, 4], [2, 4]), ([1, 5], [1, 5]), ([0, 1, 2, 3, 4, 5, 6], []), ([7, 6, 0, 1, 2, 3, 4, 5, 6], [6, 7])])
def num_read.B6 : List Nat := [0, 1, 0, 0, 8, 28, 63, 127, 255]
theorem num_read.tab6 : rtab .any (opsOf Tryd.f66 6) = num_read.T6 := by kernel_rfl
theorem num_read.bits6 : waitsOk num_read.T6.2 num_read.B6 = true := by kernel_rfl
set_option maxHeartbeats 8000000 in
set_option maxRecDepth 100000 in
theorem num_read.calls (k : Nat) (a0 : ByteArray) (r1 : ByteArray) (r2 : Int) (r3 : Bool) (w : World) (h : num_read.f k a0 = some (r1, r2, r3)) :
  Calls Tryd.prog 66 #[.string a0] w fun e w' => e = .returned (.tuple #[.agg #[.string r1, .int .i64 r2], .bool r3]) ∧ Below w.heap.size w w' := by
 have hu79 := Tryd.underlying79
 have HB := Aside0.mk (Below.refl w.heap.size w)
 have H : ((num_run.f k a0).bind fun t553 => (if 0 ≤ t553 then (if t553 ≤ (a0.size : Int) then ((some (a0.extract 0 (t553 : Int).toNat : ByteArray)).bind fun y554 => ((some (a0.extract (t553 : Int).toNat a0.size : ByteArray)).bind fun y556 => ((strings_HasPrefix.f y556 (⟨#[46]⟩ : ByteArray)).bind fun t557 => (if t557 = true then (if 1 ≤ (y556.size : Int) then ((num_run.f k (y556.extract 1 y556.size)).bind fun t559 => (if 1 ≤ (wrap64 (1 + t559)) then (if (wrap64 (1 + t559)) ≤ (y556.size : Int) then ((some (y556.extract 1 ((wrap64 (1 + t559)) : Int).toNat : ByteArray)).bind fun y560 => (if y554.size + y560.size ≤ 9223372036854775807 then (if 0 ≤ (wrap64 (1 + t559)) then (num_read.j0 k (y556.extract ((wrap64 (1 + t559)) : Int).toNat y556.size) (y554 ++ y560) (wrap64 (-t559))) else (none)) else (none))) else (none)) else (none))) else (none)) else (num_read.j0 k y556 y554 0))))) else (none)) else (none))) = some (r1, r2, r3) := h
 clear h
 replace H := Option.bind_eq_some_iff.mp H
 obtain ⟨t553, A20, H⟩ := H
 replace H : (if 0 ≤ t553 then (if t553 ≤ (a0.size : Int) then ((some (a0.extract 0 (t553 : Int).toNat : ByteArray)).bind fun y554 => ((some (a0.extract (t553 : Int).toNat a0.size : ByteArray)).bind fun y556 => ((strings_HasPrefix.f y556 (⟨#[46]⟩ : ByteArray)).bind fun t557 => (if t557 = true then (if 1 ≤ (y556.size : Int) then ((num_run.f k (y556.extract 1 y556.size)).bind fun t559 => (if 1 ≤ (wrap64 (1 + t559)) then (if (wrap64 (1 + t559)) ≤ (y556.size : Int) then ((some (y556.extract 1 ((wrap64 (1 + t559)) : Int).toNat : ByteArray)).bind fun y560 => (if y554.size + y560.size ≤ 9223372036854775807 then (if 0 ≤ (wrap64 (1 + t559)) then (num_read.j0 k (y556.extract ((wrap64 (1 + t559)) : Int).toNat y556.size) (y554 ++ y560) (wrap64 (-t559))) else (none)) else (none))) else (none)) else (none))) else (none)) else (num_read.j0 k y556 y554 0))))) else (none)) else (none)) = some (r1, r2, r3) := H
 have A2 := Aside0.mk A20
 clear A20
 by_cases c3 : 0 ≤ t553
 ·
  rw [if_pos c3] at H
  have c3b0 := eq_true c3
  have c3b1 : decide (0 ≤ t553) = true := decide_eq_true c3
  clear c3
  by_cases c4 : t553 ≤ (a0.size : Int)
  ·
   rw [if_pos c4] at H
   have c4b0 := eq_true c4
   have c4b1 : decide (t553 ≤ (a0.size : Int)) = true := decide_eq_true c4
   clear c4
   obtain ⟨y554, hy554⟩ : ∃ y_ : ByteArray, y_ = (a0.extract 0 (t553 : Int).toNat) := ⟨_, rfl⟩
   replace H : ((some (a0.extract (t553 : Int).toNat a0.size : ByteArray)).bind fun y556 => ((strings_HasPrefix.f y556 (⟨#[46]⟩ : ByteArray)).bind fun t557 => (if t557 = true then (if 1 ≤ (y556.size : Int) then ((num_run.f k (y556.extract 1 y556.size)).bind fun t559 => (if 1 ≤ (wrap64 (1 + t559)) then (if (wrap64 (1 + t559)) ≤ (y556.size : Int) then ((some (y556.extract 1 ((wrap64 (1 + t559)) : Int).toNat : ByteArray)).bind fun y560 => (if y554.size + y560.size ≤ 9223372036854775807 then (if 0 ≤ (wrap64 (1 + t559)) then (num_read.j0 k (y556.extract ((wrap64 (1 + t559)) : Int).toNat y556.size) (y554 ++ y560) (wrap64 (-t559))) else (none)) else (none))) else (none)) else (none))) else (none)) else (num_read.j0 k y556 y554 0)))) = some (r1, r2, r3) := by first | (rw [hy554]; with_reducible exact H) | (rw [hy554]; with_reducible exact (hs H :)) | with_reducible exact (hs H :) | with_reducible exact H | (rw [hy554]; exact H) | exact H
   have Ny554 := Aside0.mk hy554
   clear hy554
   have c5b0 := eq_true (of_decide_eq_true (by first | (with_reducible assumption) | assumption) : 0 ≤ t553)
   have c6b0 := eq_true (of_decide_eq_true (by first | (with_reducible assumption) | assumption) : t553 ≤ (a0.size : Int))
   obtain ⟨y556, hy556⟩ : ∃ y_ : ByteArray, y_ = (a0.extract (t553 : Int).toNat a0.size) := ⟨_, rfl⟩
   replace H : ((strings_HasPrefix.f y556 (⟨#[46]⟩ : ByteArray)).bind fun t557 => (if t557 = true then (if 1 ≤ (y556.size : Int) then ((num_run.f k (y556.extract 1 y556.size)).bind fun t559 => (if 1 ≤ (wrap64 (1 + t559)) then (if (wrap64 (1 + t559)) ≤ (y556.size : Int) then ((some (y556.extract 1 ((wrap64 (1 + t559)) : Int).toNat : ByteArray)).bind fun y560 => (if y554.size + y560.size ≤ 9223372036854775807 then (if 0 ≤ (wrap64 (1 + t559)) then (num_read.j0 k (y556.extract ((wrap64 (1 + t559)) : Int).toNat y556.size) (y554 ++ y560) (wrap64 (-t559))) else (none)) else (none))) else (none)) else (none))) else (none)) else (num_read.j0 k y556 y554 0))) = some (r1, r2, r3) := by first | (rw [hy556]; with_reducible exact H) | (rw [hy556]; with_reducible exact (hs H :)) | with_reducible exact (hs H :) | with_reducible exact H | (rw [hy556]; exact H) | exact H
   have Ny556 := Aside0.mk hy556
   clear hy556
   replace H := Option.bind_eq_some_iff.mp H
   obtain ⟨t557, A70, H⟩ := H
   replace H : (if t557 = true then (if 1 ≤ (y556.size : Int) then ((num_run.f k (y556.extract 1 y556.size)).bind fun t559 => (if 1 ≤ (wrap64 (1 + t559)) then (if (wrap64 (1 + t559)) ≤ (y556.size : Int) then ((some (y556.extract 1 ((wrap64 (1 + t559)) : Int).toNat : ByteArray)).bind fun y560 => (if y554.size + y560.size ≤ 9223372036854775807 then (if 0 ≤ (wrap64 (1 + t559)) then (num_read.j0 k (y556.extract ((wrap64 (1 + t559)) : Int).toNat y556.size) (y554 ++ y560) (wrap64 (-t559))) else (none)) else (none))) else (none)) else (none))) else (none)) else (num_read.j0 k y556 y554 0)) = some (r1, r2, r3) := H
   have A7 := Aside0.mk A70
   clear A70
   have HC8 := Aside0.mk H
   clear H
   go_enter Tryd.func66, Tryd.ntmps66
   go_upto_if 19 with (first | ((with_reducible refine gate_dst (N := 2) rfl ?_); (try (refine gate_guard (by rfl) ?_; dsimp only)); refine box_event ?hg (N := 2) ?hd (cs := #[.string (⟨#[]⟩ : ByteArray), .int .i64 0]) (t := 79) ?hr ?_; (case hd => rfl); (case hg => rfl); (case hr => first | (go_simp; done) | (go_simp; rfl)); intro gb552 hg w9 hbox hb; have BK552 := Aside0.mk (hbox); have GW552 := Aside0.mk ((by rw [hg]; exact (below_size (lk HB)) : w.heap.size ≤ gb552)); have GE552 := Aside0.mk ((by rw [hg]; exact (below_size (lk HB)) : w.heap.size ≤ gb552)); replace HB := lb HB hb; clear hb hbox hg) | ((with_reducible refine gate_callee (f := 76) rfl ?_); refine gL (some 10) Tryd.func76 #[.string a0] ?_; (with_reducible refine (num_run.calls k a0 t553 _ A2.out).mono ?_); rintro e w' ⟨rfl, ⟨nd, rfl⟩⟩; refine ⟨_, rfl, ?_⟩; (try (rw [drewN_self w9]; generalize hq_ : World.drewN w9 _ = w9; have n0_ : Aside0 (w9.heap[gb552]? = some (.cells #[.string (⟨#[]⟩ : ByteArray), .int .i64 0] 79 (0, 0))) := ⟨by rw [← hq_]; exact (bk BK552)⟩; have n1_ : Aside0 (Below w.heap.size w w9) := ⟨by rw [← hq_]; exact (lk HB)⟩; clear BK552 HB hq_; have BK552 := n0_; have HB := n1_; clear n0_ n1_)); have hcs10 := Hd.str_to (P := Tryd.prog) (k := .i64) Tryd.underlying9 (j := t553) (s := a0) (y := y554) (by first | (with_reducible assumption) | exact of_decide_eq_true (by first | (with_reducible assumption) | assumption) | omega) (by first | (with_reducible assumption) | exact of_decide_eq_true (by first | (with_reducible assumption) | assumption) | omega) Ny554.out) | ((with_reducible refine gate_dst (N := 5) rfl ?_); (try (refine gate_guard (by rfl) ?_; dsimp only)); refine box_event ?hg (N := 5) ?hd (cs := #[.string (⟨#[]⟩ : ByteArray), .int .i64 0]) (t := 79) ?hr ?_; (case hd => rfl); (case hg => rfl); (case hr => first | (go_simp; done) | (go_simp; rfl)); intro gb555 hg w11 hbox hb; have BK555 := Aside0.mk (hbox); have GW555 := Aside0.mk ((by rw [hg]; exact (below_size (lk HB)) : w.heap.size ≤ gb555)); have GE555 := Aside0.mk ((by rw [hg]; exact (below_size (lk HB)) : w.heap.size ≤ gb555)); replace HB := lb HB hb; have NB552_555 := Aside0.mk ((by rw [hg]; exact Nat.ne_of_lt (blk_lt (bk BK552)) : gb552 ≠ gb555)); have NB555_552 := Aside0.mk ((by rw [hg]; exact Nat.ne_of_gt (blk_lt (bk BK552)) : gb555 ≠ gb552)); replace BK552 := bb BK552 hb; clear hb hbox hg; have hnb12 := NB555_552.out; have hnc12 := NB552_555.out; have hcz13_0 : w11.cell? ⟨gb555, 0, none⟩ = some (.string (⟨#[]⟩ : ByteArray)) := (blk_cell BK555.out 0).trans rfl; have hcz13_1 : w11.cell? ⟨gb555, 1, none⟩ = some (.int .i64 0) := (blk_cell BK555.out 1).trans rfl; have hfz13_0 := blk_frozen BK555.out 0; have hfz13_1 := blk_frozen BK555.out 1; have hcs14 := Hd.str_from (P := Tryd.prog) (k := .i64) Tryd.underlying9 (i := t553) (s := a0) (y := y556) (by first | (with_reducible assumption) | exact of_decide_eq_true (by first | (with_reducible assumption) | assumption) | omega) (by first | (with_reducible assumption) | exact of_decide_eq_true (by first | (with_reducible assumption) | assumption) | omega) Ny556.out) | ((with_reducible refine gate_callee (f := 96) rfl ?_); refine gL (some 19) Tryd.func96 #[.string y556, .string (⟨#[46]⟩ : ByteArray)] ?_; (with_reducible refine (strings_HasPrefix.calls y556 (⟨#[46]⟩ : ByteArray) t557 _ A7.out).mono ?_); rintro e w' ⟨rfl, ⟨nd, rfl⟩⟩; refine ⟨_, rfl, ?_⟩))
   (try simp only [Act.put, List.setIfInBounds_toArray, List.set_cons_zero, List.set_cons_succ])
   go_cut [0] (fun v0 wc => ∃ (kq : Nat) (x0_7 : ByteArray) (x556000_7 : ByteArray) (x556001_7 : Int), v0 = .string x0_7 ∧ Aside0 (num_read.j0 kq x0_7 x556000_7 x556001_7 = some (r1, r2, r3)) ∧ Aside0 (kq ≤ k) ∧ Aside0 (wc.heap[gb552]? = some (.cells #[.string (⟨#[]⟩ : ByteArray), .int .i64 0] 79 (0, 0))) ∧ Aside0 (wc.heap[gb555]? = some (.cells #[.string x556000_7, .int .i64 x556001_7] 79 (0, 0))) ∧ Aside0 (Below w.heap.size w wc))
   case first =>
    have H := HC8.out
    clear HC8
    by_cases c15 : t557 = true
    ·
     subst c15
     have H1 : (if 1 ≤ (y556.size : Int) then ((num_run.f k (y556.extract 1 y556.size)).bind fun t559 => (if 1 ≤ (wrap64 (1 + t559)) then (if (wrap64 (1 + t559)) ≤ (y556.size : Int) then ((some (y556.extract 1 ((wrap64 (1 + t559)) : Int).toNat : ByteArray)).bind fun y560 => (if y554.size + y560.size ≤ 9223372036854775807 then (if 0 ≤ (wrap64 (1 + t559)) then (num_read.j0 k (y556.extract ((wrap64 (1 + t559)) : Int).toNat y556.size) (y554 ++ y560) (wrap64 (-t559))) else (none)) else (none))) else (none)) else (none))) else (none)) = some (r1, r2, r3) := by rw [if_pos rfl] at H; exact H
     clear H
     have H := H1
     clear H1
     by_cases c16 : 1 ≤ (y556.size : Int)
     ·
      rw [if_pos c16] at H
      have c16b0 := eq_true c16
      have c16b1 : decide (1 ≤ (y556.size : Int)) = true := decide_eq_true c16
      clear c16
      obtain ⟨y558, hy558⟩ : ∃ y_ : ByteArray, y_ = (y556.extract 1 y556.size) := ⟨_, rfl⟩
      replace H : ((num_run.f k y558).bind fun t559 => (if 1 ≤ (wrap64 (1 + t559)) then (if (wrap64 (1 + t559)) ≤ (y556.size : Int) then ((some (y556.extract 1 ((wrap64 (1 + t559)) : Int).toNat : ByteArray)).bind fun y560 => (if y554.size + y560.size ≤ 9223372036854775807 then (if 0 ≤ (wrap64 (1 + t559)) then (num_read.j0 k (y556.extract ((wrap64 (1 + t559)) : Int).toNat y556.size) (y554 ++ y560) (wrap64 (-t559))) else (none)) else (none))) else (none)) else (none))) = some (r1, r2, r3) := by first | (rw [hy558]; with_reducible exact H) | (rw [hy558]; with_reducible exact (hs H :)) | with_reducible exact (hs H :) | with_reducible exact H | (rw [hy558]; exact H) | exact H
      have Ny558 := Aside0.mk hy558
      clear hy558
      replace H := Option.bind_eq_some_iff.mp H
      obtain ⟨t559, A170, H⟩ := H
      replace H : (if 1 ≤ (wrap64 (1 + t559)) then (if (wrap64 (1 + t559)) ≤ (y556.size : Int) then ((some (y556.extract 1 ((wrap64 (1 + t559)) : Int).toNat : ByteArray)).bind fun y560 => (if y554.size + y560.size ≤ 9223372036854775807 then (if 0 ≤ (wrap64 (1 + t559)) then (num_read.j0 k (y556.extract ((wrap64 (1 + t559)) : Int).toNat y556.size) (y554 ++ y560) (wrap64 (-t559))) else (none)) else (none))) else (none)) else (none)) = some (r1, r2, r3) := H
      have A17 := Aside0.mk A170
      clear A170
      by_cases c18 : 1 ≤ (wrap64 (1 + t559))
      ·
       rw [if_pos c18] at H
       have c18b0 := eq_true c18
       have c18b1 : decide (1 ≤ (wrap64 (1 + t559))) = true := decide_eq_true c18
       by_cases c19 : (wrap64 (1 + t559)) ≤ (y556.size : Int)
       ·
        rw [if_pos c19] at H
        have c19b0 := eq_true c19
        have c19b1 : decide ((wrap64 (1 + t559)) ≤ (y556.size : Int)) = true := decide_eq_true c19
        obtain ⟨y560, hy560⟩ : ∃ y_ : ByteArray, y_ = (y556.extract 1 ((wrap64 (1 + t559)) : Int).toNat) := ⟨_, rfl⟩
        replace H : (if y554.size + y560.size ≤ 9223372036854775807 then (if 0 ≤ (wrap64 (1 + t559)) then (num_read.j0 k (y556.extract ((wrap64 (1 + t559)) : Int).toNat y556.size) (y554 ++ y560) (wrap64 (-t559))) else (none)) else (none)) = some (r1, r2, r3) := by first | (rw [hy560]; with_reducible exact H) | (rw [hy560]; with_reducible exact (hs H :)) | with_reducible exact (hs H :) | with_reducible exact H | (rw [hy560]; exact H) | exact H
        have Ny560 := Aside0.mk hy560
        clear hy560
        by_cases c20 : y554.size + y560.size ≤ 9223372036854775807
        ·
         rw [if_pos c20] at H
         have c20b0 := eq_true c20
         have c20b1 : decide (y554.size + y560.size ≤ 9223372036854775807) = true := decide_eq_true c20
         try have c20b2 : (9223372036854775807 < y554.size + y560.size) = False := eq_false (Nat.not_lt.2 c20)
         obtain ⟨y561, hy561⟩ : ∃ y_ : ByteArray, y_ = (y554 ++ y560) := ⟨_, rfl⟩
         replace H : (if 0 ≤ (wrap64 (1 + t559)) then (num_read.j0 k (y556.extract ((wrap64 (1 + t559)) : Int).toNat y556.size) y561 (wrap64 (-t559))) else (none)) = some (r1, r2, r3) := by first | (rw [hy561]; with_reducible exact H) | (rw [hy561]; with_reducible exact (hs H :)) | with_reducible exact (hs H :) | with_reducible exact H | (rw [hy561]; exact H) | exact H
         have Ny561 := Aside0.mk hy561
         clear hy561
         obtain ⟨ji21, hji21⟩ : ∃ j_ : Int, (wrap64 (1 + t559)) = j_ := ⟨_, rfl⟩
         replace H : (if 0 ≤ (ji21) then (num_read.j0 k (y556.extract ((ji21) : Int).toNat y556.size) y561 (wrap64 (-t559))) else (none)) = some (r1, r2, r3) := by first | (rw [hji21] at H; exact H) | (simp only [hji21] at H ⊢; exact H)
         (try rw [hji21] at c18b0)
         (try rw [hji21] at c18b1)
         (try rw [hji21] at c18)
         (try rw [hji21] at c19b0)
         (try rw [hji21] at c19b1)
         (try rw [hji21] at c19)
         (try rw [hji21] at A17)
         (try rw [hji21] at Ny560)
         have hji21w : (IntKind.i64.wrap (1 + t559)) = ji21 := (i64_w _).trans hji21
         by_cases c22 : 0 ≤ (ji21)
         ·
          rw [if_pos c22] at H
          have c22b0 := eq_true c22
          have c22b1 : decide (0 ≤ (ji21)) = true := decide_eq_true c22
          clear c22
          have c23b0 := eq_true (of_decide_eq_true (by first | (with_reducible assumption) | assumption) : (ji21) ≤ (y556.size : Int))
          obtain ⟨y562, hy562⟩ : ∃ y_ : ByteArray, y_ = (y556.extract ((ji21) : Int).toNat y556.size) := ⟨_, rfl⟩
          replace H : (num_read.j0 k y562 y561 (wrap64 (-t559))) = some (r1, r2, r3) := by first | (rw [hy562]; with_reducible exact H) | (rw [hy562]; with_reducible exact (hs H :)) | with_reducible exact (hs H :) | with_reducible exact H | (rw [hy562]; exact H) | exact H
          have Ny562 := Aside0.mk hy562
          clear hy562
          have H' := Aside0.mk H
          clear H
          have hcs24 := Hd.str_from (P := Tryd.prog) (k := .i64) Tryd.underlying9 (i := 1) (s := y556) (y := y558) (by first | (with_reducible assumption) | exact of_decide_eq_true (by first | (with_reducible assumption) | assumption) | omega) (by first | (with_reducible assumption) | exact of_decide_eq_true (by first | (with_reducible assumption) | assumption) | omega) Ny558.out
          try go_wp2_with (first | ((with_reducible refine gate_callee (f := 76) rfl ?_); refine gL (some 22) Tryd.func76 #[.string y558] ?_; (with_reducible refine (num_run.calls k y558 t559 _ A17.out).mono ?_); rintro e w' ⟨rfl, ⟨nd, rfl⟩⟩; refine ⟨_, rfl, ?_⟩))
          (first | refine Hd.letter_ (fun w25 hw => ?_) | refine Hd.letterL_ (fun w25 hw => ?_) | refine Hd.letterE_ (fun w25 hw => ?_))
          have n0_ : Aside0 (w25.heap[gb552]? = some (.cells #[.string (⟨#[]⟩ : ByteArray), .int .i64 0] 79 (0, 0))) := ⟨by rw [hw]; exact (by (with_reducible repeat (first | refine blk_drewN ?_ _ | refine blk_drew ?_ | refine blk_alloc ?_ _)); refine blk_far ?_ NB552_555.out _; (with_reducible repeat (first | refine blk_drewN ?_ _ | refine blk_drew ?_ | refine blk_alloc ?_ _)); refine blk_far ?_ NB552_555.out _; (with_reducible repeat (first | refine blk_drewN ?_ _ | refine blk_drew ?_ | refine blk_alloc ?_ _)); exact BK552.out)⟩
          have n1_ : Aside0 (w25.heap[gb555]? = some (.cells #[.string y554, .int .i64 0] 79 (0, 0))) := ⟨by rw [hw]; exact (by (with_reducible repeat (first | refine blk_drewN ?_ _ | refine blk_drew ?_ | refine blk_alloc ?_ _)); refine blk_put (cs := #[.string y554, .int .i64 0]) ?_ 1 _ rfl; (with_reducible repeat (first | refine blk_drewN ?_ _ | refine blk_drew ?_ | refine blk_alloc ?_ _)); refine blk_put (cs := #[.string (⟨#[]⟩ : ByteArray), .int .i64 0]) ?_ 0 _ rfl; (with_reducible repeat (first | refine blk_drewN ?_ _ | refine blk_drew ?_ | refine blk_alloc ?_ _)); exact BK555.out)⟩
          have n2_ : Aside0 (Below w.heap.size w w25) := ⟨by rw [hw]; exact (lk HB)⟩
          clear hw
          (try clear BK552)
          (try clear BK555)
          (try clear HB)
          have BK552 := n0_
          have BK555 := n1_
          have HB := n2_
          clear n0_ n1_ n2_
          (try (rw [drewN_self w25]; generalize hq_ : World.drewN w25 _ = w25; have n0_ : Aside0 (w25.heap[gb552]? = some (.cells #[.string (⟨#[]⟩ : ByteArray), .int .i64 0] 79 (0, 0))) := ⟨by rw [← hq_]; exact (bk BK552)⟩; have n1_ : Aside0 (w25.heap[gb555]? = some (.cells #[.string y554, .int .i64 0] 79 (0, 0))) := ⟨by rw [← hq_]; exact (bk BK555)⟩; have n2_ : Aside0 (Below w.heap.size w w25) := ⟨by rw [← hq_]; exact (lk HB)⟩; clear BK552 BK555 HB hq_; have BK552 := n0_; have BK555 := n1_; have HB := n2_; clear n0_ n1_ n2_))
          have n0_ := Aside0.mk (blk_drew BK552.out)
          have n1_ := Aside0.mk (blk_drew BK555.out)
          have n2_ := Aside0.mk (below_drew1 HB.out)
          clear BK552
          clear BK555
          clear HB
          have BK552 := n0_
          have BK555 := n1_
          have HB := n2_
          clear n0_ n1_ n2_
          have hcs27 := Hd.str_cut (P := Tryd.prog) (k := .i64) (k' := .i64) Tryd.underlying9 (i := 1) (j := (ji21)) (s := y556) (y := y560) (by first | (with_reducible assumption) | exact of_decide_eq_true (by first | (with_reducible assumption) | assumption) | omega) (by first | (with_reducible assumption) | exact of_decide_eq_true (by first | (with_reducible assumption) | assumption) | omega) (by first | (with_reducible assumption) | exact of_decide_eq_true (by first | (with_reducible assumption) | assumption) | omega) Ny560.out
          have hcs28 := Hd.str_cat (P := Tryd.prog) (s := y554) (t := y560) (y := y561) (by first | (with_reducible assumption) | assumption | exact of_eq_true (by assumption) | omega) Ny561.out
          have hcs28' := Hd.str_cat' (P := Tryd.prog) (s := y554) (t := y560) (y := y561) (by first | (with_reducible assumption) | assumption | exact of_eq_true (by assumption) | omega) Ny561.out
          refine start_ (n := 9) (S := fun w' => w'.cell? ⟨gb555, 0, none⟩ = some (.string y554) ∧ w'.cell? ⟨gb555, 1, none⟩ = some (.int .i64 0)) (ds := [8]) #[false, false, false, false, false, false, false, false, false] (by kernel_rfl) rfl rfl ⟨(blk_cell BK555.out 0).trans rfl, (blk_cell BK555.out 1).trans rfl⟩ (fun hHeld => ?_); refine with_tabW num_read.tab6 num_read.bits6 (fun HT_ HW_ => ?_)
          generalize w25.drew = w26 at BK552 BK555 HB hHeld ⊢
          refine pure_ (i := 0) (N := some 23) (v := ?_) (a' := ?_) #[true, false, false, false, false, false, false, false, false] rfl rfl (any_of HT_.out (by kernel_rfl)) (fun _ _ _ h => h) (Or.inl ⟨by rfl, ?_⟩) ?_ ?_
          rotate_left
          ·
           intro w'
           go_simp
           with_reducible rfl
          rotate_left
          ·
           simp only [Act.put, List.setIfInBounds_toArray, List.set_cons_zero, List.set_cons_succ, i64_w, i32_w]
           rfl
          refine pure_ (i := 2) (N := some 25) (v := ?_) (a' := ?_) #[true, false, true, false, false, false, false, false, false] rfl rfl (any_of HT_.out (by kernel_rfl)) (fun _ _ _ h => h) (Or.inl ⟨by rfl, ?_⟩) ?_ ?_
          rotate_left
          ·
           intro w'
           go_simp
           with_reducible rfl
          rotate_left
          ·
           simp only [Act.put, List.setIfInBounds_toArray, List.set_cons_zero, List.set_cons_succ, i64_w, i32_w]
           rfl
          refine pure_ (i := 3) (N := some 26) (v := ?_) (a' := ?_) #[true, false, true, true, false, false, false, false, false] rfl rfl (any_of HT_.out (by kernel_rfl)) (fun _ _ _ h => h) (Or.inl ⟨by rfl, ?_⟩) ?_ ?_
          rotate_left
          ·
           intro w'
           go_simp
           with_reducible rfl
          rotate_left
          ·
           simp only [Act.put, List.setIfInBounds_toArray, List.set_cons_zero, List.set_cons_succ, i64_w, i32_w]
           rfl
          refine pure_ (i := 4) (N := some 27) (v := ?_) (a' := ?_) #[true, false, true, true, true, false, false, false, false] rfl rfl (any_of HT_.out (by kernel_rfl)) (fun _ _ _ h => h) (Or.inl ⟨by rfl, ?_⟩) ?_ ?_
          rotate_left
          ·
           intro w'
           go_simp
           with_reducible rfl
          rotate_left
          ·
           simp only [Act.put, List.setIfInBounds_toArray, List.set_cons_zero, List.set_cons_succ, i64_w, i32_w]
           rfl
          refine pure_ (i := 5) (N := some 28) (v := ?_) (a' := ?_) #[true, false, true, true, true, true, false, false, false] rfl rfl (any_of HT_.out (by kernel_rfl)) (fun _ _ _ h => h) (Or.inl ⟨by rfl, ?_⟩) ?_ ?_
          rotate_left
          ·
           intro w'
           go_simp
           with_reducible rfl
          rotate_left
          ·
           simp only [Act.put, List.setIfInBounds_toArray, List.set_cons_zero, List.set_cons_succ, i64_w, i32_w]
           rfl
          refine take_ (i := 1) (N := some 24) (v := ?_) (a' := ?_) #[true, true, true, true, true, true, false, false, false] rfl rfl (take_ofW HT_.out HW_.out (by kernel_rfl)) (fun _ _ _ h => h) (Or.inl ⟨by rfl, ?_⟩) hHeld ?_ ?_
          rotate_left
          ·
           rintro w' ⟨s0, s1⟩
           go_simp
           with_reducible rfl
          rotate_left
          ·
           simp only [Act.put, List.setIfInBounds_toArray, List.set_cons_zero, List.set_cons_succ, i64_w, i32_w]
           rfl
          refine pure_ (i := 6) (N := some 29) (v := ?_) (a' := ?_) #[true, true, true, true, true, true, true, false, false] rfl rfl (any_of HT_.out (by kernel_rfl)) (fun _ _ _ h => h) (Or.inl ⟨by rfl, ?_⟩) ?_ ?_
          rotate_left
          ·
           intro w'
           go_simp
           with_reducible rfl
          rotate_left
          ·
           simp only [Act.put, List.setIfInBounds_toArray, List.set_cons_zero, List.set_cons_succ, i64_w, i32_w]
           rfl
          refine pure_ (i := 7) (N := some 30) (v := ?_) (a' := ?_) #[true, true, true, true, true, true, true, true, false] rfl rfl (any_of HT_.out (by kernel_rfl)) (fun _ _ _ h => h) (Or.inl ⟨by rfl, ?_⟩) ?_ ?_
          rotate_left
          ·
           intro w'
           go_simp
           with_reducible rfl
          rotate_left
          ·
           simp only [Act.put, List.setIfInBounds_toArray, List.set_cons_zero, List.set_cons_succ, i64_w, i32_w]
           rfl
          refine last_ (i := 8) (N := none) #[true, true, true, true, true, true, true, true, true] rfl rfl (one_of HT_.out (by kernel_rfl)) (by decide) (fun K hK => ?_)
          have hs29 : w26.cell? ⟨gb555, 0, none⟩ = some (.string y554) := (blk_cell BK555.out 0).trans rfl
          have hfs29 := blk_frozen BK555.out 0
          have hns29_0 := NB552_555.out
          have hms29_0 := NB555_552.out
          refine skip_ (w1 := ?_) (by rfl) rfl ?_ ?_
          rotate_left
          ·
           go_simp
           rfl
          refine hK.out _ _ ?_
          clear hK K
          refine done_ (done_of HT_.out (by kernel_rfl)) ?_
          have hnb30 := NB555_552.out
          have hnc30 := NB552_555.out
          have hcz31_0 : w26.cell? ⟨gb555, 0, none⟩ = some (.string y554) := (blk_cell BK555.out 0).trans rfl
          have hcz31_1 : w26.cell? ⟨gb555, 1, none⟩ = some (.int .i64 0) := (blk_cell BK555.out 1).trans rfl
          have hfz31_0 := blk_frozen BK555.out 0
          have hfz31_1 := blk_frozen BK555.out 1
          have hcs32 := Hd.str_from (P := Tryd.prog) (k := .i64) Tryd.underlying9 (i := (ji21)) (s := y556) (y := y562) (by first | (with_reducible assumption) | exact of_decide_eq_true (by first | (with_reducible assumption) | assumption) | omega) (by first | (with_reducible assumption) | exact of_decide_eq_true (by first | (with_reducible assumption) | assumption) | omega) Ny562.out
          try go_wp2
          go_meet
          case rel => exact ⟨_, (y562), (y561), (wrap64 (-t559)), (by first | rfl | (simp; done) | (simp [*]; done)), H', ⟨by first | omega | exact Nat.le_refl _⟩, ⟨by (with_reducible repeat (first | refine blk_drewN ?_ _ | refine blk_drew ?_ | refine blk_alloc ?_ _)); refine blk_far ?_ NB552_555.out _; (with_reducible repeat (first | refine blk_drewN ?_ _ | refine blk_drew ?_ | refine blk_alloc ?_ _)); refine blk_far ?_ NB552_555.out _; (with_reducible repeat (first | refine blk_drewN ?_ _ | refine blk_drew ?_ | refine blk_alloc ?_ _)); exact BK552.out⟩, ⟨by (with_reducible repeat (first | refine blk_drewN ?_ _ | refine blk_drew ?_ | refine blk_alloc ?_ _)); refine blk_put (cs := #[.string y561, .int .i64 0]) ?_ 1 _ rfl; (with_reducible repeat (first | refine blk_drewN ?_ _ | refine blk_drew ?_ | refine blk_alloc ?_ _)); refine blk_put (cs := #[.string y554, .int .i64 0]) ?_ 0 _ rfl; (with_reducible repeat (first | refine blk_drewN ?_ _ | refine blk_drew ?_ | refine blk_alloc ?_ _)); exact BK555.out⟩, ⟨lk HB⟩⟩
         rw [if_neg c22] at H
         exact absurd H (by simp)
        rw [if_neg c20] at H
        exact absurd H (by simp)
       rw [if_neg c19] at H
       exact absurd H (by simp)
      rw [if_neg c18] at H
      exact absurd H (by simp)
     rw [if_neg c16] at H
     exact absurd H (by simp)
    replace c15 := Bool.eq_false_iff.mpr c15
    subst c15
    have H1 : (num_read.j0 k y556 y554 0) = some (r1, r2, r3) := by rw [if_neg (show ¬ (false = true) by decide)] at H; exact H
    clear H
    have H := H1
    clear H1
    have H' := Aside0.mk H
    clear H
    go_wp2
    go_meet
    case rel => exact ⟨_, (y556), (y554), (0), (by first | rfl | (simp; done) | (simp [*]; done)), H', ⟨by first | omega | exact Nat.le_refl _⟩, ⟨by (with_reducible repeat (first | refine blk_drewN ?_ _ | refine blk_drew ?_ | refine blk_alloc ?_ _)); refine blk_far ?_ NB552_555.out _; (with_reducible repeat (first | refine blk_drewN ?_ _ | refine blk_drew ?_ | refine blk_alloc ?_ _)); refine blk_far ?_ NB552_555.out _; (with_reducible repeat (first | refine blk_drewN ?_ _ | refine blk_drew ?_ | refine blk_alloc ?_ _)); exact BK552.out⟩, ⟨by (with_reducible repeat (first | refine blk_drewN ?_ _ | refine blk_drew ?_ | refine blk_alloc ?_ _)); refine blk_put (cs := #[.string y554, .int .i64 0]) ?_ 1 _ rfl; (with_reducible repeat (first | refine blk_drewN ?_ _ | refine blk_drew ?_ | refine blk_alloc ?_ _)); refine blk_put (cs := #[.string (⟨#[]⟩ : ByteArray), .int .i64 0]) ?_ 0 _ rfl; (with_reducible repeat (first | refine blk_drewN ?_ _ | refine blk_drew ?_ | refine blk_alloc ?_ _)); exact BK555.out⟩, ⟨lk HB⟩⟩
   case rest =>
    clear HC8
    try clear c1
    try clear c2
    try clear p2
    try clear c3
    try clear c3b0
    try clear c3b1
    try clear c4
    try clear c4b0
    try clear c4b1
    try clear c5
    try clear c5b0
    try clear c6
    try clear c6b0
    try clear p6
    try clear c7
    try clear c9
    try clear c12
    try clear c15
    try clear c16
    try clear c16b0
    try clear c16b1
    try clear c18
    try clear c18b0
    try clear c18b1
    try clear c19
    try clear c19b0
    try clear c19b1
    try clear c20
    try clear c20b0
    try clear c20b1
    try clear c20b2
    try clear c22
    try clear c22b0
    try clear c22b1
    try clear c23
    try clear c23b0
    try clear c30
    try clear hcz13_0
    try clear hcz13_1
    try clear hcz31_0
    try clear hcz31_1
    try clear hfz13_0
    try clear hfz13_1
    try clear hfz31_0
    try clear hfz31_1
    obtain ⟨kq, x0_7, x556000_7, x556001_7, rfl, HA, HJ7, BK552, BK555, HB⟩ := hcut
    cases kq with
    | zero => exact absurd HA.out (by simp [num_read.j0])
    | succ kj7 =>
     have H := HA.out
     clear HA
     simp only [num_read.j0] at H
     by_cases c33 : x556000_7.toList = ([] : List UInt8)
     ·
      rw [if_pos c33] at H
      have c33b0 : (x556000_7.toList == ([] : List UInt8)) = true := beq_iff_eq.mpr c33
      have c33b1 : (x556000_7.toList != ([] : List UInt8)) = false := bne_eq_false_iff_eq.mpr c33
      clear c33
      simp only [Option.some.injEq, Prod.mk.injEq] at H
      obtain ⟨rfl, rfl, rfl⟩ := H
      have hnb34 := NB555_552.out
      have hnc34 := NB552_555.out
      have hcz35_0 : wc.cell? ⟨gb555, 0, none⟩ = some (.string x556000_7) := (blk_cell BK555.out 0).trans rfl
      have hcz35_1 : wc.cell? ⟨gb555, 1, none⟩ = some (.int .i64 x556001_7) := (blk_cell BK555.out 1).trans rfl
      have hfz35_0 := blk_frozen BK555.out 0
      have hfz35_1 := blk_frozen BK555.out 1
      have hcz36_0 : wc.cell? ⟨gb552, 0, none⟩ = some (.string (⟨#[]⟩ : ByteArray)) := (blk_cell BK552.out 0).trans rfl
      have hcz36_1 : wc.cell? ⟨gb552, 1, none⟩ = some (.int .i64 0) := (blk_cell BK552.out 1).trans rfl
      have hfz36_0 := blk_frozen BK552.out 0
      have hfz36_1 := blk_frozen BK552.out 1
      go_wp2
      refine bodyPost_ret (results_ct rfl _ _ gb552 79 #[.string x556000_7, .int .i64 x556001_7] (0, 0) _ rfl (by (with_reducible repeat (first | refine blk_drewN ?_ _ | refine blk_drew ?_ | refine blk_alloc ?_ _)); refine blk_put (cs := #[.string x556000_7, .int .i64 0]) ?_ 1 _ rfl; (with_reducible repeat (first | refine blk_drewN ?_ _ | refine blk_drew ?_ | refine blk_alloc ?_ _)); refine blk_put (cs := #[.string (⟨#[]⟩ : ByteArray), .int .i64 0]) ?_ 0 _ rfl; (with_reducible repeat (first | refine blk_drewN ?_ _ | refine blk_drew ?_ | refine blk_alloc ?_ _)); exact BK552.out) Tryd.underlying79 rfl (by kernel_rfl)) rfl ?_
      exact ex (lk HB)
     rw [if_neg c33] at H
     have c33b0 : (x556000_7.toList == ([] : List UInt8)) = false := beq_eq_false_iff_ne.mpr c33
     have c33b1 : (x556000_7.toList != ([] : List UInt8)) = true := bne_iff_ne.mpr c33
     replace H := Option.bind_eq_some_iff.mp H
     obtain ⟨t563, A370, H⟩ := H
     replace H : (if x0_7.toList = ([] : List UInt8) then (some (t563, x556001_7, true)) else (if 0 < (x0_7.size : Int) then (if (bt x0_7 0) = 101 then (num_read.j1 kj7 x0_7 false t563 x556001_7) else (num_read.j1 kj7 x0_7 ((bt x0_7 0) != 69) t563 x556001_7)) else (none))) = some (r1, r2, r3) := H
     have A37 := Aside0.mk A370
     clear A370
     by_cases c38 : x0_7.toList = ([] : List UInt8)
     ·
      rw [if_pos c38] at H
      have c38b0 : (x0_7.toList == ([] : List UInt8)) = true := beq_iff_eq.mpr c38
      have c38b1 : (x0_7.toList != ([] : List UInt8)) = false := bne_eq_false_iff_eq.mpr c38
      clear c38
      simp only [Option.some.injEq, Prod.mk.injEq] at H
      obtain ⟨rfl, rfl, rfl⟩ := H
      have hnb39 := NB555_552.out
      have hnc39 := NB552_555.out
      have hcz40_0 : wc.cell? ⟨gb555, 0, none⟩ = some (.string x556000_7) := (blk_cell BK555.out 0).trans rfl
      have hcz40_1 : wc.cell? ⟨gb555, 1, none⟩ = some (.int .i64 x556001_7) := (blk_cell BK555.out 1).trans rfl
      have hfz40_0 := blk_frozen BK555.out 0
      have hfz40_1 := blk_frozen BK555.out 1
      go_wp2_with (first | ((with_reducible refine gate_callee (f := 101) rfl ?_); refine gL (some 44) Tryd.func101 #[.string x556000_7, .string (⟨#[48]⟩ : ByteArray)] ?_; (with_reducible refine (strings_TrimLeft.calls kj7 x556000_7 (⟨#[48]⟩ : ByteArray) t563 _ A37.out).mono ?_); rintro e w41 ⟨rfl, hb⟩; refine ⟨_, rfl, ?_⟩; replace BK552 := bb BK552 hb; replace BK555 := bb BK555 hb; replace HB := lb HB hb; (try clear hb); (try clear hb2); (try clear hk); (try clear hi); have hcz42_0 : w41.cell? ⟨gb555, 0, none⟩ = some (.string x556000_7) := (blk_cell BK555.out 0).trans rfl; have hcz42_1 : w41.cell? ⟨gb555, 1, none⟩ = some (.int .i64 x556001_7) := (blk_cell BK555.out 1).trans rfl; have hfz42_0 := blk_frozen BK555.out 0; have hfz42_1 := blk_frozen BK555.out 1; have hcz43_0 : w41.cell? ⟨gb552, 0, none⟩ = some (.string (⟨#[]⟩ : ByteArray)) := (blk_cell BK552.out 0).trans rfl; have hcz43_1 : w41.cell? ⟨gb552, 1, none⟩ = some (.int .i64 0) := (blk_cell BK552.out 1).trans rfl; have hfz43_0 := blk_frozen BK552.out 0; have hfz43_1 := blk_frozen BK552.out 1))
      refine bodyPost_ret (results_ct rfl _ _ gb552 79 #[.string t563, .int .i64 x556001_7] (0, 0) _ rfl (by (with_reducible repeat (first | refine blk_drewN ?_ _ | refine blk_drew ?_ | refine blk_alloc ?_ _)); refine blk_put (cs := #[.string t563, .int .i64 0]) ?_ 1 _ rfl; (with_reducible repeat (first | refine blk_drewN ?_ _ | refine blk_drew ?_ | refine blk_alloc ?_ _)); refine blk_put (cs := #[.string (⟨#[]⟩ : ByteArray), .int .i64 0]) ?_ 0 _ rfl; (with_reducible repeat (first | refine blk_drewN ?_ _ | refine blk_drew ?_ | refine blk_alloc ?_ _)); refine blk_far ?_ NB552_555.out _; (with_reducible repeat (first | refine blk_drewN ?_ _ | refine blk_drew ?_ | refine blk_alloc ?_ _)); exact BK552.out) Tryd.underlying79 rfl (by kernel_rfl)) rfl ?_
      exact ex (lk HB)
     rw [if_neg c38] at H
     have c38b0 : (x0_7.toList == ([] : List UInt8)) = false := beq_eq_false_iff_ne.mpr c38
     have c38b1 : (x0_7.toList != ([] : List UInt8)) = true := bne_iff_ne.mpr c38
     have HC44 := Aside0.mk H
     clear H
     have hnb45 := NB555_552.out
     have hnc45 := NB552_555.out
     have hcz46_0 : wc.cell? ⟨gb555, 0, none⟩ = some (.string x556000_7) := (blk_cell BK555.out 0).trans rfl
     have hcz46_1 : wc.cell? ⟨gb555, 1, none⟩ = some (.int .i64 x556001_7) := (blk_cell BK555.out 1).trans rfl
     have hfz46_0 := blk_frozen BK555.out 0
     have hfz46_1 := blk_frozen BK555.out 1
     go_upto_region 14 with (first | ((with_reducible refine gate_callee (f := 101) rfl ?_); refine gL (some 44) Tryd.func101 #[.string x556000_7, .string (⟨#[48]⟩ : ByteArray)] ?_; (with_reducible refine (strings_TrimLeft.calls kj7 x556000_7 (⟨#[48]⟩ : ByteArray) t563 _ A37.out).mono ?_); rintro e w47 ⟨rfl, hb⟩; refine ⟨_, rfl, ?_⟩; replace BK552 := bb BK552 hb; replace BK555 := bb BK555 hb; replace HB := lb HB hb; (try clear hb); (try clear hb2); (try clear hk); (try clear hi); have hcz48_0 : w47.cell? ⟨gb555, 0, none⟩ = some (.string x556000_7) := (blk_cell BK555.out 0).trans rfl; have hcz48_1 : w47.cell? ⟨gb555, 1, none⟩ = some (.int .i64 x556001_7) := (blk_cell BK555.out 1).trans rfl; have hfz48_0 := blk_frozen BK555.out 0; have hfz48_1 := blk_frozen BK555.out 1))
     (try simp only [Act.put, List.setIfInBounds_toArray, List.set_cons_zero, List.set_cons_succ])
     go_cut [56] (fun v56 wc => ∃ (kq : Nat) (x56_43 : Bool), v56 = .bool x56_43 ∧ Aside0 (num_read.j1 kq x0_7 x56_43 t563 x556001_7 = some (r1, r2, r3)) ∧ Aside0 (kq ≤ kj7) ∧ Aside0 (wc.heap[gb552]? = some (.cells #[.string (⟨#[]⟩ : ByteArray), .int .i64 0] 79 (0, 0))) ∧ Aside0 (wc.heap[gb555]? = some (.cells #[.string t563, .int .i64 x556001_7] 79 (0, 0))) ∧ Aside0 (Below w.heap.size w wc))
     case first =>
      have H := HC44.out
      clear HC44
      by_cases c49 : 0 < (x0_7.size : Int)
      ·
       rw [if_pos c49] at H
       have c49b0 : decide (0 < (x0_7.size : Int)) = true := decide_eq_true c49
       have c49b1 : decide (0 < x0_7.size) = true := decide_eq_true (by omega)
       clear c49
       (first | rw [c49b0] | (simp only [i64_w, i32_w]; rw [c49b0]) | skip)
       by_cases c51 : (bt x0_7 0) = 101
       ·
        rw [if_pos c51] at H
        have c51b0 : ((bt x0_7 0) == 101) = true := beq_iff_eq.mpr c51
        have c51b1 : ((bt x0_7 0) != 101) = false := bne_eq_false_iff_eq.mpr c51
        clear c51
        have H' := Aside0.mk H
        clear H
        have p50 : 0 ≤ (0 : Int) := (by omega)
        have q50 : 0 < x0_7.size := (by have : (0 : Int) < (x0_7.size : Int) := of_decide_eq_true (by first | (with_reducible assumption) | assumption); omega)
        have hx50 : ∀ h : 0 < x0_7.size, ((x0_7[0]'h).toNat : Int) = bt x0_7 0 := bt_at x0_7 0
        clear p50
        have qi50 : (0 < (x0_7.size : Int)) = True := eq_true (of_decide_eq_true (by first | (with_reducible assumption) | assumption))
        replace q50 := eq_true q50
        go_wp2
        go_meet
        case rel => exact ⟨_, (false), (by first | rfl | (simp; done) | (simp [*]; done)), H', ⟨by have := HJ7.out; first | omega | exact Nat.le_refl _⟩, ⟨by (with_reducible repeat (first | refine blk_drewN ?_ _ | refine blk_drew ?_ | refine blk_alloc ?_ _)); refine blk_far ?_ NB552_555.out _; (with_reducible repeat (first | refine blk_drewN ?_ _ | refine blk_drew ?_ | refine blk_alloc ?_ _)); exact BK552.out⟩, ⟨by (with_reducible repeat (first | refine blk_drewN ?_ _ | refine blk_drew ?_ | refine blk_alloc ?_ _)); refine blk_put (cs := #[.string x556000_7, .int .i64 x556001_7]) ?_ 0 _ rfl; (with_reducible repeat (first | refine blk_drewN ?_ _ | refine blk_drew ?_ | refine blk_alloc ?_ _)); exact BK555.out⟩, ⟨lk HB⟩⟩
       rw [if_neg c51] at H
       have c51b0 : ((bt x0_7 0) == 101) = false := beq_eq_false_iff_ne.mpr c51
       have c51b1 : ((bt x0_7 0) != 101) = true := bne_iff_ne.mpr c51
       have H' := Aside0.mk H
       clear H
       have p50 : 0 ≤ (0 : Int) := (by omega)
       have q50 : 0 < x0_7.size := (by have : (0 : Int) < (x0_7.size : Int) := of_decide_eq_true (by first | (with_reducible assumption) | assumption); omega)
       have hx50 : ∀ h : 0 < x0_7.size, ((x0_7[0]'h).toNat : Int) = bt x0_7 0 := bt_at x0_7 0
       clear p50
       have qi50 : (0 < (x0_7.size : Int)) = True := eq_true (of_decide_eq_true (by first | (with_reducible assumption) | assumption))
       replace q50 := eq_true q50
       have p52 : 0 ≤ (0 : Int) := (by omega)
       have q52 : 0 < x0_7.size := (by have : (0 : Int) < (x0_7.size : Int) := of_decide_eq_true (by first | (with_reducible assumption) | assumption); omega)
       have hx52 : ∀ h : 0 < x0_7.size, ((x0_7[0]'h).toNat : Int) = bt x0_7 0 := bt_at x0_7 0
       clear p52
       have qi52 : (0 < (x0_7.size : Int)) = True := eq_true (of_decide_eq_true (by first | (with_reducible assumption) | assumption))
       replace q52 := eq_true q52
       go_wp2
       go_meet
       case rel => exact ⟨_, (((bt x0_7 0) != 69)), (by first | rfl | (simp; done) | (simp [*]; done)), H', ⟨by have := HJ7.out; first | omega | exact Nat.le_refl _⟩, ⟨by (with_reducible repeat (first | refine blk_drewN ?_ _ | refine blk_drew ?_ | refine blk_alloc ?_ _)); refine blk_far ?_ NB552_555.out _; (with_reducible repeat (first | refine blk_drewN ?_ _ | refine blk_drew ?_ | refine blk_alloc ?_ _)); exact BK552.out⟩, ⟨by (with_reducible repeat (first | refine blk_drewN ?_ _ | refine blk_drew ?_ | refine blk_alloc ?_ _)); refine blk_put (cs := #[.string x556000_7, .int .i64 x556001_7]) ?_ 0 _ rfl; (with_reducible repeat (first | refine blk_drewN ?_ _ | refine blk_drew ?_ | refine blk_alloc ?_ _)); exact BK555.out⟩, ⟨lk HB⟩⟩
      rw [if_neg c49] at H
      exact absurd H (by simp)
     case rest =>
      clear HC44
      try clear c1
      try clear c2
      try clear p2
      try clear c3
      try clear c3b0
      try clear c3b1
      try clear c4
      try clear c4b0
      try clear c4b1
      try clear c5
      try clear c5b0
      try clear p5
      try clear q5
      try clear hx5
      try clear qi5
      try clear c6
      try clear c6b0
      try clear p6
      try clear c7
      try clear c9
      try clear c10
      try clear c12
      try clear c15
      try clear c16
      try clear c16b0
      try clear c16b1
      try clear c18
      try clear c18b0
      try clear c18b1
      try clear c19
      try clear c19b0
      try clear c19b1
      try clear c20
      try clear c20b0
      try clear c20b1
      try clear c20b2
      try clear c22
      try clear c22b0
      try clear c22b1
      try clear c23
      try clear c23b0
      try clear c30
      try clear c33
      try clear c33b0
      try clear c33b1
      try clear c34
      try clear c38
      try clear c38b0
      try clear c38b1
      try clear c39
      try clear c45
      try clear c49
      try clear c49b0
      try clear c49b1
      try clear p50
      try clear q50
      try clear hx50
      try clear qi50
      try clear c51
      try clear c51b0
      try clear c51b1
      try clear p52
      try clear q52
      try clear hx52
      try clear qi52
      try clear hcz13_0
      try clear hcz13_1
      try clear hcz31_0
      try clear hcz31_1
      try clear hcz35_0
      try clear hcz35_1
      try clear hcz36_0
      try clear hcz36_1
      try clear hcz40_0
      try clear hcz40_1
      try clear hcz42_0
      try clear hcz42_1
      try clear hcz43_0
      try clear hcz43_1
      try clear hcz46_0
      try clear hcz46_1
      try clear hcz48_0
      try clear hcz48_1
      try clear hfz13_0
      try clear hfz13_1
      try clear hfz31_0
      try clear hfz31_1
      try clear hfz35_0
      try clear hfz35_1
      try clear hfz36_0
      try clear hfz36_1
      try clear hfz40_0
      try clear hfz40_1
      try clear hfz42_0
      try clear hfz42_1
      try clear hfz43_0
      try clear hfz43_1
      try clear hfz46_0
      try clear hfz46_1
      try clear hfz48_0
      try clear hfz48_1
      try clear p2
      try clear p50
      try clear p52
      try clear p6
      try clear q50
      try clear q52
      obtain ⟨kq, x56_43, rfl, HA, HJ43, BK552, BK555, HB⟩ := hcut
      cases kq with
      | zero => exact absurd HA.out (by simp [num_read.j1])
      | succ kj43 =>
       have H := HA.out
       clear HA
       simp only [num_read.j1] at H
       by_cases c53 : x56_43 = true
       ·
        subst c53
        have H1 : (some (t563, x556001_7, false)) = some (r1, r2, r3) := by rw [if_pos rfl] at H; exact H
        clear H
        have H := H1
        clear H1
        simp only [Option.some.injEq, Prod.mk.injEq] at H
        obtain ⟨rfl, rfl, rfl⟩ := H
        have hnb54 := NB555_552.out
        have hnc54 := NB552_555.out
        have hcz55_0 : wc.cell? ⟨gb555, 0, none⟩ = some (.string t563) := (blk_cell BK555.out 0).trans rfl
        have hcz55_1 : wc.cell? ⟨gb555, 1, none⟩ = some (.int .i64 x556001_7) := (blk_cell BK555.out 1).trans rfl
        have hfz55_0 := blk_frozen BK555.out 0
        have hfz55_1 := blk_frozen BK555.out 1
        have hcz56_0 : wc.cell? ⟨gb552, 0, none⟩ = some (.string (⟨#[]⟩ : ByteArray)) := (blk_cell BK552.out 0).trans rfl
        have hcz56_1 : wc.cell? ⟨gb552, 1, none⟩ = some (.int .i64 0) := (blk_cell BK552.out 1).trans rfl
        have hfz56_0 := blk_frozen BK552.out 0
        have hfz56_1 := blk_frozen BK552.out 1
        go_wp2
        refine bodyPost_ret (results_ct rfl _ _ gb552 79 #[.string t563, .int .i64 x556001_7] (0, 0) _ rfl (by (with_reducible repeat (first | refine blk_drewN ?_ _ | refine blk_drew ?_ | refine blk_alloc ?_ _)); refine blk_put (cs := #[.string t563, .int .i64 0]) ?_ 1 _ rfl; (with_reducible repeat (first | refine blk_drewN ?_ _ | refine blk_drew ?_ | refine blk_alloc ?_ _)); refine blk_put (cs := #[.string (⟨#[]⟩ : ByteArray), .int .i64 0]) ?_ 0 _ rfl; (with_reducible repeat (first | refine blk_drewN ?_ _ | refine blk_drew ?_ | refine blk_alloc ?_ _)); exact BK552.out) Tryd.underlying79 rfl (by kernel_rfl)) rfl ?_
        exact ex (lk HB)
       replace c53 := Bool.eq_false_iff.mpr c53
       subst c53
       have H1 : (if 1 ≤ (x0_7.size : Int) then ((some (x0_7.extract 1 x0_7.size : ByteArray)).bind fun y564 => (if y564.toList = ([] : List UInt8) then (num_read.j2 kj43 y564 1 false t563 x556001_7) else (if 0 < (y564.size : Int) then (if (bt y564 0) = 43 then (num_read.j2 kj43 y564 1 true t563 x556001_7) else (num_read.j2 kj43 y564 1 ((bt y564 0) == 45) t563 x556001_7)) else (none)))) else (none)) = some (r1, r2, r3) := by rw [if_neg (show ¬ (false = true) by decide)] at H; exact H
       clear H
       have H := H1
       clear H1
       by_cases c57 : 1 ≤ (x0_7.size : Int)
       ·
        rw [if_pos c57] at H
        have c57b0 := eq_true c57
        have c57b1 : decide (1 ≤ (x0_7.size : Int)) = true := decide_eq_true c57
        clear c57
        obtain ⟨y564, hy564⟩ : ∃ y_ : ByteArray, y_ = (x0_7.extract 1 x0_7.size) := ⟨_, rfl⟩
        replace H : (if y564.toList = ([] : List UInt8) then (num_read.j2 kj43 y564 1 false t563 x556001_7) else (if 0 < (y564.size : Int) then (if (bt y564 0) = 43 then (num_read.j2 kj43 y564 1 true t563 x556001_7) else (num_read.j2 kj43 y564 1 ((bt y564 0) == 45) t563 x556001_7)) else (none))) = some (r1, r2, r3) := by first | (rw [hy564]; with_reducible exact H) | (rw [hy564]; with_reducible exact (hs H :)) | with_reducible exact (hs H :) | with_reducible exact H | (rw [hy564]; exact H) | exact H
        have Ny564 := Aside0.mk hy564
        clear hy564
        have HC58 := Aside0.mk H
        clear H
        have hcs59 := Hd.str_from (P := Tryd.prog) (k := .i64) Tryd.underlying9 (i := 1) (s := x0_7) (y := y564) (by first | (with_reducible assumption) | exact of_decide_eq_true (by first | (with_reducible assumption) | assumption) | omega) (by first | (with_reducible assumption) | exact of_decide_eq_true (by first | (with_reducible assumption) | assumption) | omega) Ny564.out
        go_upto_region 18 with (fail)
        go_cut [71] (fun v71 wc => ∃ (kq : Nat) (x71_57 : Bool), v71 = .bool x71_57 ∧ Aside0 (num_read.j2 kq y564 1 x71_57 t563 x556001_7 = some (r1, r2, r3)) ∧ Aside0 (kq ≤ kj43) ∧ Aside0 (wc.heap[gb552]? = some (.cells #[.string (⟨#[]⟩ : ByteArray), .int .i64 0] 79 (0, 0))) ∧ Aside0 (wc.heap[gb555]? = some (.cells #[.string t563, .int .i64 x556001_7] 79 (0, 0))) ∧ Aside0 (Below w.heap.size w wc))
        case first =>
         have H := HC58.out
         clear HC58
         by_cases c60 : y564.toList = ([] : List UInt8)
         ·
          rw [if_pos c60] at H
          have c60b0 : (y564.toList == ([] : List UInt8)) = true := beq_iff_eq.mpr c60
          have c60b1 : (y564.toList != ([] : List UInt8)) = false := bne_eq_false_iff_eq.mpr c60
          clear c60
          (first | rw [c60b0] | (simp only [i64_w, i32_w]; rw [c60b0]) | skip)
          have H' := Aside0.mk H
          clear H
          go_wp2
          go_meet
          case rel => exact ⟨_, (false), (by first | rfl | (simp; done) | (simp [*]; done)), H', ⟨by have := HJ7.out; have := HJ43.out; first | omega | exact Nat.le_refl _⟩, ⟨bk BK552⟩, ⟨bk BK555⟩, ⟨lk HB⟩⟩
         rw [if_neg c60] at H
         have c60b0 : (y564.toList == ([] : List UInt8)) = false := beq_eq_false_iff_ne.mpr c60
         have c60b1 : (y564.toList != ([] : List UInt8)) = true := bne_iff_ne.mpr c60
         (first | rw [c60b0] | (simp only [i64_w, i32_w]; rw [c60b0]) | skip)
         by_cases c61 : 0 < (y564.size : Int)
         ·
          rw [if_pos c61] at H
          have c61b0 : decide (0 < (y564.size : Int)) = true := decide_eq_true c61
          have c61b1 : decide (0 < y564.size) = true := decide_eq_true (by omega)
          clear c61
          by_cases c63 : (bt y564 0) = 43
          ·
           rw [if_pos c63] at H
           have c63b0 : ((bt y564 0) == 43) = true := beq_iff_eq.mpr c63
           have c63b1 : ((bt y564 0) != 43) = false := bne_eq_false_iff_eq.mpr c63
           clear c63
           have H' := Aside0.mk H
           clear H
           have p62 : 0 ≤ (0 : Int) := (by omega)
           have q62 : 0 < y564.size := (by have : (0 : Int) < (y564.size : Int) := of_decide_eq_true (by first | (with_reducible assumption) | assumption); omega)
           have hx62 : ∀ h : 0 < y564.size, ((y564[0]'h).toNat : Int) = bt y564 0 := bt_at y564 0
           clear p62
           have qi62 : (0 < (y564.size : Int)) = True := eq_true (of_decide_eq_true (by first | (with_reducible assumption) | assumption))
           replace q62 := eq_true q62
           go_wp2
           go_meet
           case rel => exact ⟨_, (true), (by first | rfl | (simp; done) | (simp [*]; done)), H', ⟨by have := HJ7.out; have := HJ43.out; first | omega | exact Nat.le_refl _⟩, ⟨bk BK552⟩, ⟨bk BK555⟩, ⟨lk HB⟩⟩
          rw [if_neg c63] at H
          have c63b0 : ((bt y564 0) == 43) = false := beq_eq_false_iff_ne.mpr c63
          have c63b1 : ((bt y564 0) != 43) = true := bne_iff_ne.mpr c63
          have H' := Aside0.mk H
          clear H
          have p62 : 0 ≤ (0 : Int) := (by omega)
          have q62 : 0 < y564.size := (by have : (0 : Int) < (y564.size : Int) := of_decide_eq_true (by first | (with_reducible assumption) | assumption); omega)
          have hx62 : ∀ h : 0 < y564.size, ((y564[0]'h).toNat : Int) = bt y564 0 := bt_at y564 0
          clear p62
          have qi62 : (0 < (y564.size : Int)) = True := eq_true (of_decide_eq_true (by first | (with_reducible assumption) | assumption))
          replace q62 := eq_true q62
          have p64 : 0 ≤ (0 : Int) := (by omega)
          have q64 : 0 < y564.size := (by have : (0 : Int) < (y564.size : Int) := of_decide_eq_true (by first | (with_reducible assumption) | assumption); omega)
          have hx64 : ∀ h : 0 < y564.size, ((y564[0]'h).toNat : Int) = bt y564 0 := bt_at y564 0
          clear p64
          have qi64 : (0 < (y564.size : Int)) = True := eq_true (of_decide_eq_true (by first | (with_reducible assumption) | assumption))
          replace q64 := eq_true q64
          go_wp2
          go_meet
          case rel => exact ⟨_, (((bt y564 0) == 45)), (by first | rfl | (simp; done) | (simp [*]; done)), H', ⟨by have := HJ7.out; have := HJ43.out; first | omega | exact Nat.le_refl _⟩, ⟨bk BK552⟩, ⟨bk BK555⟩, ⟨lk HB⟩⟩
         rw [if_neg c61] at H
         exact absurd H (by simp)
        case rest =>
         clear HC58
         try clear c1
         try clear c2
         try clear p2
         try clear c3
         try clear c3b0
         try clear c3b1
         try clear c4
         try clear c4b0
         try clear c4b1
         try clear c5
         try clear c5b0
         try clear p5
         try clear q5
         try clear hx5
         try clear qi5
         try clear c6
         try clear c6b0
         try clear p6
         try clear q6
         try clear hx6
         try clear qi6
         try clear c7
         try clear c9
         try clear c10
         try clear c12
         try clear c15
         try clear c16
         try clear c16b0
         try clear c16b1
         try clear c18
         try clear c18b0
         try clear c18b1
         try clear c19
         try clear c19b0
         try clear c19b1
         try clear c20
         try clear c20b0
         try clear c20b1
         try clear c20b2
         try clear c22
         try clear c22b0
         try clear c22b1
         try clear c23
         try clear c23b0
         try clear c30
         try clear c33
         try clear c33b0
         try clear c33b1
         try clear c34
         try clear c38
         try clear c38b0
         try clear c38b1
         try clear c39
         try clear c45
         try clear c49
         try clear c49b0
         try clear c49b1
         try clear p50
         try clear q50
         try clear hx50
         try clear qi50
         try clear c51
         try clear c51b0
         try clear c51b1
         try clear p52
         try clear q52
         try clear hx52
         try clear qi52
         try clear c53
         try clear c54
         try clear c57
         try clear c57b0
         try clear c57b1
         try clear c60
         try clear c60b0
         try clear c60b1
         try clear c61
         try clear c61b0
         try clear c61b1
         try clear p62
         try clear q62
         try clear hx62
         try clear qi62
         try clear c63
         try clear c63b0
         try clear c63b1
         try clear p64
         try clear q64
         try clear hx64
         try clear qi64
         try clear hcz13_0
         try clear hcz13_1
         try clear hcz31_0
         try clear hcz31_1
         try clear hcz35_0
         try clear hcz35_1
         try clear hcz36_0
         try clear hcz36_1
         try clear hcz40_0
         try clear hcz40_1
         try clear hcz42_0
         try clear hcz42_1
         try clear hcz43_0
         try clear hcz43_1
         try clear hcz46_0
         try clear hcz46_1
         try clear hcz48_0
         try clear hcz48_1
         try clear hcz55_0
         try clear hcz55_1
         try clear hcz56_0
         try clear hcz56_1
         try clear hfz13_0
         try clear hfz13_1
         try clear hfz31_0
         try clear hfz31_1
         try clear hfz35_0
         try clear hfz35_1
         try clear hfz36_0
         try clear hfz36_1
         try clear hfz40_0
         try clear hfz40_1
         try clear hfz42_0
         try clear hfz42_1
         try clear hfz43_0
         try clear hfz43_1
         try clear hfz46_0
         try clear hfz46_1
         try clear hfz48_0
         try clear hfz48_1
         try clear hfz55_0
         try clear hfz55_1
         try clear hfz56_0
         try clear hfz56_1
         try clear p2
         try clear p5
         try clear p50
         try clear p52
         try clear p6
         try clear p62
         try clear p64
         try clear q5
         try clear q50
         try clear q52
         try clear q62
         try clear q64
         obtain ⟨kq, x71_57, rfl, HA, HJ57, BK552, BK555, HB⟩ := hcut
         cases kq with
         | zero => exact absurd HA.out (by simp [num_read.j2])
         | succ kj57 =>
          have H := HA.out
          clear HA
          simp only [num_read.j2] at H
          have HC65 := Aside0.mk H
          clear H
          go_upto_if 71 with (fail)
          go_cut [0, 6] (fun v0 v6 wc => ∃ (kq : Nat) (x0_64 : ByteArray) (x6_64 : Int), v0 = .string x0_64 ∧ v6 = .int .i64 x6_64 ∧ Aside0 (num_read.j3 kq x0_64 x6_64 t563 x556001_7 = some (r1, r2, r3)) ∧ Aside0 (kq ≤ kj57) ∧ Aside0 (wc.heap[gb552]? = some (.cells #[.string (⟨#[]⟩ : ByteArray), .int .i64 0] 79 (0, 0))) ∧ Aside0 (wc.heap[gb555]? = some (.cells #[.string t563, .int .i64 x556001_7] 79 (0, 0))) ∧ Aside0 (Below w.heap.size w wc))
          case first =>
           have H := HC65.out
           clear HC65
           by_cases c66 : x71_57 = true
           ·
            subst c66
            have H1 : (if 0 < (y564.size : Int) then (if (bt y564 0) = 45 then (if 1 ≤ (y564.size : Int) then (num_read.j3 kj57 (y564.extract 1 y564.size) (-1) t563 x556001_7) else (none)) else (if 1 ≤ (y564.size : Int) then (num_read.j3 kj57 (y564.extract 1 y564.size) 1 t563 x556001_7) else (none))) else (none)) = some (r1, r2, r3) := by rw [if_pos rfl] at H; exact H
            clear H
            have H := H1
            clear H1
            by_cases c67 : 0 < (y564.size : Int)
            ·
             rw [if_pos c67] at H
             have c67b0 : decide (0 < (y564.size : Int)) = true := decide_eq_true c67
             have c67b1 : decide (0 < y564.size) = true := decide_eq_true (by omega)
             clear c67
             (first | rw [c67b0] | (simp only [i64_w, i32_w]; rw [c67b0]) | skip)
             by_cases c69 : (bt y564 0) = 45
             ·
              rw [if_pos c69] at H
              have c69b0 : ((bt y564 0) == 45) = true := beq_iff_eq.mpr c69
              have c69b1 : ((bt y564 0) != 45) = false := bne_eq_false_iff_eq.mpr c69
              clear c69
              by_cases c70 : 1 ≤ (y564.size : Int)
              ·
               rw [if_pos c70] at H
               have c70b0 := eq_true c70
               have c70b1 : decide (1 ≤ (y564.size : Int)) = true := decide_eq_true c70
               clear c70
               obtain ⟨y565, hy565⟩ : ∃ y_ : ByteArray, y_ = (y564.extract 1 y564.size) := ⟨_, rfl⟩
               replace H : (num_read.j3 kj57 y565 (-1) t563 x556001_7) = some (r1, r2, r3) := by first | (rw [hy565]; with_reducible exact H) | (rw [hy565]; with_reducible exact (hs H :)) | with_reducible exact (hs H :) | with_reducible exact H | (rw [hy565]; exact H) | exact H
               have Ny565 := Aside0.mk hy565
               clear hy565
               have H' := Aside0.mk H
               clear H
               have p68 : 0 ≤ (0 : Int) := (by omega)
               have q68 : 0 < y564.size := (by have : (0 : Int) < (y564.size : Int) := of_decide_eq_true (by first | (with_reducible assumption) | assumption); omega)
               have hx68 : ∀ h : 0 < y564.size, ((y564[0]'h).toNat : Int) = bt y564 0 := bt_at y564 0
               clear p68
               have qi68 : (0 < (y564.size : Int)) = True := eq_true (of_decide_eq_true (by first | (with_reducible assumption) | assumption))
               replace q68 := eq_true q68
               have hcs71 := Hd.str_from (P := Tryd.prog) (k := .i64) Tryd.underlying9 (i := 1) (s := y564) (y := y565) (by first | (with_reducible assumption) | exact of_decide_eq_true (by first | (with_reducible assumption) | assumption) | omega) (by first | (with_reducible assumption) | exact of_decide_eq_true (by first | (with_reducible assumption) | assumption) | omega) Ny565.out
               go_wp2
               go_meet
               case rel => exact ⟨_, (y565), ((-1)), (by first | rfl | (simp; done) | (simp [*]; done)), (by first | rfl | (simp; done) | (simp [*]; done)), H', ⟨by have := HJ7.out; have := HJ43.out; have := HJ57.out; first | omega | exact Nat.le_refl _⟩, ⟨bk BK552⟩, ⟨bk BK555⟩, ⟨lk HB⟩⟩
              rw [if_neg c70] at H
              exact absurd H (by simp)
             rw [if_neg c69] at H
             have c69b0 : ((bt y564 0) == 45) = false := beq_eq_false_iff_ne.mpr c69
             have c69b1 : ((bt y564 0) != 45) = true := bne_iff_ne.mpr c69
             by_cases c72 : 1 ≤ (y564.size : Int)
             ·
              rw [if_pos c72] at H
              have c72b0 := eq_true c72
              have c72b1 : decide (1 ≤ (y564.size : Int)) = true := decide_eq_true c72
              clear c72
              obtain ⟨y566, hy566⟩ : ∃ y_ : ByteArray, y_ = (y564.extract 1 y564.size) := ⟨_, rfl⟩
              replace H : (num_read.j3 kj57 y566 1 t563 x556001_7) = some (r1, r2, r3) := by first | (rw [hy566]; with_reducible exact H) | (rw [hy566]; with_reducible exact (hs H :)) | with_reducible exact (hs H :) | with_reducible exact H | (rw [hy566]; exact H) | exact H
              have Ny566 := Aside0.mk hy566
              clear hy566
              have H' := Aside0.mk H
              clear H
              have p68 : 0 ≤ (0 : Int) := (by omega)
              have q68 : 0 < y564.size := (by have : (0 : Int) < (y564.size : Int) := of_decide_eq_true (by first | (with_reducible assumption) | assumption); omega)
              have hx68 : ∀ h : 0 < y564.size, ((y564[0]'h).toNat : Int) = bt y564 0 := bt_at y564 0
              clear p68
              have qi68 : (0 < (y564.size : Int)) = True := eq_true (of_decide_eq_true (by first | (with_reducible assumption) | assumption))
              replace q68 := eq_true q68
              have hcs73 := Hd.str_from (P := Tryd.prog) (k := .i64) Tryd.underlying9 (i := 1) (s := y564) (y := y566) (by first | (with_reducible assumption) | exact of_decide_eq_true (by first | (with_reducible assumption) | assumption) | omega) (by first | (with_reducible assumption) | exact of_decide_eq_true (by first | (with_reducible assumption) | assumption) | omega) Ny566.out
              go_wp2
              go_meet
              case rel => exact ⟨_, (y566), (1), (by first | rfl | (simp; done) | (simp [*]; done)), (by first | rfl | (simp; done) | (simp [*]; done)), H', ⟨by have := HJ7.out; have := HJ43.out; have := HJ57.out; first | omega | exact Nat.le_refl _⟩, ⟨bk BK552⟩, ⟨bk BK555⟩, ⟨lk HB⟩⟩
             rw [if_neg c72] at H
             exact absurd H (by simp)
            rw [if_neg c67] at H
            exact absurd H (by simp)
           replace c66 := Bool.eq_false_iff.mpr c66
           subst c66
           have H1 : (num_read.j3 kj57 y564 1 t563 x556001_7) = some (r1, r2, r3) := by rw [if_neg (show ¬ (false = true) by decide)] at H; exact H
           clear H
           have H := H1
           clear H1
           have H' := Aside0.mk H
           clear H
           go_wp2
           go_meet
           case rel => exact ⟨_, (y564), (1), (by first | rfl | (simp; done) | (simp [*]; done)), (by first | rfl | (simp; done) | (simp [*]; done)), H', ⟨by have := HJ7.out; have := HJ43.out; have := HJ57.out; first | omega | exact Nat.le_refl _⟩, ⟨bk BK552⟩, ⟨bk BK555⟩, ⟨lk HB⟩⟩
          case rest =>
           clear HC65
           try clear c1
           try clear c2
           try clear p2
           try clear c3
           try clear c3b0
           try clear c3b1
           try clear c4
           try clear c4b0
           try clear c4b1
           try clear c5
           try clear c5b0
           try clear p5
           try clear q5
           try clear hx5
           try clear qi5
           try clear c6
           try clear c6b0
           try clear p6
           try clear q6
           try clear hx6
           try clear qi6
           try clear c7
           try clear c9
           try clear c10
           try clear c12
           try clear c15
           try clear c16
           try clear c16b0
           try clear c16b1
           try clear c18
           try clear c18b0
           try clear c18b1
           try clear c19
           try clear c19b0
           try clear c19b1
           try clear c20
           try clear c20b0
           try clear c20b1
           try clear c20b2
           try clear c22
           try clear c22b0
           try clear c22b1
           try clear c23
           try clear c23b0
           try clear c30
           try clear c33
           try clear c33b0
           try clear c33b1
           try clear c34
           try clear c38
           try clear c38b0
           try clear c38b1
           try clear c39
           try clear c45
           try clear c49
           try clear c49b0
           try clear c49b1
           try clear p50
           try clear q50
           try clear hx50
           try clear qi50
           try clear c51
           try clear c51b0
           try clear c51b1
           try clear p52
           try clear q52
           try clear hx52
           try clear qi52
           try clear c53
           try clear c54
           try clear c57
           try clear c57b0
           try clear c57b1
           try clear c60
           try clear c60b0
           try clear c60b1
           try clear c61
           try clear c61b0
           try clear c61b1
           try clear p62
           try clear q62
           try clear hx62
           try clear qi62
           try clear c63
           try clear c63b0
           try clear c63b1
           try clear p64
           try clear q64
           try clear hx64
           try clear qi64
           try clear c66
           try clear c67
           try clear c67b0
           try clear c67b1
           try clear p68
           try clear q68
           try clear hx68
           try clear qi68
           try clear c69
           try clear c69b0
           try clear c69b1
           try clear c70
           try clear c70b0
           try clear c70b1
           try clear c72
           try clear c72b0
           try clear c72b1
           try clear hcz13_0
           try clear hcz13_1
           try clear hcz31_0
           try clear hcz31_1
           try clear hcz35_0
           try clear hcz35_1
           try clear hcz36_0
           try clear hcz36_1
           try clear hcz40_0
           try clear hcz40_1
           try clear hcz42_0
           try clear hcz42_1
           try clear hcz43_0
           try clear hcz43_1
           try clear hcz46_0
           try clear hcz46_1
           try clear hcz48_0
           try clear hcz48_1
           try clear hcz55_0
           try clear hcz55_1
           try clear hcz56_0
           try clear hcz56_1
           try clear hfz13_0
           try clear hfz13_1
           try clear hfz31_0
           try clear hfz31_1
           try clear hfz35_0
           try clear hfz35_1
           try clear hfz36_0
           try clear hfz36_1
           try clear hfz40_0
           try clear hfz40_1
           try clear hfz42_0
           try clear hfz42_1
           try clear hfz43_0
           try clear hfz43_1
           try clear hfz46_0
           try clear hfz46_1
           try clear hfz48_0
           try clear hfz48_1
           try clear hfz55_0
           try clear hfz55_1
           try clear hfz56_0
           try clear hfz56_1
           try clear p2
           try clear p5
           try clear p50
           try clear p52
           try clear p6
           try clear p62
           try clear p64
           try clear p68
           try clear q5
           try clear q50
           try clear q52
           try clear q6
           try clear q62
           try clear q64
           try clear q68
           obtain ⟨kq, x0_64, x6_64, rfl, rfl, HA, HJ64, BK552, BK555, HB⟩ := hcut
           cases kq with
           | zero => exact absurd HA.out (by simp [num_read.j3])
           | succ kj64 =>
            have H := HA.out
            clear HA
            simp only [num_read.j3] at H
            have HC74 := Aside0.mk H
            clear H
            go_upto_region 22 with (fail)
            go_cut [85] (fun v85 wc => ∃ (kq : Nat) (x85_73 : Bool), v85 = .bool x85_73 ∧ Aside0 (num_read.j4 kq x0_64 x6_64 x85_73 t563 x556001_7 = some (r1, r2, r3)) ∧ Aside0 (kq ≤ kj64) ∧ Aside0 (wc.heap[gb552]? = some (.cells #[.string (⟨#[]⟩ : ByteArray), .int .i64 0] 79 (0, 0))) ∧ Aside0 (wc.heap[gb555]? = some (.cells #[.string t563, .int .i64 x556001_7] 79 (0, 0))) ∧ Aside0 (Below w.heap.size w wc))
            case first =>
             have H := HC74.out
             clear HC74
             by_cases c75 : x0_64.toList = ([] : List UInt8)
             ·
              rw [if_pos c75] at H
              have c75b0 : (x0_64.toList == ([] : List UInt8)) = true := beq_iff_eq.mpr c75
              have c75b1 : (x0_64.toList != ([] : List UInt8)) = false := bne_eq_false_iff_eq.mpr c75
              clear c75
              (first | rw [c75b0] | (simp only [i64_w, i32_w]; rw [c75b0]) | skip)
              have H' := Aside0.mk H
              clear H
              go_wp2
              go_meet
              case rel => exact ⟨_, (true), (by first | rfl | (simp; done) | (simp [*]; done)), H', ⟨by have := HJ7.out; have := HJ43.out; have := HJ57.out; have := HJ64.out; first | omega | exact Nat.le_refl _⟩, ⟨bk BK552⟩, ⟨bk BK555⟩, ⟨lk HB⟩⟩
             rw [if_neg c75] at H
             have c75b0 : (x0_64.toList == ([] : List UInt8)) = false := beq_eq_false_iff_ne.mpr c75
             have c75b1 : (x0_64.toList != ([] : List UInt8)) = true := bne_iff_ne.mpr c75
             (first | rw [c75b0] | (simp only [i64_w, i32_w]; rw [c75b0]) | skip)
             replace H := Option.bind_eq_some_iff.mp H
             obtain ⟨t567, A760, H⟩ := H
             replace H : (num_read.j4 kj64 x0_64 x6_64 (t567 != (x0_64.size : Int)) t563 x556001_7) = some (r1, r2, r3) := H
             have A76 := Aside0.mk A760
             clear A760
             have H' := Aside0.mk H
             clear H
             go_wp2_with (first | (go_at_call 76; (with_reducible refine (num_run.calls kj64 x0_64 t567 _ A76.out).mono ?_); rintro e w' ⟨rfl, ⟨nd, rfl⟩⟩))
             go_meet
             case rel => exact ⟨_, ((t567 != (x0_64.size : Int))), (by first | rfl | (simp; done) | (simp [*]; done)), H', ⟨by have := HJ7.out; have := HJ43.out; have := HJ57.out; have := HJ64.out; first | omega | exact Nat.le_refl _⟩, ⟨bk BK552⟩, ⟨bk BK555⟩, ⟨lk HB⟩⟩
            case rest =>
             clear HC74
             try clear c1
             try clear c2
             try clear p2
             try clear c3
             try clear c3b0
             try clear c3b1
             try clear c4
             try clear c4b0
             try clear c4b1
             try clear c5
             try clear c5b0
             try clear p5
             try clear q5
             try clear hx5
             try clear qi5
             try clear c6
             try clear c6b0
             try clear p6
             try clear q6
             try clear hx6
             try clear qi6
             try clear c7
             try clear c9
             try clear c10
             try clear c12
             try clear c15
             try clear c16
             try clear c16b0
             try clear c16b1
             try clear c18
             try clear c18b0
             try clear c18b1
             try clear c19
             try clear c19b0
             try clear c19b1
             try clear c20
             try clear c20b0
             try clear c20b1
             try clear c20b2
             try clear c22
             try clear c22b0
             try clear c22b1
             try clear c23
             try clear c23b0
             try clear c30
             try clear c33
             try clear c33b0
             try clear c33b1
             try clear c34
             try clear c38
             try clear c38b0
             try clear c38b1
             try clear c39
             try clear c45
             try clear c49
             try clear c49b0
             try clear c49b1
             try clear p50
             try clear q50
             try clear hx50
             try clear qi50
             try clear c51
             try clear c51b0
             try clear c51b1
             try clear p52
             try clear q52
             try clear hx52
             try clear qi52
             try clear c53
             try clear c54
             try clear c57
             try clear c57b0
             try clear c57b1
             try clear c60
             try clear c60b0
             try clear c60b1
             try clear c61
             try clear c61b0
             try clear c61b1
             try clear p62
             try clear q62
             try clear hx62
             try clear qi62
             try clear c63
             try clear c63b0
             try clear c63b1
             try clear p64
             try clear q64
             try clear hx64
             try clear qi64
             try clear c66
             try clear c67
             try clear c67b0
             try clear c67b1
             try clear p68
             try clear q68
             try clear hx68
             try clear qi68
             try clear c69
             try clear c69b0
             try clear c69b1
             try clear c70
             try clear c70b0
             try clear c70b1
             try clear c72
             try clear c72b0
             try clear c72b1
             try clear c75
             try clear c75b0
             try clear c75b1
             try clear hcz13_0
             try clear hcz13_1
             try clear hcz31_0
             try clear hcz31_1
             try clear hcz35_0
             try clear hcz35_1
             try clear hcz36_0
             try clear hcz36_1
             try clear hcz40_0
             try clear hcz40_1
             try clear hcz42_0
             try clear hcz42_1
             try clear hcz43_0
             try clear hcz43_1
             try clear hcz46_0
             try clear hcz46_1
             try clear hcz48_0
             try clear hcz48_1
             try clear hcz55_0
             try clear hcz55_1
             try clear hcz56_0
             try clear hcz56_1
             try clear hfz13_0
             try clear hfz13_1
             try clear hfz31_0
             try clear hfz31_1
             try clear hfz35_0
             try clear hfz35_1
             try clear hfz36_0
             try clear hfz36_1
             try clear hfz40_0
             try clear hfz40_1
             try clear hfz42_0
             try clear hfz42_1
             try clear hfz43_0
             try clear hfz43_1
             try clear hfz46_0
             try clear hfz46_1
             try clear hfz48_0
             try clear hfz48_1
             try clear hfz55_0
             try clear hfz55_1
             try clear hfz56_0
             try clear hfz56_1
             try clear p2
             try clear p5
             try clear p50
             try clear p52
             try clear p6
             try clear p62
             try clear p64
             try clear p68
             try clear q5
             try clear q50
             try clear q52
             try clear q6
             try clear q62
             try clear q64
             try clear q68
             obtain ⟨kq, x85_73, rfl, HA, HJ73, BK552, BK555, HB⟩ := hcut
             cases kq with
             | zero => exact absurd HA.out (by simp [num_read.j4])
             | succ kj73 =>
              have H := HA.out
              clear HA
              simp only [num_read.j4] at H
              by_cases c77 : x85_73 = true
              ·
               subst c77
               have H1 : (some (t563, x556001_7, false)) = some (r1, r2, r3) := by rw [if_pos rfl] at H; exact H
               clear H
               have H := H1
               clear H1
               simp only [Option.some.injEq, Prod.mk.injEq] at H
               obtain ⟨rfl, rfl, rfl⟩ := H
               have hnb78 := NB555_552.out
               have hnc78 := NB552_555.out
               have hcz79_0 : wc.cell? ⟨gb555, 0, none⟩ = some (.string t563) := (blk_cell BK555.out 0).trans rfl
               have hcz79_1 : wc.cell? ⟨gb555, 1, none⟩ = some (.int .i64 x556001_7) := (blk_cell BK555.out 1).trans rfl
               have hfz79_0 := blk_frozen BK555.out 0
               have hfz79_1 := blk_frozen BK555.out 1
               have hcz80_0 : wc.cell? ⟨gb552, 0, none⟩ = some (.string (⟨#[]⟩ : ByteArray)) := (blk_cell BK552.out 0).trans rfl
               have hcz80_1 : wc.cell? ⟨gb552, 1, none⟩ = some (.int .i64 0) := (blk_cell BK552.out 1).trans rfl
               have hfz80_0 := blk_frozen BK552.out 0
               have hfz80_1 := blk_frozen BK552.out 1
               go_wp2
               refine bodyPost_ret (results_ct rfl _ _ gb552 79 #[.string t563, .int .i64 x556001_7] (0, 0) _ rfl (by (with_reducible repeat (first | refine blk_drewN ?_ _ | refine blk_drew ?_ | refine blk_alloc ?_ _)); refine blk_put (cs := #[.string t563, .int .i64 0]) ?_ 1 _ rfl; (with_reducible repeat (first | refine blk_drewN ?_ _ | refine blk_drew ?_ | refine blk_alloc ?_ _)); refine blk_put (cs := #[.string (⟨#[]⟩ : ByteArray), .int .i64 0]) ?_ 0 _ rfl; (with_reducible repeat (first | refine blk_drewN ?_ _ | refine blk_drew ?_ | refine blk_alloc ?_ _)); exact BK552.out) Tryd.underlying79 rfl (by kernel_rfl)) rfl ?_
               exact ex (lk HB)
              replace c77 := Bool.eq_false_iff.mpr c77
              subst c77
              have H1 : (num_read.l0 kj73 x0_64 x6_64 0 (x0_64.size : Int) 0 t563 x556001_7) = some (r1, r2, r3) := by rw [if_neg (show ¬ (false = true) by decide)] at H; exact H
              clear H
              have H := H1
              clear H1
              have H' := Aside0.mk H
              clear H
              go_wp2
              go_loopg [7, 89] kj73 (fun kq v7 v89 w' => ∃ (x7_6 : Int) (x89_6 : Int), v7 = .int .i64 x7_6 ∧ v89 = .int .i64 x89_6 ∧ Aside0 (num_read.l0 kq x0_64 x6_64 x7_6 (x0_64.size : Int) x89_6 t563 x556001_7 = some (r1, r2, r3)) ∧ Aside0 (kq ≤ kj73) ∧ Aside0 (w'.heap[gb552]? = some (.cells #[.string (⟨#[]⟩ : ByteArray), .int .i64 0] 79 (0, 0))) ∧ Aside0 (w'.heap[gb555]? = some (.cells #[.string t563, .int .i64 x556001_7] 79 (0, 0))) ∧ Aside0 (Below w.heap.size w w'))
              case atStart => exact ⟨(0), (0), (by first | rfl | (simp; done) | (simp [*]; done)), (by first | rfl | (simp; done) | (simp [*]; done)), H', ⟨Nat.le_refl _⟩, ⟨bk BK552⟩, ⟨bk BK555⟩, ⟨lk HB⟩⟩
              case round =>
               clear H'
               try clear c1
               try clear c2
               try clear p2
               try clear c3
               try clear c3b0
               try clear c3b1
               try clear c4
               try clear c4b0
               try clear c4b1
               try clear c5
               try clear c5b0
               try clear p5
               try clear q5
               try clear hx5
               try clear qi5
               try clear c6
               try clear c6b0
               try clear p6
               try clear q6
               try clear hx6
               try clear qi6
               try clear c7
               try clear c9
               try clear c10
               try clear c12
               try clear c15
               try clear c16
               try clear c16b0
               try clear c16b1
               try clear c18
               try clear c18b0
               try clear c18b1
               try clear c19
               try clear c19b0
               try clear c19b1
               try clear c20
               try clear c20b0
               try clear c20b1
               try clear c20b2
               try clear c22
               try clear c22b0
               try clear c22b1
               try clear c23
               try clear c23b0
               try clear c30
               try clear c33
               try clear c33b0
               try clear c33b1
               try clear c34
               try clear c38
               try clear c38b0
               try clear c38b1
               try clear c39
               try clear c45
               try clear c49
               try clear c49b0
               try clear c49b1
               try clear p50
               try clear q50
               try clear hx50
               try clear qi50
               try clear c51
               try clear c51b0
               try clear c51b1
               try clear p52
               try clear q52
               try clear hx52
               try clear qi52
               try clear c53
               try clear c54
               try clear c57
               try clear c57b0
               try clear c57b1
               try clear c60
               try clear c60b0
               try clear c60b1
               try clear c61
               try clear c61b0
               try clear c61b1
               try clear p62
               try clear q62
               try clear hx62
               try clear qi62
               try clear c63
               try clear c63b0
               try clear c63b1
               try clear p64
               try clear q64
               try clear hx64
               try clear qi64
               try clear c66
               try clear c67
               try clear c67b0
               try clear c67b1
               try clear p68
               try clear q68
               try clear hx68
               try clear qi68
               try clear c69
               try clear c69b0
               try clear c69b1
               try clear c70
               try clear c70b0
               try clear c70b1
               try clear c72
               try clear c72b0
               try clear c72b1
               try clear c75
               try clear c75b0
               try clear c75b1
               try clear c77
               try clear c78
               try clear hcz13_0
               try clear hcz13_1
               try clear hcz31_0
               try clear hcz31_1
               try clear hcz35_0
               try clear hcz35_1
               try clear hcz36_0
               try clear hcz36_1
               try clear hcz40_0
               try clear hcz40_1
               try clear hcz42_0
               try clear hcz42_1
               try clear hcz43_0
               try clear hcz43_1
               try clear hcz46_0
               try clear hcz46_1
               try clear hcz48_0
               try clear hcz48_1
               try clear hcz55_0
               try clear hcz55_1
               try clear hcz56_0
               try clear hcz56_1
               try clear hcz79_0
               try clear hcz79_1
               try clear hcz80_0
               try clear hcz80_1
               try clear hfz13_0
               try clear hfz13_1
               try clear hfz31_0
               try clear hfz31_1
               try clear hfz35_0
               try clear hfz35_1
               try clear hfz36_0
               try clear hfz36_1
               try clear hfz40_0
               try clear hfz40_1
               try clear hfz42_0
               try clear hfz42_1
               try clear hfz43_0
               try clear hfz43_1
               try clear hfz46_0
               try clear hfz46_1
               try clear hfz48_0
               try clear hfz48_1
               try clear hfz55_0
               try clear hfz55_1
               try clear hfz56_0
               try clear hfz56_1
               try clear hfz79_0
               try clear hfz79_1
               try clear hfz80_0
               try clear hfz80_1
               try clear p2
               try clear p5
               try clear p50
               try clear p52
               try clear p6
               try clear p62
               try clear p64
               try clear p68
               try clear q5
               try clear q50
               try clear q52
               try clear q6
               try clear q62
               try clear q64
               try clear q68
               obtain ⟨x7_6, x89_6, rfl, rfl, HA, HK6, BK552, BK555, HB⟩ := hrel
               cases gk with
               | zero => exact absurd HA.out (by simp [num_read.l0])
               | succ k6 =>
                have H := HA.out
                clear HA
                simp only [num_read.l0] at H
                by_cases c81 : x89_6 < (x0_64.size : Int)
                ·
                 rw [if_pos c81] at H
                 have c81b0 : decide (x89_6 < (x0_64.size : Int)) = true := decide_eq_true c81
                 clear c81
                 by_cases c82 : 0 ≤ x89_6
                 ·
                  rw [if_pos c82] at H
                  have c82b0 : decide (0 ≤ x89_6) = true := decide_eq_true c82
                  clear c82
                  by_cases c83 : x89_6 < (x0_64.size : Int)
                  ·
                   rw [if_pos c83] at H
                   have c83b0 : decide (x89_6 < (x0_64.size : Int)) = true := decide_eq_true c83
                   clear c83
                   obtain ⟨ji85, hji85⟩ : ∃ j_ : Int, (mn (wrap64 ((wrap64 (10 * x7_6)) + (((bt x0_64 x89_6) - 48) % 256))) 100000) = j_ := ⟨_, rfl⟩
                   replace H : (num_read.l0 k6 x0_64 x6_64 ji85 (x0_64.size : Int) (wrap64 (x89_6 + 1)) t563 x556001_7) = some (r1, r2, r3) := by first | (rw [hji85] at H; exact H) | (simp only [hji85] at H ⊢; exact H)
                   have hji85_ : (if 100000 < (wrap64 ((wrap64 (10 * x7_6)) + (((bt x0_64 x89_6) - 48) % 256))) then 100000 else (wrap64 ((wrap64 (10 * x7_6)) + (((bt x0_64 x89_6) - 48) % 256)))) = ji85 := hji85
                   have H' := Aside0.mk H
                   clear H
                   have p84 : 0 ≤ (x89_6 : Int) := of_decide_eq_true (by first | (with_reducible assumption) | assumption)
                   have q84 : x89_6 < (x0_64.size : Int) := of_decide_eq_true (by first | (with_reducible assumption) | assumption)
                   have hx84 := bt_at x0_64 x89_6
                   replace p84 := eq_true p84
                   replace q84 := eq_true q84
                   go_wp2
                   go_roundg k6
                   case measure => have := HJ7.out; have := HJ43.out; have := HJ57.out; have := HJ64.out; have := HJ73.out; have := HK6.out; omega
                   case rel => exact ⟨(ji85), (wrap64 (x89_6 + 1)), (by first | rfl | (simp; done) | (simp only [← hji85] <;> (first | rfl | simp)) | (simp [*]; done)), (by first | rfl | (simp; done) | (simp [*]; done)), H', ⟨by have := HJ7.out; have := HJ43.out; have := HJ57.out; have := HJ64.out; have := HJ73.out; have := HK6.out; omega⟩, ⟨bk BK552⟩, ⟨bk BK555⟩, ⟨lk HB⟩⟩
                  rw [if_neg c83] at H
                  exact absurd H (by simp)
                 rw [if_neg c82] at H
                 exact absurd H (by simp)
                rw [if_neg c81] at H
                have c81b0 : decide (x89_6 < (x0_64.size : Int)) = false := decide_eq_false c81
                clear c81
                simp only [Option.some.injEq, Prod.mk.injEq] at H
                obtain ⟨rfl, rfl, rfl⟩ := H
                have hnb86 := NB555_552.out
                have hnc86 := NB552_555.out
                have hcz87_0 : wr.cell? ⟨gb555, 0, none⟩ = some (.string t563) := (blk_cell BK555.out 0).trans rfl
                have hcz87_1 : wr.cell? ⟨gb555, 1, none⟩ = some (.int .i64 x556001_7) := (blk_cell BK555.out 1).trans rfl
                have hfz87_0 := blk_frozen BK555.out 0
                have hfz87_1 := blk_frozen BK555.out 1
                have hcz88_0 : wr.cell? ⟨gb552, 0, none⟩ = some (.string (⟨#[]⟩ : ByteArray)) := (blk_cell BK552.out 0).trans rfl
                have hcz88_1 : wr.cell? ⟨gb552, 1, none⟩ = some (.int .i64 0) := (blk_cell BK552.out 1).trans rfl
                have hfz88_0 := blk_frozen BK552.out 0
                have hfz88_1 := blk_frozen BK552.out 1
                go_wp2
                refine bodyPost_ret (results_ct rfl _ _ gb552 79 #[.string t563, .int .i64 (wrap64 (x556001_7 + (wrap64 (x6_64 * x7_6))))] (0, 0) _ rfl (by (with_reducible repeat (first | refine blk_drewN ?_ _ | refine blk_drew ?_ | refine blk_alloc ?_ _)); refine blk_put (cs := #[.string t563, .int .i64 0]) ?_ 1 _ rfl; (with_reducible repeat (first | refine blk_drewN ?_ _ | refine blk_drew ?_ | refine blk_alloc ?_ _)); refine blk_put (cs := #[.string (⟨#[]⟩ : ByteArray), .int .i64 0]) ?_ 0 _ rfl; (with_reducible repeat (first | refine blk_drewN ?_ _ | refine blk_drew ?_ | refine blk_alloc ?_ _)); refine blk_far ?_ NB552_555.out _; (with_reducible repeat (first | refine blk_drewN ?_ _ | refine blk_drew ?_ | refine blk_alloc ?_ _)); exact BK552.out) Tryd.underlying79 rfl (by kernel_rfl)) rfl ?_
                exact ex (lk HB)
       rw [if_neg c57] at H
       exact absurd H (by simp)
  rw [if_neg c4] at H
  exact absurd H (by simp)
 rw [if_neg c3] at H
 exact absurd H (by simp)
def num_units.f  : Option ((List (S98))) := some (([(⟨(⟨#[121]⟩ : ByteArray), 31536000000⟩ : S98), (⟨(⟨#[119]⟩ : ByteArray), 604800000⟩ : S98), (⟨(⟨#[100]⟩ : ByteArray), 86400000⟩ : S98), (⟨(⟨#[104]⟩ : ByteArray), 3600000⟩ : S98), (⟨(⟨#[109]⟩ : ByteArray), 60000⟩ : S98), (⟨(⟨#[115]⟩ : ByteArray), 1000⟩ : S98), (⟨(⟨#[109, 115]⟩ : ByteArray), 1⟩ : S98)] : List (S98)))
set_option maxHeartbeats 8000000 in
set_option maxRecDepth 100000 in
theorem num_units.calls  (r : List (S98)) (w : World) (h : num_units.f  = some r) :
  Calls Tryd.prog 77 #[] w fun e w' => ∃ v0_ : Value, e = .returned (v0_) ∧ Kd.R k98 98 w' w.heap.size (fun _ => True) v0_ r ∧ Below w.heap.size w w' := by
 have hu98 := Tryd.underlying98
 have HB := Aside0.mk (Below.refl w.heap.size w)
 have H : (some (([(⟨(⟨#[121]⟩ : ByteArray), 31536000000⟩ : S98), (⟨(⟨#[119]⟩ : ByteArray), 604800000⟩ : S98), (⟨(⟨#[100]⟩ : ByteArray), 86400000⟩ : S98), (⟨(⟨#[104]⟩ : ByteArray), 3600000⟩ : S98), (⟨(⟨#[109]⟩ : ByteArray), 60000⟩ : S98), (⟨(⟨#[115]⟩ : ByteArray), 1000⟩ : S98), (⟨(⟨#[109, 115]⟩ : ByteArray), 1⟩ : S98)] : List (S98)))) = some r := h
 clear h
 obtain ⟨y606, hy606⟩ : ∃ y_ : List (S98), y_ = (([(⟨(⟨#[121]⟩ : ByteArray), 31536000000⟩ : S98), (⟨(⟨#[119]⟩ : ByteArray), 604800000⟩ : S98), (⟨(⟨#[100]⟩ : ByteArray), 86400000⟩ : S98), (⟨(⟨#[104]⟩ : ByteArray), 3600000⟩ : S98), (⟨(⟨#[109]⟩ : ByteArray), 60000⟩ : S98), (⟨(⟨#[115]⟩ : ByteArray), 1000⟩ : S98), (⟨(⟨#[109, 115]⟩ : ByteArray), 1⟩ : S98)] : List (S98))) := ⟨_, rfl⟩
 replace H : (some y606) = some r := by first | (rw [hy606]; with_reducible exact H) | (rw [hy606]; with_reducible exact (hs H :)) | with_reducible exact (hs H :) | with_reducible exact H | (rw [hy606]; exact H) | exact H
 have Ny606 := Aside0.mk hy606
 clear hy606
 obtain rfl := Option.some.inj H
 go_enter Tryd.func77, Tryd.ntmps77
 go_wp2_with (first | ((with_reducible refine gate_dst (N := 8) rfl ?_); refine Kd.R_lit k98 _ 98 ?hg (N := 8) ?hd (xs := ([(⟨(⟨#[121]⟩ : ByteArray), 31536000000⟩ : S98), (⟨(⟨#[119]⟩ : ByteArray), 604800000⟩ : S98), (⟨(⟨#[100]⟩ : ByteArray), 86400000⟩ : S98), (⟨(⟨#[104]⟩ : ByteArray), 3600000⟩ : S98), (⟨(⟨#[109]⟩ : ByteArray), 60000⟩ : S98), (⟨(⟨#[115]⟩ : ByteArray), 1000⟩ : S98), (⟨(⟨#[109, 115]⟩ : ByteArray), 1⟩ : S98)] : List (S98))) (inner := [.string (⟨#[121]⟩ : ByteArray), .int .i64 31536000000, .string (⟨#[119]⟩ : ByteArray), .int .i64 604800000, .string (⟨#[100]⟩ : ByteArray), .int .i64 86400000, .string (⟨#[104]⟩ : ByteArray), .int .i64 3600000, .string (⟨#[109]⟩ : ByteArray), .int .i64 60000, .string (⟨#[115]⟩ : ByteArray), .int .i64 1000, .string (⟨#[109, 115]⟩ : ByteArray), .int .i64 1]) (ok := fun _ => True) (okp := fun _ => True) ?hr ?hp (fun _ hk => hk) trivial (Below.refl _ _) (Nat.le_refl _) (by simp) ?_; (case hd => rfl); (case hg => rfl); (case hr => first | (go_simp; done) | (go_simp; rfl)); (case hp => exact (Reps.c2 (show Kd.M k98 _ _ _ (⟨(⟨#[121]⟩ : ByteArray), 31536000000⟩ : S98) [.string (⟨#[121]⟩ : ByteArray), .int .i64 31536000000] from (k98_mkM _ _ _ (⟨(⟨#[121]⟩ : ByteArray), 31536000000⟩ : S98) )) (Reps.c2 (show Kd.M k98 _ _ _ (⟨(⟨#[119]⟩ : ByteArray), 604800000⟩ : S98) [.string (⟨#[119]⟩ : ByteArray), .int .i64 604800000] from (k98_mkM _ _ _ (⟨(⟨#[119]⟩ : ByteArray), 604800000⟩ : S98) )) (Reps.c2 (show Kd.M k98 _ _ _ (⟨(⟨#[100]⟩ : ByteArray), 86400000⟩ : S98) [.string (⟨#[100]⟩ : ByteArray), .int .i64 86400000] from (k98_mkM _ _ _ (⟨(⟨#[100]⟩ : ByteArray), 86400000⟩ : S98) )) (Reps.c2 (show Kd.M k98 _ _ _ (⟨(⟨#[104]⟩ : ByteArray), 3600000⟩ : S98) [.string (⟨#[104]⟩ : ByteArray), .int .i64 3600000] from (k98_mkM _ _ _ (⟨(⟨#[104]⟩ : ByteArray), 3600000⟩ : S98) )) (Reps.c2 (show Kd.M k98 _ _ _ (⟨(⟨#[109]⟩ : ByteArray), 60000⟩ : S98) [.string (⟨#[109]⟩ : ByteArray), .int .i64 60000] from (k98_mkM _ _ _ (⟨(⟨#[109]⟩ : ByteArray), 60000⟩ : S98) )) (Reps.c2 (show Kd.M k98 _ _ _ (⟨(⟨#[115]⟩ : ByteArray), 1000⟩ : S98) [.string (⟨#[115]⟩ : ByteArray), .int .i64 1000] from (k98_mkM _ _ _ (⟨(⟨#[115]⟩ : ByteArray), 1000⟩ : S98) )) (Reps.c2 (show Kd.M k98 _ _ _ (⟨(⟨#[109, 115]⟩ : ByteArray), 1⟩ : S98) [.string (⟨#[109, 115]⟩ : ByteArray), .int .i64 1] from (k98_mkM _ _ _ (⟨(⟨#[109, 115]⟩ : ByteArray), 1⟩ : S98) )) (Reps.none _ _))))))))); intro v607 w1 ho2 hb hg_ hnew_; clear hg_ hnew_; (first | rw [← Ny606.out] at ho2 | (simp only [Int.reduceToNat] at ho2; rw [← Ny606.out] at ho2)); have HO608 := Aside0.mk (Kd.R_lower ho2 (below_size (lk HB))); replace HB := lb HB hb; clear hb ho2))
 go_ret
 exact ⟨_, by first | rfl | (simp [errW_none, errW_some] <;> rfl) | (simp [*, errW_none, errW_some] <;> rfl), rk HO608, lk HB⟩
def q_Bits.f (a0 : Nat) (a1 : Nat) : Option (Bool) := some ((a0 : Int) == (a1 : Int))
set_option maxHeartbeats 8000000 in
set_option maxRecDepth 100000 in
theorem q_Bits.calls (a0 : Nat) (a1 : Nat) (r : Bool) (w : World) (h : q_Bits.f a0 a1 = some r) :
  Calls Tryd.prog 20 #[.float .f64 a0, .float .f64 a1] w fun e w' => e = .returned (.bool r) ∧ Drawn0 w w' := by
 have H : (some ((a0 : Int) == (a1 : Int))) = some r := h
 clear h
 obtain rfl := Option.some.inj H
 have hext0 := Hd.ext54
 go_enter Tryd.func20, Tryd.ntmps20
 go_wp2
 go_ret
 exact ⟨by first | rfl | (simp; done) | (simp [*]; done), by repeat (first | exact Drawn0.refl _ | apply Drawn0.step)⟩
end Go.Proofs.YtjlnfnfdibfniaaDoor.F
namespace Go.Proofs.YtjlnfnfdibfniaaDoor.Hd
def decF : Nat → Nat → List UInt8
 | 0, _ => []
 | f + 1, n => (if n < 10 then [] else decF f (n / 10)) ++ [UInt8.ofNat (48 + n % 10)]
def dec (n : Nat) : List UInt8 := decF 20 n
def dec0 (n : Nat) : List UInt8 := if n = 0 then [] else dec n
theorem decF_stable : ∀ (f n : Nat), n < 10 ^ (f + 1) → decF (f + 2) n = decF (f + 1) n
 | 0, n, h => by
  have : n < 10 := by simpa using h
  simp [decF, this]
 | f + 1, n, h => by
  by_cases hn : n < 10
  ·
   simp [decF, hn]
  ·
   have hd : n / 10 < 10 ^ (f + 1) := by
    rw [Nat.pow_succ] at h
    omega
   have := decF_stable f (n / 10) hd
   show (if n < 10 then [] else decF (f + 2) (n / 10)) ++ _ = (if n < 10 then [] else decF (f + 1) (n / 10)) ++ _
   rw [this]
theorem dec_step (n : Nat) (h : n < 10 ^ 20) : dec n = dec0 (n / 10) ++ [UInt8.ofNat (48 + n % 10)] := by
 unfold dec dec0
 by_cases hn : n < 10
 ·
  have : n / 10 = 0 := by omega
  simp [decF, hn, this]
 ·
  have h0 : ¬ n / 10 = 0 := by omega
  rw [if_neg h0]
  have hs : decF 20 (n / 10) = decF 19 (n / 10) := decF_stable 18 (n / 10) (by omega)
  unfold dec
  rw [hs, decF, if_neg hn]
theorem decF_length : ∀ f n, (decF f n).length ≤ f
 | 0, _ => by simp [decF]
 | f + 1, n => by
  have := decF_length f (n / 10)
  rw [decF]
  split <;> simp <;> omega
theorem dec_length (n : Nat) : (dec n).length ≤ 20 := decF_length 20 n
def intText (n : Int) : ByteArray := if n < 0 then ⟨(45 :: dec (-n).toNat).toArray⟩ else ⟨(dec n.toNat).toArray⟩
structure IntLoop (U p m : Nat) (first : Bool) (acc : List UInt8) (arr : Array Value) : Prop where
 hp : p ≤ 20
 hacc : acc.length = 20 - p
 hsz : arr.size = 20
 hcell : ∀ i (h : i < acc.length), arr[p + i]? = some (.int .u8 (acc[i].toNat : Int))
 hold : ∀ i, i < 20 → ∃ v, arr[i]? = some (.int .u8 v)
 hm : m < 10 ^ p
 hU : U < 10 ^ 20
 hrel : (first = true ∧ p = 20 ∧ m = U ∧ acc = []) ∨ (first = false ∧ dec U = dec0 m ++ acc)
theorem IntLoop.start (U : Nat) (hU : U < 10 ^ 20) (arr : Array Value) (h : arr.size = 20) (ho : ∀ i, i < 20 → ∃ v, arr[i]? = some (.int .u8 v)) : IntLoop U 20 U true [] arr :=
 ⟨Nat.le_refl _, rfl, h, fun i hi => by simp at hi, ho, hU, hU, .inl ⟨rfl, rfl, rfl, rfl⟩⟩
theorem IntLoop.round {U q m : Nat} {first : Bool} {acc : List UInt8} {arr : Array Value} (h : IntLoop U (q + 1) m first acc arr) (hgo : first = true ∨ 0 < m) :
  IntLoop U q (m / 10) false (UInt8.ofNat (48 + m % 10) :: acc) (arr.setIfInBounds q (.int .u8 (48 + m % 10 : Nat))) := by
 have hb : (UInt8.ofNat (48 + m % 10)).toNat = 48 + m % 10 := by
  rw [UInt8.toNat_ofNat']; omega
 have hq := h.hp
 refine ⟨by omega, by have := h.hacc; simp; omega, by simpa using h.hsz, ?_, ?_, ?_, h.hU, .inr ⟨rfl, ?_⟩⟩
 ·
  intro i hi
  cases i with
  | zero =>
   simp only [Nat.add_zero, List.getElem_cons_zero, hb]
   rw [Array.getElem?_setIfInBounds_self_of_lt (by rw [h.hsz]; omega)]
  | succ i =>
   have hi' : i < acc.length := by simpa using hi
   have := h.hcell i hi'
   rw [Array.getElem?_setIfInBounds_ne (by omega)]
   simp only [List.getElem_cons_succ]
   rw [show q + (i + 1) = q + 1 + i from by omega]
   exact this
 ·
  intro i hi
  by_cases e : q = i
  ·
   subst e
   exact ⟨_, by rw [Array.getElem?_setIfInBounds_self_of_lt (by rw [h.hsz]; omega)]⟩
  ·
   rw [Array.getElem?_setIfInBounds_ne e]
   exact h.hold i hi
 ·
  have := h.hm
  rw [Nat.pow_succ] at this
  omega
 ·
  have hm20 : m < 10 ^ 20 := Nat.lt_of_lt_of_le h.hm (Nat.pow_le_pow_right (by omega) h.hp)
  rcases h.hrel with ⟨_, _, rfl, rfl⟩ | ⟨hf, hd⟩
  ·
   exact dec_step m hm20
  ·
   have hm0 : m ≠ 0 := by
    rcases hgo with hg | hg
    ·
     rw [hf] at hg; cases hg
    ·
     omega
   rw [hd, show dec0 m = dec m from if_neg hm0, dec_step m hm20, List.append_assoc]
   rfl
theorem IntLoop.exit {U p : Nat} {acc : List UInt8} {arr : Array Value} (h : IntLoop U p 0 false acc arr) : acc = dec U := by
 rcases h.hrel with ⟨hf, _⟩ | ⟨_, hd⟩
 ·
  cases hf
 ·
  rw [hd]; simp [dec0]
theorem dec_ne (n : Nat) : 1 ≤ (dec n).length := by
 unfold dec
 rw [decF]
 simp
theorem IntLoop.lt {U p : Nat} {arr : Array Value} (h : IntLoop U p 0 false (dec U) arr) : p < 20 := by
 have := h.hacc
 have := dec_ne U
 omega
theorem IntLoop.pos {U p m : Nat} {first : Bool} {acc : List UInt8} {arr : Array Value} (h : IntLoop U p m first acc arr) (hgo : first = true ∨ 0 < m) : 1 ≤ p := by
 rcases Nat.eq_zero_or_pos p with rfl | hp
 ·
  have := h.hm
  rcases h.hrel with ⟨_, hp, _⟩ | ⟨hf, _⟩
  ·
   omega
  ·
   rcases hgo with hg | hg
   ·
    rw [hf] at hg; cases hg
   ·
    simp at this; omega
 ·
  exact hp
end Go.Proofs.YtjlnfnfdibfniaaDoor.Hd
namespace Go.Proofs.YtjlnfnfdibfniaaDoor.Hd
open Go.RowKit Go.Proofs.YtjlnfnfdibfniaaDoorW.PrintWords Go.Proofs.YtjlnfnfdibfniaaDoorW.PrintLast Go.Proofs.YtjlnfnfdibfniaaDoorW.PrintMore
set_option linter.unusedVariables false
set_option linter.unusedSimpArgs false
def num_Digits_1.f (k : Nat) (l0 l1 l2 : List Int) (a3 : Bool) : Option Bool :=
 (F.num_nat_plus.f k l0 l1).bind fun p => (F.num_nat_against.f k p l2).bind fun c => some (if c > 0 then true else if (c == 0) = true then a3 else false)
theorem num_Digits_1.mono : ∀ a0 a1 a2 a3 k, LeO (num_Digits_1.f k a0 a1 a2 a3) (num_Digits_1.f (k + 1) a0 a1 a2 a3) := by
 intro a0 a1 a2 a3 k r h
 unfold num_Digits_1.f at h ⊢
 obtain ⟨p, hp, h⟩ := Option.bind_eq_some_iff.mp h
 obtain ⟨c, hc, h⟩ := Option.bind_eq_some_iff.mp h
 rw [F.num_nat_plus.mono _ _ _ _ hp, Option.bind_some, F.num_nat_against.mono _ _ _ _ hc, Option.bind_some, h]
def T47 : Bool × List (List Nat × List Nat) := (true, [([], []), ([], []), ([0, 1], [0, 1]), ([], []), ([2, 3, 2], [2, 3]), ([4, 4, 0, 1, 2, 3, 4], [4])])
def B47 : List Nat := [0, 0, 3, 0, 15, 31]
theorem tab47 : rtab .any (opsOf Tryd.f47 1) = T47 := by kernel_rfl
theorem bits47 : waitsOk T47.2 B47 = true := by kernel_rfl
set_option maxRecDepth 100000 in
theorem num_Digits_1.calls (k : Nat) (g0 g1 g2 g3 : Nat) (A0 : Option Addr) (c0 : Nat) (l0 : List Int) (A1 : Option Addr) (c1 : Nat) (l1 : List Int) (A2 : Option Addr) (c2 : Nat) (l2 : List Int) (a3 : Bool) (r : Bool) (w : World)
  (hb0 : w.heap[g0]? = some (.cells #[.slice A0 l0.length c0] 56 (0, 0))) (hb1 : w.heap[g1]? = some (.cells #[.slice A1 l1.length c1] 56 (0, 0))) (hb2 : w.heap[g2]? = some (.cells #[.slice A2 l2.length c2] 56 (0, 0))) (hb3 : w.heap[g3]? = some (.cells #[.bool a3] 4 (0, 0)))
  (hr0 : Kd.C (Kd.int .u32) w A0 l0.length l0) (hc0 : l0.length ≤ c0) (hr1 : Kd.C (Kd.int .u32) w A1 l1.length l1) (hc1 : l1.length ≤ c1) (hr2 : Kd.C (Kd.int .u32) w A2 l2.length l2) (hc2 : l2.length ≤ c2) (h : num_Digits_1.f k l0 l1 l2 a3 = some r) :
  Calls Tryd.prog 47 #[.pointer (some ⟨g0, 0, none⟩), .pointer (some ⟨g1, 0, none⟩), .pointer (some ⟨g2, 0, none⟩), .pointer (some ⟨g3, 0, none⟩)] w fun e w' => e = .returned (.bool r) ∧ Below w.heap.size w w' := by
 unfold num_Digits_1.f at h
 obtain ⟨p, hp, h⟩ := Option.bind_eq_some_iff.mp h
 obtain ⟨c, hc, h⟩ := Option.bind_eq_some_iff.mp h
 have hp := Aside0.mk hp
 have hc := Aside0.mk hc
 have hz := Aside0.mk (Option.some.inj h)
 clear h
 have HB := Aside0.mk (Below.refl w.heap.size w)
 have HR0 := Aside0.mk hr0
 have HR1 := Aside0.mk hr1
 have HR2 := Aside0.mk hr2
 have BK0 := Aside0.mk hb0
 have BK1 := Aside0.mk hb1
 have BK2 := Aside0.mk hb2
 have BK3 := Aside0.mk hb3
 clear hr0 hr1 hr2 hb0 hb1 hb2 hb3
 go_enter Tryd.func47, Tryd.ntmps47
 go_wp2
 refine start_ (n := 6) (S := fun w' => w'.cell? ⟨g0, 0, none⟩ = some (.slice A0 l0.length c0) ∧ w'.cell? ⟨g1, 0, none⟩ = some (.slice A1 l1.length c1) ∧ w'.cell? ⟨g2, 0, none⟩ = some (.slice A2 l2.length c2)) (ds := []) #[false, false, false, false, false, false] (by kernel_rfl) rfl rfl ⟨(blk_cell BK0.out 0).trans rfl, (blk_cell BK1.out 0).trans rfl, (blk_cell BK2.out 0).trans rfl⟩ (fun hHeld => ?_); refine with_tabW tab47 bits47 (fun HT_ HW_ => ?_)
 have HB := Aside0.mk (below_drew1 HB.out)
 have HR0 := Aside0.mk (Kd.C_drew HR0.out)
 have HR1 := Aside0.mk (Kd.C_drew HR1.out)
 have HR2 := Aside0.mk (Kd.C_drew HR2.out)
 have BK0 := Aside0.mk (blk_drew BK0.out)
 have BK1 := Aside0.mk (blk_drew BK1.out)
 have BK2 := Aside0.mk (blk_drew BK2.out)
 have BK3 := Aside0.mk (blk_drew BK3.out)
 generalize w.drew = w1 at HR0 HR1 HR2 BK0 BK1 BK2 BK3 HB hHeld ⊢
 refine take_ (i := 0) (N := some 6) (v := ?_) (a' := ?_) #[true, false, false, false, false, false] rfl rfl (take_ofW HT_.out HW_.out (by kernel_rfl)) (fun _ _ _ h => h) (Or.inl ⟨by rfl, ?_⟩) hHeld ?_ ?_
 rotate_left
 ·
  rintro w' ⟨s0, s1, s2⟩
  go_simp
  with_reducible rfl
 rotate_left
 ·
  simp only [Act.put, List.setIfInBounds_toArray, List.set_cons_zero, List.set_cons_succ, i64_w, i32_w]
  rfl
 refine take_ (i := 1) (N := some 7) (v := ?_) (a' := ?_) #[true, true, false, false, false, false] rfl rfl (take_ofW HT_.out HW_.out (by kernel_rfl)) (fun _ _ _ h => h) (Or.inl ⟨by rfl, ?_⟩) hHeld ?_ ?_
 rotate_left
 ·
  rintro w' ⟨s0, s1, s2⟩
  go_simp
  with_reducible rfl
 rotate_left
 ·
  simp only [Act.put, List.setIfInBounds_toArray, List.set_cons_zero, List.set_cons_succ, i64_w, i32_w]
  rfl
 refine take_ (i := 3) (N := some 9) (v := ?_) (a' := ?_) #[true, true, false, true, false, false] rfl rfl (take_ofW HT_.out HW_.out (by kernel_rfl)) (fun _ _ _ h => h) (Or.inl ⟨by rfl, ?_⟩) hHeld ?_ ?_
 rotate_left
 ·
  rintro w' ⟨s0, s1, s2⟩
  go_simp
  with_reducible rfl
 rotate_left
 ·
  simp only [Act.put, List.setIfInBounds_toArray, List.set_cons_zero, List.set_cons_succ, i64_w, i32_w]
  rfl
 refine one_ (i := 2) (N := some 8) #[true, true, true, true, false, false] rfl rfl (one_of HT_.out (by kernel_rfl)) (by decide) (fun K hK => ?_)
 refine goes_ Tryd.func48 (by kernel_rfl) rfl #[.slice A0 l0.length c0, .slice A1 l1.length c1] (by rfl) rfl rfl (by (try simp only [List.map_toArray, List.map_cons, List.map_nil]); rfl) ?_
 refine (F.num_nat_plus.calls k A0 c0 l0 A1 c1 l1 p _ HR0.out hc0 HR1.out hc1 hp.out).mono ?_
 rintro e w2 ⟨v0, rfl, ho0, hb⟩
 refine ⟨_, rfl, ?_⟩
 obtain ⟨Ap, cp, rfl⟩ := Kd.V_slice ho0
 have HR2 := Aside0.mk (Kd.C_below HR2.out hb)
 have BK0 := Aside0.mk (blk_below BK0.out hb)
 have BK1 := Aside0.mk (blk_below BK1.out hb)
 have BK2 := Aside0.mk (blk_below BK2.out hb)
 have BK3 := Aside0.mk (blk_below BK3.out hb)
 have HB := Aside0.mk (below_step HB.out hb)
 refine hK.out _ _ ⟨(blk_cell BK0.out 0).trans rfl, (blk_cell BK1.out 0).trans rfl, (blk_cell BK2.out 0).trans rfl⟩ (fun hHeld => ?_)
 clear hK K
 refine norm_ (a' := ?_) ?_ ?_
 rotate_left
 ·
  show Act.put _ (some 8) _ = _
  simp only [Act.put, List.setIfInBounds_toArray, List.set_cons_zero, List.set_cons_succ, i64_w, i32_w]
  rfl
 refine one_ (i := 4) (N := some 10) #[true, true, true, true, true, false] rfl rfl (one_of HT_.out (by kernel_rfl)) (by decide) (fun K hK => ?_)
 refine goes_ Tryd.func49 (by kernel_rfl) rfl #[.slice Ap p.length cp, .slice A2 l2.length c2] (by rfl) rfl rfl (by (try simp only [List.map_toArray, List.map_cons, List.map_nil]); rfl) ?_
 refine (F.num_nat_against.calls k Ap cp p A2 c2 l2 c _ (Kd.V_reads' ho0).2.2 (Kd.V_reads' ho0).2.1 HR2.out hc2 hc.out).mono ?_
 rintro e w' ⟨rfl, ⟨nd, rfl⟩⟩
 refine ⟨_, rfl, ?_⟩
 refine hK.out _ _ ⟨(blk_cell BK0.out 0).trans rfl, (blk_cell BK1.out 0).trans rfl, (blk_cell BK2.out 0).trans rfl⟩ (fun hHeld => ?_)
 clear hK K
 refine norm_ (a' := ?_) ?_ ?_
 rotate_left
 ·
  show Act.put _ (some 10) _ = _
  simp only [Act.put, List.setIfInBounds_toArray, List.set_cons_zero, List.set_cons_succ, i64_w, i32_w]
  rfl
 refine pure_ (i := 5) (N := some 5) (v := ?_) (a' := ?_) #[true, true, true, true, true, true] rfl rfl (any_of HT_.out (by kernel_rfl)) (fun _ _ _ h => h) (Or.inl ⟨by rfl, ?_⟩) ?_ ?_
 rotate_left
 ·
  intro w'
  go_simp
  with_reducible rfl
 rotate_left
 ·
  simp only [Act.put, List.setIfInBounds_toArray, List.set_cons_zero, List.set_cons_succ, i64_w, i32_w]
  rfl
 refine done_ (done_of HT_.out (by kernel_rfl)) ?_
 have hcz : w2.cell? ⟨g3, 0, none⟩ = some (.bool a3) := (blk_cell BK3.out 0).trans rfl
 have hfz := blk_frozen BK3.out 0
 have hz := hz.out
 by_cases hc0 : c > 0
 ·
  rw [if_pos hc0] at hz
  subst hz
  have hb0 : decide (0 < c) = true := decide_eq_true hc0
  have hb1 : decide (c > 0) = true := decide_eq_true hc0
  go_wp2
  go_ret
  exact ⟨rfl, by repeat (first | exact HB.out | apply pw_below_drewN | apply below_drew1)⟩
 ·
  rw [if_neg hc0] at hz
  have hb0 : decide (0 < c) = false := decide_eq_false hc0
  have hb1 : decide (c > 0) = false := decide_eq_false hc0
  cases hce : (c == 0) with
  | true =>
   rw [hce, if_pos rfl] at hz
   subst hz
   go_wp2
   go_ret
   exact ⟨rfl, by repeat (first | exact HB.out | apply pw_below_drewN | apply below_drew1)⟩
  | false =>
   rw [hce, if_neg (by decide)] at hz
   subst hz
   go_wp2
   go_ret
   exact ⟨rfl, by repeat (first | exact HB.out | apply pw_below_drewN | apply below_drew1)⟩
end Go.Proofs.YtjlnfnfdibfniaaDoor.Hd
namespace Go.Proofs.YtjlnfnfdibfniaaDoor.Hd
open Go.RowKit Go.Proofs.YtjlnfnfdibfniaaDoorW.PrintWords Go.Proofs.YtjlnfnfdibfniaaDoorW.PrintLast
def BRow (w : World) (B : Nat) (bs : List UInt8) : Prop :=
 ∃ C : Array Value, w.heap[B]? = some (.cells C 5 (C.size, C.size + 1)) ∧ bs.length ≤ C.size ∧ ∀ i (h : i < bs.length), C[i]? = some (.int .u8 (bs[i].toNat : Int))
theorem BRow.cell {w : World} {B : Nat} {bs : List UInt8} (h : BRow w B bs) (i : Nat) (hi : i < bs.length) : w.cell? ⟨B, i, none⟩ = some (.int .u8 (bs[i].toNat : Int)) := by
 obtain ⟨C, h1, h2, h3⟩ := h
 unfold World.cell?
 dsimp only
 rw [h1]
 simpa using h3 i hi
theorem BRow.free {w : World} {B : Nat} {bs : List UInt8} (h : BRow w B bs) (i : Nat) (hi : i < bs.length) : w.frozen? ⟨B, i, none⟩ = false := by
 obtain ⟨C, h1, h2, h3⟩ := h
 unfold World.frozen?
 dsimp only
 rw [h1]
 simp
 omega
theorem BRow.set {w : World} {B : Nat} {bs : List UInt8} (h : BRow w B bs) (i : Nat) (v : UInt8) (z : Int) (hz : z = (v.toNat : Int)) : BRow (w.setCell ⟨B, i, none⟩ (.int .u8 z)) B (bs.set i v) := by
 subst hz
 obtain ⟨C, h1, h2, h3⟩ := h
 refine ⟨C.setIfInBounds i (.int .u8 (v.toNat : Int)), ?_, by simpa using h2, ?_⟩
 ·
  unfold World.setCell
  simp only [Array.getElem?_modify, if_true, h1]
  simp
 ·
  intro j hj
  have hj' : j < bs.length := by simpa using hj
  by_cases e : i = j
  ·
   subst e
   rw [Array.getElem?_setIfInBounds_self_of_lt (by omega)]
   simp
  ·
   rw [Array.getElem?_setIfInBounds_ne e, h3 j hj', List.getElem_set_ne e]
theorem BRow.string {w : World} {B : Nat} {bs : List UInt8} (h : BRow w B bs) (n cap : Nat) (hn : n = bs.length) :
  (convert 43 9 (.slice (some ⟨B, 0, none⟩) n cap)).run Tryd.prog w = .ok (.string ⟨bs.toArray⟩) w := by
 subst hn
 refine run_convert_bytes_back w 43 9 5 _ cap bs Tryd.underlying43 Tryd.underlying5 Tryd.underlying9 fun j hj => ?_
 have : (⟨B, 0, none⟩ : Addr).add j = ⟨B, j, none⟩ := by
  unfold Addr.add
  split
  ·
   rename_i e; subst e; rfl
  ·
   simp
 rw [this]
 exact h.cell j hj
theorem BRow.drewN {w : World} {B : Nat} {bs : List UInt8} (h : BRow w B bs) (n : Nat) : BRow (w.drewN n) B bs := h
theorem BRow.drew {w : World} {B : Nat} {bs : List UInt8} (h : BRow w B bs) : BRow w.drew B bs := h
theorem conv_bytes (s : ByteArray) (w : World) : ∃ (cap : Nat) (o : Obj), (convert 9 43 (.string s)).run Tryd.prog w = .ok (.slice (some ⟨w.heap.size, 0, none⟩) s.size cap) ((w.alloc o).drew) ∧ BRow ((w.alloc o).drew) w.heap.size s.data.toList := by
 have h := run_bytes_of_string (P := Tryd.prog) w 9 43 5 s Tryd.underlying9 Tryd.underlying43 Tryd.underlying5
 refine ⟨_, _, h, bytesRow s (grownCap w s.size 0 5), ?_, ?_, ?_⟩
 ·
  show (w.heap.push _)[w.heap.size]? = _
  simp
 ·
  simp [bytesRow]
 ·
  intro i hi
  have hi' : i < s.data.size := by simpa using hi
  unfold bytesRow
  rw [Array.getElem?_append_left (by simpa using hi'), Array.getElem?_map, Array.getElem?_eq_getElem hi']
  rfl
def mixed (f : UInt8 → UInt8) (bs : List UInt8) (i : Nat) : List UInt8 := (bs.take i).map f ++ bs.drop i
theorem mixed_zero (f : UInt8 → UInt8) (bs : List UInt8) : mixed f bs 0 = bs := by simp [mixed]
theorem mixed_length (f : UInt8 → UInt8) (bs : List UInt8) (i : Nat) : (mixed f bs i).length = bs.length := by simp [mixed]; omega
theorem mixed_all (f : UInt8 → UInt8) (bs : List UInt8) : mixed f bs bs.length = bs.map f := by simp [mixed]
theorem mixed_get (f : UInt8 → UInt8) (bs : List UInt8) (i : Nat) (h : i < bs.length) : (mixed f bs i)[i]'(by rw [mixed_length]; exact h) = bs[i] := by
 unfold mixed
 have hl : ((bs.take i).map f).length = i := by simp; omega
 rw [List.getElem_append_right (by omega)]
 simp only [hl, Nat.sub_self, List.getElem_drop, Nat.add_zero]
theorem mixed_set (f : UInt8 → UInt8) (bs : List UInt8) (i : Nat) (h : i < bs.length) : (mixed f bs i).set i (f bs[i]) = mixed f bs (i + 1) := by
 unfold mixed
 have hl : ((bs.take i).map f).length = i := by simp; omega
 rw [List.set_append_right _ _ (by omega), hl, Nat.sub_self, List.drop_eq_getElem_cons h, List.set_cons_zero]
 rw [List.take_succ_eq_append_getElem h, List.map_append, List.append_assoc]
 rfl
theorem mixed_same (f : UInt8 → UInt8) (bs : List UInt8) (i : Nat) (h : i < bs.length) (hf : f bs[i] = bs[i]) : mixed f bs (i + 1) = mixed f bs i := by
 rw [← mixed_set f bs i h, hf]
 apply List.ext_getElem
 ·
  simp
 ·
  intro j h1 h2
  by_cases e : i = j
  ·
   subst e
   simp [mixed_get f bs i h]
  ·
   rw [List.getElem_set_ne e]
end Go.Proofs.YtjlnfnfdibfniaaDoor.Hd
namespace Go.Proofs.YtjlnfnfdibfniaaDoor.Hd
open Go.RowKit Go.Proofs.YtjlnfnfdibfniaaDoorW.PrintWords Go.Proofs.YtjlnfnfdibfniaaDoorW.PrintLast
def low (c : UInt8) : UInt8 := if 65 ≤ c.toNat ∧ c.toNat ≤ 90 then UInt8.ofNat (c.toNat + 32) else c
theorem low_hit (c : UInt8) (h1 : 65 ≤ c.toNat) (h2 : c.toNat ≤ 90) : ((low c).toNat : Int) = (c.toNat : Int) + 32 := by
 unfold low
 rw [if_pos ⟨h1, h2⟩, UInt8.toNat_ofNat']
 omega
def smallF (s : ByteArray) : ByteArray := ⟨(s.data.toList.map low).toArray⟩
def num_small.f (a0 : ByteArray) : Option ByteArray := if a0.size ≤ 9223372036854775807 then some (smallF a0) else none
set_option maxHeartbeats 2000000 in
set_option maxRecDepth 100000 in
theorem small_any (s : ByteArray) (w : World) (hs : s.size ≤ 9223372036854775807) :
  Calls Tryd.prog 65 #[.string s] w fun e w' => e = .returned (.string (smallF s)) ∧ Below w.heap.size w w' := by
 obtain ⟨cap, o, hrun, hrow⟩ := conv_bytes s w
 have HW := Aside0.mk (rfl : s.data.toList.length = s.size)
 obtain ⟨bs, hbs⟩ : ∃ bs, bs = s.data.toList := ⟨_, rfl⟩
 obtain ⟨n, hn⟩ : ∃ n, n = s.size := ⟨_, rfl⟩
 rw [← hn] at hs hrun
 rw [← hbs] at hrow
 have HN := Aside0.mk hn
 have HBS := Aside0.mk hbs
 have HRow := Aside0.mk hrow
 have hlen : Aside0 (bs.length = n) := ⟨by rw [hbs, hn]; rfl⟩
 clear hn hbs hrow HW
 go_enter Tryd.func65, Tryd.ntmps65
 go_wp2
 go_loopg [10] (n + 1) (fun kq v10 wr => ∃ i : Nat, v10 = .int .i64 (i : Int) ∧ i ≤ n ∧ Aside0 (BRow wr w.heap.size (mixed low bs i)) ∧ Aside0 (Below w.heap.size w wr) ∧ Aside0 (n - i < kq))
 case atStart => exact ⟨0, rfl, Nat.zero_le _, ⟨by rw [mixed_zero]; exact HRow.out⟩, ⟨below_drew1 ((Below.refl _ _).alloc (Nat.le_refl _) _)⟩, ⟨by omega⟩⟩
 case round =>
  obtain ⟨i, rfl, hi, HR, HB, HK⟩ := hrel
  by_cases hlt : i < n
  ·
   obtain ⟨c, hcell, hfree, HC, HD⟩ : ∃ c : UInt8, wr.cell? ⟨w.heap.size, i, none⟩ = some (.int .u8 (c.toNat : Int)) ∧ wr.frozen? ⟨w.heap.size, i, none⟩ = false ∧
     Aside0 (∀ z : Int, z = ((low c).toNat : Int) → BRow (wr.setCell ⟨w.heap.size, i, none⟩ (.int .u8 z)) w.heap.size (mixed low bs (i + 1))) ∧
     Aside0 (low c = c → BRow wr w.heap.size (mixed low bs (i + 1))) := by
    have hil : i < bs.length := by rw [hlen.out]; exact hlt
    have hil' : i < (mixed low bs i).length := by rw [mixed_length]; exact hil
    refine ⟨bs[i], ?_, HR.out.free i hil', ⟨fun z hz => ?_⟩, ⟨fun h => ?_⟩⟩
    ·
     rw [← mixed_get low bs i hil]; exact HR.out.cell i hil'
    ·
     rw [← mixed_set low bs i hil]; exact HR.out.set i _ z hz
    ·
     rw [mixed_same low bs i hil h]; exact HR.out
   clear HR
   have hc255 := c.toNat_lt
   by_cases h1 : 65 ≤ c.toNat
   ·
    by_cases h2 : c.toNat ≤ 90
    ·
     have hb1 : decide ((65 : Int) ≤ (c.toNat : Int)) = true := by simp; omega
     have hb2 : decide ((c.toNat : Int) ≤ (90 : Int)) = true := by simp; omega
     go_wp2
     go_roundg (gk - 1)
     case measure => have := HK.out; omega
     case rel => exact ⟨i + 1, by go_num, by omega, ⟨HC.out _ (by rw [low_hit c h1 h2] <;> omega)⟩, ⟨below_set HB.out (Nat.le_refl _)⟩, ⟨by have := HK.out; omega⟩⟩
    ·
     have hb1 : decide ((65 : Int) ≤ (c.toNat : Int)) = true := by simp; omega
     have hb2 : decide ((c.toNat : Int) ≤ (90 : Int)) = false := by simp; omega
     go_wp2
     go_roundg (gk - 1)
     case measure => have := HK.out; omega
     case rel => exact ⟨i + 1, by go_num, by omega, ⟨HD.out (by unfold low; rw [if_neg (by omega)])⟩, HB, ⟨by have := HK.out; omega⟩⟩
   ·
    have hb1 : decide ((65 : Int) ≤ (c.toNat : Int)) = false := by simp; omega
    go_wp2
    go_roundg (gk - 1)
    case measure => have := HK.out; omega
    case rel => exact ⟨i + 1, by go_num, by omega, ⟨HD.out (by unfold low; rw [if_neg (by omega)])⟩, HB, ⟨by have := HK.out; omega⟩⟩
  ·
   obtain rfl : i = n := by omega
   have hst := HR.out.string i cap (by rw [mixed_length]; exact hlen.out.symm)
   have he : Aside0 (ByteArray.mk (mixed low bs i).toArray = smallF s) := ⟨by rw [← hlen.out, mixed_all, HBS.out]; rfl⟩
   go_wp2
   go_ret
   exact ⟨by rw [← he.out]; rfl, HB.out⟩
theorem num_small.calls (a0 : ByteArray) (r : ByteArray) (w : World) (h : num_small.f a0 = some r) :
  Calls Tryd.prog 65 #[.string a0] w fun e w' => e = .returned (.string r) ∧ Below w.heap.size w w' := by
 unfold num_small.f at h
 split at h
 ·
  cases h
  exact small_any a0 w (by assumption)
 ·
  cases h
def r_lower.f (a0 : ByteArray) : Option ByteArray := if a0.size ≤ 9223372036854775807 then some (smallF a0) else none
set_option maxHeartbeats 2000000 in
set_option maxRecDepth 100000 in
theorem lower_any (s : ByteArray) (w : World) (hs : s.size ≤ 9223372036854775807) :
  Calls Tryd.prog 68 #[.string s] w fun e w' => e = .returned (.string (smallF s)) ∧ Below w.heap.size w w' := by
 obtain ⟨cap, o, hrun, hrow⟩ := conv_bytes s w
 have HW := Aside0.mk (rfl : s.data.toList.length = s.size)
 obtain ⟨bs, hbs⟩ : ∃ bs, bs = s.data.toList := ⟨_, rfl⟩
 obtain ⟨n, hn⟩ : ∃ n, n = s.size := ⟨_, rfl⟩
 rw [← hn] at hs hrun
 rw [← hbs] at hrow
 have HN := Aside0.mk hn
 have HBS := Aside0.mk hbs
 have HRow := Aside0.mk hrow
 have hlen : Aside0 (bs.length = n) := ⟨by rw [hbs, hn]; rfl⟩
 clear hn hbs hrow HW
 go_enter Tryd.func68, Tryd.ntmps68
 go_wp2
 go_loopg [4] (n + 1) (fun kq v4 wr => ∃ i : Nat, v4 = .int .i64 (i : Int) ∧ i ≤ n ∧ Aside0 (BRow wr w.heap.size (mixed low bs i)) ∧ Aside0 (Below w.heap.size w wr) ∧ Aside0 (n - i < kq))
 case atStart => exact ⟨0, rfl, Nat.zero_le _, ⟨by rw [mixed_zero]; exact HRow.out⟩, ⟨below_drew1 ((Below.refl _ _).alloc (Nat.le_refl _) _)⟩, ⟨by omega⟩⟩
 case round =>
  obtain ⟨i, rfl, hi, HR, HB, HK⟩ := hrel
  by_cases hlt : i < n
  ·
   obtain ⟨c, hcell, hfree, HC, HD⟩ : ∃ c : UInt8, wr.cell? ⟨w.heap.size, i, none⟩ = some (.int .u8 (c.toNat : Int)) ∧ wr.frozen? ⟨w.heap.size, i, none⟩ = false ∧
     Aside0 (∀ z : Int, z = ((low c).toNat : Int) → BRow (wr.setCell ⟨w.heap.size, i, none⟩ (.int .u8 z)) w.heap.size (mixed low bs (i + 1))) ∧
     Aside0 (low c = c → BRow wr w.heap.size (mixed low bs (i + 1))) := by
    have hil : i < bs.length := by rw [hlen.out]; exact hlt
    have hil' : i < (mixed low bs i).length := by rw [mixed_length]; exact hil
    refine ⟨bs[i], ?_, HR.out.free i hil', ⟨fun z hz => ?_⟩, ⟨fun h => ?_⟩⟩
    ·
     rw [← mixed_get low bs i hil]; exact HR.out.cell i hil'
    ·
     rw [← mixed_set low bs i hil]; exact HR.out.set i _ z hz
    ·
     rw [mixed_same low bs i hil h]; exact HR.out
   clear HR
   have hc255 := c.toNat_lt
   by_cases h1 : 65 ≤ c.toNat
   ·
    by_cases h2 : c.toNat ≤ 90
    ·
     have hb1 : decide ((65 : Int) ≤ (c.toNat : Int)) = true := by simp; omega
     have hb2 : decide ((c.toNat : Int) ≤ (90 : Int)) = true := by simp; omega
     go_wp2
     go_roundg (gk - 1)
     case measure => have := HK.out; omega
     case rel => exact ⟨i + 1, by go_num, by omega, ⟨HC.out _ (by rw [low_hit c h1 h2] <;> omega)⟩, ⟨below_set HB.out (Nat.le_refl _)⟩, ⟨by have := HK.out; omega⟩⟩
    ·
     have hb1 : decide ((65 : Int) ≤ (c.toNat : Int)) = true := by simp; omega
     have hb2 : decide ((c.toNat : Int) ≤ (90 : Int)) = false := by simp; omega
     go_wp2
     go_roundg (gk - 1)
     case measure => have := HK.out; omega
     case rel => exact ⟨i + 1, by go_num, by omega, ⟨HD.out (by unfold low; rw [if_neg (by omega)])⟩, HB, ⟨by have := HK.out; omega⟩⟩
   ·
    have hb1 : decide ((65 : Int) ≤ (c.toNat : Int)) = false := by simp; omega
    go_wp2
    go_roundg (gk - 1)
    case measure => have := HK.out; omega
    case rel => exact ⟨i + 1, by go_num, by omega, ⟨HD.out (by unfold low; rw [if_neg (by omega)])⟩, HB, ⟨by have := HK.out; omega⟩⟩
  ·
   obtain rfl : i = n := by omega
   have hst := HR.out.string i cap (by rw [mixed_length]; exact hlen.out.symm)
   have he : Aside0 (ByteArray.mk (mixed low bs i).toArray = smallF s) := ⟨by rw [← hlen.out, mixed_all, HBS.out]; rfl⟩
   go_wp2
   go_ret
   exact ⟨by rw [← he.out]; rfl, HB.out⟩
theorem r_lower.calls (a0 : ByteArray) (r : ByteArray) (w : World) (h : r_lower.f a0 = some r) :
  Calls Tryd.prog 68 #[.string a0] w fun e w' => e = .returned (.string r) ∧ Below w.heap.size w w' := by
 unfold r_lower.f at h
 split at h
 ·
  cases h
  exact lower_any a0 w (by assumption)
 ·
  cases h
def lessR : List UInt8 → List UInt8
 | [] => []
 | c :: r => if 48 < c.toNat then UInt8.ofNat (c.toNat - 1) :: r else 57 :: lessR r
def timesR : List UInt8 → List UInt8
 | [] => [49]
 | c :: r => if c.toNat < 57 then UInt8.ofNat (c.toNat + 1) :: r else 48 :: timesR r
def tail (d : UInt8) (bs : List UInt8) (n j : Nat) : List UInt8 := bs.take j ++ List.replicate (n - j) d
theorem tail_all (d : UInt8) (bs : List UInt8) : tail d bs bs.length bs.length = bs := by simp [tail]
theorem tail_length (d : UInt8) (bs : List UInt8) (n j : Nat) (hn : bs.length = n) (h : j ≤ n) : (tail d bs n j).length = n := by simp [tail]; omega
theorem tail_get (d : UInt8) (bs : List UInt8) (n i : Nat) (hn : bs.length = n) (h : i < n) : (tail d bs n (i + 1))[i]'(by rw [tail_length d bs n _ hn (by omega)]; exact h) = bs[i]'(by omega) := by
 unfold tail
 rw [List.getElem_append_left (by rw [List.length_take]; omega)]
 simp
theorem tail_set (d v : UInt8) (bs : List UInt8) (n i : Nat) (hn : bs.length = n) (h : i < n) : (tail d bs n (i + 1)).set i v = bs.take i ++ v :: List.replicate (n - (i + 1)) d := by
 unfold tail
 rw [List.take_succ_eq_append_getElem (by omega)]
 have hl : (bs.take i).length = i := by rw [List.length_take]; omega
 rw [List.append_assoc, List.set_append_right _ _ (by omega), hl, Nat.sub_self]
 simp
theorem tail_next (d : UInt8) (bs : List UInt8) (n i : Nat) (hn : bs.length = n) (h : i < n) : (tail d bs n (i + 1)).set i d = tail d bs n i := by
 rw [tail_set d d bs n i hn h]
 unfold tail
 rw [show n - i = n - (i + 1) + 1 from by omega, List.replicate_succ]
theorem rev_take (bs : List UInt8) (i : Nat) (h : i < bs.length) : (bs.take (i + 1)).reverse = bs[i] :: (bs.take i).reverse := by
 rw [List.take_succ_eq_append_getElem h]
 simp
theorem rep_snoc (n i : Nat) (h : i < n) (d : UInt8) (l : List UInt8) : List.replicate (n - (i + 1)) d ++ d :: l = List.replicate (n - i) d ++ l := by
 rw [show n - i = n - (i + 1) + 1 from by omega, List.replicate_succ', List.append_assoc]
 rfl
def lessF (s : ByteArray) : ByteArray := ⟨(lessR s.data.toList.reverse).reverse.toArray⟩
def w_less.f (a0 : ByteArray) : Option ByteArray := if a0.size ≤ 140737488355328 then some (lessF a0) else none
theorem less_hit (bs : List UInt8) (n i : Nat) (hn : bs.length = n) (h : i < n) (c : UInt8) (hc : c = bs[i]'(by omega)) (ht : 48 < c.toNat)
  (hR : lessR bs.reverse = List.replicate (n - (i + 1)) 57 ++ lessR (bs.take (i + 1)).reverse) :
  (tail 57 bs n (i + 1)).set i (UInt8.ofNat (c.toNat - 1)) = (lessR bs.reverse).reverse := by
 rw [hR, rev_take bs i (by omega), ← hc, lessR, if_pos ht, tail_set _ _ _ _ _ hn h]
 simp
theorem less_miss (bs : List UInt8) (n i : Nat) (hn : bs.length = n) (h : i < n) (c : UInt8) (hc : c = bs[i]'(by omega)) (ht : ¬ 48 < c.toNat)
  (hR : lessR bs.reverse = List.replicate (n - (i + 1)) 57 ++ lessR (bs.take (i + 1)).reverse) :
  lessR bs.reverse = List.replicate (n - i) 57 ++ lessR (bs.take i).reverse := by
 rw [hR, rev_take bs i (by omega), ← hc, lessR, if_neg ht, rep_snoc n i h]
set_option maxHeartbeats 2000000 in
set_option maxRecDepth 100000 in
theorem less_any (s : ByteArray) (w : World) (hs : s.size ≤ 140737488355328) :
  Calls Tryd.prog 24 #[.string s] w fun e w' => e = .returned (.string (lessF s)) ∧ Below w.heap.size w w' := by
 obtain ⟨cap, o, hrun, hrow⟩ := conv_bytes s w
 obtain ⟨bs, hbs⟩ : ∃ bs, bs = s.data.toList := ⟨_, rfl⟩
 obtain ⟨n, hn⟩ : ∃ n, n = s.size := ⟨_, rfl⟩
 rw [← hn] at hs hrun
 rw [← hbs] at hrow
 have HN := Aside0.mk hn
 have HBS := Aside0.mk hbs
 have HRow := Aside0.mk hrow
 have hlen : Aside0 (bs.length = n) := ⟨by rw [hbs, hn]; rfl⟩
 clear hn hbs hrow
 go_enter Tryd.func24, Tryd.ntmps24
 go_wp2
 go_loopg [4] (n + 1) (fun kq v4 wr => ∃ (z : Int) (j : Nat), v4 = .int .i64 z ∧ Aside0 (z + 1 = (j : Int)) ∧ j ≤ n ∧ Aside0 (BRow wr w.heap.size (tail 57 bs n j)) ∧ Aside0 (Below w.heap.size w wr) ∧ Aside0 (j < kq) ∧
   Aside0 (lessR bs.reverse = List.replicate (n - j) 57 ++ lessR (bs.take j).reverse))
 case atStart => exact ⟨_, n, rfl, ⟨by omega⟩, Nat.le_refl _, ⟨by have h := hlen.out; subst h; rw [tail_all]; exact HRow.out⟩, ⟨below_drew1 ((Below.refl _ _).alloc (Nat.le_refl _) _)⟩, ⟨by omega⟩, ⟨by have h := hlen.out; subst h; simp⟩⟩
 case round =>
  obtain ⟨z, j, rfl, HZ, hj, HR, HB, HK, HT⟩ := hrel
  rcases j with _ | i
  ·
   obtain rfl : z = -1 := by have := HZ.out; omega
   have hst := HR.out.string n cap (by rw [tail_length _ _ _ _ hlen.out (by omega)])
   have he : Aside0 (ByteArray.mk (tail 57 bs n 0).toArray = lessF s) := ⟨by
    unfold lessF
    rw [← HBS.out, HT.out]
    simp [tail, lessR]⟩
   have hsz : (tail 57 bs n 0).length = n := by rw [tail_length _ _ _ _ hlen.out (by omega)]
   go_wp2
   go_ret
   exact ⟨by rw [← he.out]; rfl, HB.out⟩
  ·
   obtain rfl : z = (i : Int) := by have := HZ.out; omega
   obtain ⟨c, hcell, hfree, HC⟩ : ∃ c : UInt8, wr.cell? ⟨w.heap.size, i, none⟩ = some (.int .u8 (c.toNat : Int)) ∧ wr.frozen? ⟨w.heap.size, i, none⟩ = false ∧ Aside0 (c = bs[i]'(by have := hlen.out; omega)) := by
    have hil' : i < (tail 57 bs n (i + 1)).length := by rw [tail_length _ _ _ _ hlen.out hj]; omega
    refine ⟨bs[i]'(by have := hlen.out; omega), ?_, HR.out.free i hil', ⟨rfl⟩⟩
    rw [← tail_get 57 bs n i hlen.out (by omega)]; exact HR.out.cell i hil'
   have hc255 := c.toNat_lt
   by_cases h1 : 48 < c.toNat
   ·
    have hb1 : decide ((48 : Int) < (c.toNat : Int)) = true := by simp; omega
    have hnext := HR.out.set i (UInt8.ofNat (c.toNat - 1)) ((c.toNat : Int) - 1) (by rw [UInt8.toNat_ofNat']; omega)
    rw [less_hit bs n i hlen.out (by omega) c HC.out h1 HT.out] at hnext
    have hst := hnext.string n cap (by
     have := congrArg List.length (less_hit bs n i hlen.out (by omega) c HC.out h1 HT.out)
     rw [List.length_set, tail_length _ _ _ _ hlen.out hj] at this
     exact this)
    clear hnext
    have he : Aside0 (ByteArray.mk (lessR bs.reverse).reverse.toArray = lessF s) := ⟨by rw [HBS.out]; rfl⟩
    obtain ⟨res, hres⟩ : ∃ l, l = (lessR bs.reverse).reverse := ⟨_, rfl⟩
    rw [← hres] at hst
    have HRes := Aside0.mk hres
    clear hres
    go_wp2
    go_ret
    exact ⟨by rw [← he.out, ← HRes.out]; rfl, below_set HB.out (Nat.le_refl _)⟩
   ·
    have hb1 : decide ((48 : Int) < (c.toNat : Int)) = false := by simp; omega
    have HN2 := Aside0.mk (HR.out.set i 57 57 rfl)
    have HT2 := Aside0.mk (less_miss bs n i hlen.out (by omega) c HC.out h1 HT.out)
    go_wp2
    go_roundg (gk - 1)
    case measure => have := HK.out; omega
    case rel => exact ⟨_, i, rfl, ⟨by omega⟩, by omega, ⟨by rw [← tail_next 57 bs n i hlen.out (by omega)]; exact HN2.out⟩, ⟨below_set HB.out (Nat.le_refl _)⟩, ⟨by have := HK.out; omega⟩, HT2⟩
theorem w_less.calls (a0 : ByteArray) (r : ByteArray) (w : World) (h : w_less.f a0 = some r) :
  Calls Tryd.prog 24 #[.string a0] w fun e w' => e = .returned (.string r) ∧ Below w.heap.size w w' := by
 unfold w_less.f at h
 split at h
 ·
  cases h
  exact less_any a0 w (by assumption)
 ·
  cases h
def timesF (s : ByteArray) : ByteArray := ⟨(timesR s.data.toList.reverse).reverse.toArray⟩
def w_times.f (a0 : ByteArray) : Option ByteArray := if a0.size ≤ 140737488355328 then some (timesF a0) else none
theorem times_hit (bs : List UInt8) (n i : Nat) (hn : bs.length = n) (h : i < n) (c : UInt8) (hc : c = bs[i]'(by omega)) (ht : c.toNat < 57)
  (hR : timesR bs.reverse = List.replicate (n - (i + 1)) 48 ++ timesR (bs.take (i + 1)).reverse) :
  (tail 48 bs n (i + 1)).set i (UInt8.ofNat (c.toNat + 1)) = (timesR bs.reverse).reverse := by
 rw [hR, rev_take bs i (by omega), ← hc, timesR, if_pos ht, tail_set _ _ _ _ _ hn h]
 simp
theorem times_miss (bs : List UInt8) (n i : Nat) (hn : bs.length = n) (h : i < n) (c : UInt8) (hc : c = bs[i]'(by omega)) (ht : ¬ c.toNat < 57)
  (hR : timesR bs.reverse = List.replicate (n - (i + 1)) 48 ++ timesR (bs.take (i + 1)).reverse) :
  timesR bs.reverse = List.replicate (n - i) 48 ++ timesR (bs.take i).reverse := by
 rw [hR, rev_take bs i (by omega), ← hc, timesR, if_neg ht, rep_snoc n i h]
set_option maxHeartbeats 2000000 in
set_option maxRecDepth 100000 in
theorem times_any (s : ByteArray) (w : World) (hs : s.size ≤ 140737488355328) :
  Calls Tryd.prog 27 #[.string s] w fun e w' => e = .returned (.string (timesF s)) ∧ Below w.heap.size w w' := by
 obtain ⟨cap, o, hrun, hrow⟩ := conv_bytes s w
 obtain ⟨bs, hbs⟩ : ∃ bs, bs = s.data.toList := ⟨_, rfl⟩
 obtain ⟨n, hn⟩ : ∃ n, n = s.size := ⟨_, rfl⟩
 rw [← hn] at hs hrun
 rw [← hbs] at hrow
 have HN := Aside0.mk hn
 have HBS := Aside0.mk hbs
 have HRow := Aside0.mk hrow
 have hlen : Aside0 (bs.length = n) := ⟨by rw [hbs, hn]; rfl⟩
 clear hn hbs hrow
 go_enter Tryd.func27, Tryd.ntmps27
 go_wp2
 go_loopg [4] (n + 1) (fun kq v4 wr => ∃ (z : Int) (j : Nat), v4 = .int .i64 z ∧ Aside0 (z + 1 = (j : Int)) ∧ j ≤ n ∧ Aside0 (BRow wr w.heap.size (tail 48 bs n j)) ∧ Aside0 (Below w.heap.size w wr) ∧ Aside0 (j < kq) ∧
   Aside0 (timesR bs.reverse = List.replicate (n - j) 48 ++ timesR (bs.take j).reverse))
 case atStart => exact ⟨_, n, rfl, ⟨by omega⟩, Nat.le_refl _, ⟨by have h := hlen.out; subst h; rw [tail_all]; exact HRow.out⟩, ⟨below_drew1 ((Below.refl _ _).alloc (Nat.le_refl _) _)⟩, ⟨by omega⟩, ⟨by have h := hlen.out; subst h; simp⟩⟩
 case round =>
  obtain ⟨z, j, rfl, HZ, hj, HR, HB, HK, HT⟩ := hrel
  rcases j with _ | i
  ·
   obtain rfl : z = -1 := by have := HZ.out; omega
   have hst := HR.out.string n cap (by rw [tail_length _ _ _ _ hlen.out (by omega)])
   have he : Aside0 (ByteArray.mk (49 :: tail 48 bs n 0).toArray = timesF s) := ⟨by
    unfold timesF
    rw [← HBS.out, HT.out]
    simp [tail, timesR]⟩
   have hsz : (tail 48 bs n 0).length = n := by rw [tail_length _ _ _ _ hlen.out (by omega)]
   go_wp2
   go_ret
   exact ⟨by rw [← he.out]; rfl, HB.out⟩
  ·
   obtain rfl : z = (i : Int) := by have := HZ.out; omega
   obtain ⟨c, hcell, hfree, HC⟩ : ∃ c : UInt8, wr.cell? ⟨w.heap.size, i, none⟩ = some (.int .u8 (c.toNat : Int)) ∧ wr.frozen? ⟨w.heap.size, i, none⟩ = false ∧ Aside0 (c = bs[i]'(by have := hlen.out; omega)) := by
    have hil' : i < (tail 48 bs n (i + 1)).length := by rw [tail_length _ _ _ _ hlen.out hj]; omega
    refine ⟨bs[i]'(by have := hlen.out; omega), ?_, HR.out.free i hil', ⟨rfl⟩⟩
    rw [← tail_get 48 bs n i hlen.out (by omega)]; exact HR.out.cell i hil'
   have hc255 := c.toNat_lt
   by_cases h1 : c.toNat < 57
   ·
    have hb1 : decide ((c.toNat : Int) < (57 : Int)) = true := by simp; omega
    have hnext := HR.out.set i (UInt8.ofNat (c.toNat + 1)) ((c.toNat : Int) + 1) (by rw [UInt8.toNat_ofNat']; omega)
    rw [times_hit bs n i hlen.out (by omega) c HC.out h1 HT.out] at hnext
    have hst := hnext.string n cap (by
     have := congrArg List.length (times_hit bs n i hlen.out (by omega) c HC.out h1 HT.out)
     rw [List.length_set, tail_length _ _ _ _ hlen.out hj] at this
     exact this)
    clear hnext
    have he : Aside0 (ByteArray.mk (timesR bs.reverse).reverse.toArray = timesF s) := ⟨by rw [HBS.out]; rfl⟩
    obtain ⟨res, hres⟩ : ∃ l, l = (timesR bs.reverse).reverse := ⟨_, rfl⟩
    rw [← hres] at hst
    have HRes := Aside0.mk hres
    clear hres
    go_wp2
    go_ret
    exact ⟨by rw [← he.out, ← HRes.out]; rfl, below_set HB.out (Nat.le_refl _)⟩
   ·
    have hb1 : decide ((c.toNat : Int) < (57 : Int)) = false := by simp; omega
    have HN2 := Aside0.mk (HR.out.set i 48 48 rfl)
    have HT2 := Aside0.mk (times_miss bs n i hlen.out (by omega) c HC.out h1 HT.out)
    go_wp2
    go_roundg (gk - 1)
    case measure => have := HK.out; omega
    case rel => exact ⟨_, i, rfl, ⟨by omega⟩, by omega, ⟨by rw [← tail_next 48 bs n i hlen.out (by omega)]; exact HN2.out⟩, ⟨below_set HB.out (Nat.le_refl _)⟩, ⟨by have := HK.out; omega⟩, HT2⟩
theorem w_times.calls (a0 : ByteArray) (r : ByteArray) (w : World) (h : w_times.f a0 = some r) :
  Calls Tryd.prog 27 #[.string a0] w fun e w' => e = .returned (.string r) ∧ Below w.heap.size w w' := by
 unfold w_times.f at h
 split at h
 ·
  cases h
  exact times_any a0 w (by assumption)
 ·
  cases h
end Go.Proofs.YtjlnfnfdibfniaaDoor.Hd
namespace Go.Proofs.YtjlnfnfdibfniaaDoor.Hd
open Go.RowKit Go.Proofs.YtjlnfnfdibfniaaDoorW.PrintWords Go.Proofs.YtjlnfnfdibfniaaDoorW.PrintLast
def num_IntText.f (a0 : Int) : Option ByteArray := if -9223372036854775808 ≤ a0 ∧ a0 ≤ 9223372036854775807 then some (intText a0) else none
theorem heap_last (w : World) (o : Obj) : (w.alloc o).heap[w.heap.size]? = some o := by
 show (w.heap.push o)[w.heap.size]? = _
 simp
theorem cell_arr (w : World) (arr : Array Value) (T : TypeId) (i : Nat) (v : Value) (h : arr[i]? = some v) : (w.alloc (.cells arr T)).cell? ⟨w.heap.size, i, none⟩ = some v := by
 unfold World.cell?
 dsimp only
 rw [heap_last]
 simpa using h
theorem frozen_arr (w : World) (arr : Array Value) (T : TypeId) (i : Nat) : (w.alloc (.cells arr T)).frozen? ⟨w.heap.size, i, none⟩ = false := by
 unfold World.frozen?
 dsimp only
 rw [heap_last]
 simp
theorem string_tail (w : World) (arr : Array Value) (p : Nat) (acc : List UInt8) (h : ∀ i (h : i < acc.length), arr[p + i]? = some (.int .u8 (acc[i].toNat : Int))) (n cap : Nat) (hn : n = acc.length) :
  (convert 43 9 (.slice (some ⟨w.heap.size, p, none⟩) n cap)).run Tryd.prog (w.alloc (.cells arr 89)) = .ok (.string ⟨acc.toArray⟩) (w.alloc (.cells arr 89)) := by
 subst hn
 refine run_convert_bytes_back _ 43 9 5 _ cap acc Tryd.underlying43 Tryd.underlying5 Tryd.underlying9 fun j hj => ?_
 have : (⟨w.heap.size, p, none⟩ : Addr).add j = ⟨w.heap.size, p + j, none⟩ := by
  unfold Addr.add
  split
  ·
   rename_i e; subst e; rfl
  ·
   rfl
 rw [this]
 exact cell_arr w arr 89 (p + j) _ (h j hj)
theorem slice_arr (B p : Nat) (hp : p < 20) (w : World) : (Instr.sliceAt 89 (.pointer (some ⟨B, 0, none⟩)) (some (.int .i64 (p : Int))) none none).run Tryd.prog w = .ok (.slice (some ⟨B, p, none⟩) (20 - p) (20 - p)) w := by
 have ht : Tryd.prog.underlying 89 = some (.array (Tryd.prog.arrayLen 89) (Tryd.prog.elem 89)) := by kernel_rfl
 have hl : Tryd.prog.arrayLen 89 = 20 := by kernel_rfl
 have he : Tryd.prog.elem 89 = 5 := by kernel_rfl
 have hs : (sizeOf 5).run Tryd.prog w = .ok 1 w := by kernel_rfl
 rw [run_sliceAt_array_l w 89 _ ht .i64 (p : Int) (by omega) (by rw [hl]; omega), hl, he, hs]
 simp only [Result.andThen, slicedAt, Int.toNat_natCast]
 rw [if_neg (by omega)]
 unfold Addr.add
 split
 ·
  rename_i e
  have : p = 0 := by omega
  subst this
  rfl
 ·
  simp
theorem zeros20 : ∀ i, i < 20 → ∃ v, (#[Value.int .u8 0, .int .u8 0, .int .u8 0, .int .u8 0, .int .u8 0, .int .u8 0, .int .u8 0, .int .u8 0, .int .u8 0, .int .u8 0, .int .u8 0, .int .u8 0, .int .u8 0, .int .u8 0, .int .u8 0, .int .u8 0, .int .u8 0, .int .u8 0, .int .u8 0, .int .u8 0])[i]? = some (.int .u8 v) := by
 intro i hi
 refine ⟨0, ?_⟩
 have : (#[Value.int .u8 0, .int .u8 0, .int .u8 0, .int .u8 0, .int .u8 0, .int .u8 0, .int .u8 0, .int .u8 0, .int .u8 0, .int .u8 0, .int .u8 0, .int .u8 0, .int .u8 0, .int .u8 0, .int .u8 0, .int .u8 0, .int .u8 0, .int .u8 0, .int .u8 0, .int .u8 0]) = Array.replicate 20 (.int .u8 0) := rfl
 rw [this, Array.getElem?_replicate, if_pos hi]
set_option maxHeartbeats 2000000 in
set_option maxRecDepth 100000 in
theorem loop_pos (n : Int) (U : Nat) (w : World) (hn : decide (n < 0) = false) (hU : n = (U : Int)) (hU20 : U < 10 ^ 20) (hU64 : IntKind.u64.wrap n = (U : Int)) (hU64' : (U : Int) ≤ 18446744073709551615) :
  Calls Tryd.prog 26 #[.int .i64 n] w fun e w' => e = .returned (.string ⟨(dec U).toArray⟩) ∧ Below w.heap.size w w' := by
 have HU := Aside0.mk hU
 clear hU
 have HU20 := Aside0.mk hU20
 clear hU20
 go_enter Tryd.func26, Tryd.ntmps26
 go_wp2
 go_loopg [3, 5, 6] 30 (fun kq v3 v5 v6 wr => ∃ (p m : Nat) (first : Bool) (acc : List UInt8) (arr : Array Value), v3 = .int .u64 (m : Int) ∧ v5 = .int .i64 (p : Int) ∧ v6 = .bool first ∧ wr = w.alloc (.cells arr 89) ∧ Aside0 (IntLoop U p m first acc arr) ∧ Aside0 (p < kq) ∧ (m : Int) ≤ 18446744073709551615)
 case atStart => exact ⟨20, U, true, [], _, by first | rfl | simp [hU64], rfl, rfl, rfl, ⟨IntLoop.start U HU20.out _ rfl zeros20⟩, ⟨by omega⟩, hU64'⟩
 case round =>
  obtain ⟨p, m, first, acc, arr, rfl, rfl, rfl, rfl, HL, HK, hmm⟩ := hrel
  by_cases hgo : first = true ∨ 0 < m
  ·
   have hp := HL.out.pos hgo
   obtain ⟨q, rfl⟩ : ∃ q, p = q + 1 := ⟨p - 1, by omega⟩
   have hp20 := HL.out.hp
   obtain ⟨ov, hov⟩ := HL.out.hold q (by omega)
   have hcell := cell_arr w arr 89 q _ hov
   have hfz := frozen_arr w arr 89 q
   clear hov
   have HR := Aside0.mk (HL.out.round hgo)
   clear HL
   have HG := Aside0.mk hgo
   clear hgo
   cases first with
   | true =>
    go_wp2
    go_roundg (gk - 1)
    case measure => have := HK.out; omega
    case rel => exact ⟨q, m / 10, false, _, _, by go_num, by go_num, rfl, rfl, HR, ⟨by have := HK.out; omega⟩, by omega⟩
   | false =>
    have hm : decide (0 < (m : Int)) = true := by rcases HG.out with h | h; cases h; simpa using h
    have hm2 : decide (0 < m) = true := by simpa using hm
    go_wp2
    go_roundg (gk - 1)
    case measure => have := HK.out; omega
    case rel => exact ⟨q, m / 10, false, _, _, by go_num, by go_num, rfl, rfl, HR, ⟨by have := HK.out; omega⟩, by omega⟩
  ·
   obtain ⟨rfl, rfl⟩ : first = false ∧ m = 0 := by
    refine ⟨?_, by omega⟩
    cases first
    ·
     rfl
    ·
     exact absurd (.inl rfl) hgo
   clear hgo
   have hst := string_tail w arr p acc HL.out.hcell (20 - p) (20 - p) HL.out.hacc.symm
   have he := HL.out.exit
   have hp20 := HL.out.hp
   subst he
   have hsl := slice_arr w.heap.size p HL.out.lt
   clear HL
   go_wp2
   go_ret
   exact ⟨rfl, (Below.refl _ _).alloc (Nat.le_refl _) _⟩
set_option maxHeartbeats 2000000 in
set_option maxRecDepth 100000 in
theorem loop_neg (n : Int) (U : Nat) (w : World) (hn : decide (n < 0) = true) (hU : -n = (U : Int)) (hU20 : U < 10 ^ 20) (M : Int) (hM : IntKind.u64.wrap n = M) (hU64 : IntKind.u64.wrap (-M) = (U : Int)) (hU64' : (U : Int) ≤ 18446744073709551615) :
  Calls Tryd.prog 26 #[.int .i64 n] w fun e w' => e = .returned (.string ⟨(45 :: dec U).toArray⟩) ∧ Below w.heap.size w w' := by
 have HU := Aside0.mk hU
 clear hU
 have HU20 := Aside0.mk hU20
 clear hU20
 go_enter Tryd.func26, Tryd.ntmps26
 go_wp2
 go_loopg [3, 5, 6] 30 (fun kq v3 v5 v6 wr => ∃ (p m : Nat) (first : Bool) (acc : List UInt8) (arr : Array Value), v3 = .int .u64 (m : Int) ∧ v5 = .int .i64 (p : Int) ∧ v6 = .bool first ∧ wr = w.alloc (.cells arr 89) ∧ Aside0 (IntLoop U p m first acc arr) ∧ Aside0 (p < kq) ∧ (m : Int) ≤ 18446744073709551615)
 case atStart => exact ⟨20, U, true, [], _, by first | rfl | simp [hU64], rfl, rfl, rfl, ⟨IntLoop.start U HU20.out _ rfl zeros20⟩, ⟨by omega⟩, hU64'⟩
 case round =>
  obtain ⟨p, m, first, acc, arr, rfl, rfl, rfl, rfl, HL, HK, hmm⟩ := hrel
  by_cases hgo : first = true ∨ 0 < m
  ·
   have hp := HL.out.pos hgo
   obtain ⟨q, rfl⟩ : ∃ q, p = q + 1 := ⟨p - 1, by omega⟩
   have hp20 := HL.out.hp
   obtain ⟨ov, hov⟩ := HL.out.hold q (by omega)
   have hcell := cell_arr w arr 89 q _ hov
   have hfz := frozen_arr w arr 89 q
   clear hov
   have HR := Aside0.mk (HL.out.round hgo)
   clear HL
   have HG := Aside0.mk hgo
   clear hgo
   cases first with
   | true =>
    go_wp2
    go_roundg (gk - 1)
    case measure => have := HK.out; omega
    case rel => exact ⟨q, m / 10, false, _, _, by go_num, by go_num, rfl, rfl, HR, ⟨by have := HK.out; omega⟩, by omega⟩
   | false =>
    have hm : decide (0 < (m : Int)) = true := by rcases HG.out with h | h; cases h; simpa using h
    have hm2 : decide (0 < m) = true := by simpa using hm
    go_wp2
    go_roundg (gk - 1)
    case measure => have := HK.out; omega
    case rel => exact ⟨q, m / 10, false, _, _, by go_num, by go_num, rfl, rfl, HR, ⟨by have := HK.out; omega⟩, by omega⟩
  ·
   obtain ⟨rfl, rfl⟩ : first = false ∧ m = 0 := by
    refine ⟨?_, by omega⟩
    cases first
    ·
     rfl
    ·
     exact absurd (.inl rfl) hgo
   clear hgo
   have hst := string_tail w arr p acc HL.out.hcell (20 - p) (20 - p) HL.out.hacc.symm
   have he := HL.out.exit
   have hp20 := HL.out.hp
   subst he
   have hsl := slice_arr w.heap.size p HL.out.lt
   clear HL
   have hdl := dec_length U
   go_wp2
   go_ret
   exact ⟨by first | rfl | (congr 2), (Below.refl _ _).alloc (Nat.le_refl _) _⟩
theorem num_IntText.calls (a0 : Int) (r : ByteArray) (w : World) (h : num_IntText.f a0 = some r) :
  Calls Tryd.prog 26 #[.int .i64 a0] w fun e w' => e = .returned (.string r) ∧ Below w.heap.size w w' := by
 unfold num_IntText.f at h
 split at h
 ·
  rename_i hb
  cases h
  unfold intText
  by_cases hn : a0 < 0
  ·
   rw [if_pos hn]
   refine loop_neg a0 (-a0).toNat w (decide_eq_true hn) (by omega) (by omega) (a0 + 18446744073709551616) ?_ ?_ (by omega)
   ·
    unfold IntKind.wrap; simp [IntKind.bits, IntKind.signed]; omega
   ·
    unfold IntKind.wrap; simp [IntKind.bits, IntKind.signed]; omega
  ·
   rw [if_neg hn]
   refine loop_pos a0 a0.toNat w (decide_eq_false hn) (by omega) (by omega) ?_ (by omega)
   unfold IntKind.wrap; simp [IntKind.bits, IntKind.signed]; omega
 ·
  cases h
end Go.Proofs.YtjlnfnfdibfniaaDoor.Hd
namespace Go.Proofs.YtjlnfnfdibfniaaDoor.F
open Go.RowKit Go.Proofs.YtjlnfnfdibfniaaDoorW.PrintWords Go.Proofs.YtjlnfnfdibfniaaDoorW.PrintLast Go.Proofs.YtjlnfnfdibfniaaDoorW.PrintMore
attribute [local go_sem] max2_int min2_int max_two min_two max_three min_three max_four min_four
set_option linter.unusedVariables false
set_option linter.unusedSimpArgs false
def num_scientific.j0 : Nat → Int → ByteArray → Option (ByteArray)
 | 0, _, _ => none
 | k + 1, x1, x5 => if x5.size + 1 ≤ 9223372036854775807 then ((some (x5 ++ (⟨#[101]⟩ : ByteArray) : ByteArray)).bind fun y477 => (if x1 < 0 then (if y477.size + 1 ≤ 9223372036854775807 then ((some (y477 ++ (⟨#[45]⟩ : ByteArray) : ByteArray)).bind fun y478 => (if (wrap64 (-x1)) < 10 then (if y478.size + 1 ≤ 9223372036854775807 then ((some (y478 ++ (⟨#[48]⟩ : ByteArray) : ByteArray)).bind fun y479 => ((Hd.num_IntText.f (wrap64 (-x1))).bind fun t480 => (if y479.size + t480.size ≤ 9223372036854775807 then (some (y479 ++ t480)) else (none)))) else (none)) else ((Hd.num_IntText.f (wrap64 (-x1))).bind fun t482 => (if y478.size + t482.size ≤ 9223372036854775807 then (some (y478 ++ t482)) else (none))))) else (none)) else (if y477.size + 1 ≤ 9223372036854775807 then ((some (y477 ++ (⟨#[43]⟩ : ByteArray) : ByteArray)).bind fun y484 => (if x1 < 10 then (if y484.size + 1 ≤ 9223372036854775807 then ((some (y484 ++ (⟨#[48]⟩ : ByteArray) : ByteArray)).bind fun y485 => ((Hd.num_IntText.f x1).bind fun t486 => (if y485.size + t486.size ≤ 9223372036854775807 then (some (y485 ++ t486)) else (none)))) else (none)) else ((Hd.num_IntText.f x1).bind fun t488 => (if y484.size + t488.size ≤ 9223372036854775807 then (some (y484 ++ t488)) else (none))))) else (none)))) else (none)
def num_scientific.f (k : Nat) (a0 : ByteArray) (a1 : Int) : Option (ByteArray) := if 0 ≤ 1 then (if 1 ≤ (a0.size : Int) then ((some (a0.extract 0 1 : ByteArray)).bind fun y473 => (if (a0.size : Int) > 1 then ((some (a0.extract 1 a0.size : ByteArray)).bind fun y474 => (if 1 + y474.size ≤ 9223372036854775807 then ((some ((⟨#[46]⟩ : ByteArray) ++ y474 : ByteArray)).bind fun y475 => (if y473.size + y475.size ≤ 9223372036854775807 then (num_scientific.j0 k a1 (y473 ++ y475)) else (none))) else (none))) else (num_scientific.j0 k a1 y473))) else (none)) else (none)
theorem num_scientific.mono_l : ∀ k, (∀ y0 y1, LeO (num_scientific.j0 k y0 y1) (num_scientific.j0 (k + 1) y0 y1))
 | 0 => fun _ _ r h => by simp [num_scientific.j0] at h
 | k + 1 => by
  have ih0 := num_scientific.mono_l k
  ·
   intro y0 y1
   unfold num_scientific.j0
   repeat' (with_reducible first | exact ih0 _ _ | exact LeO.refl _ | exact LeO.none _ | refine LeO.ite ?_ ?_ | refine LeO.bind ?_ (fun _ => ?_))
theorem num_scientific.mono : ∀ a0 a1 k, LeO (num_scientific.f k a0 a1) (num_scientific.f (k + 1) a0 a1) := by
 intro a0 a1 k
 have ih0 := num_scientific.mono_l k
 unfold num_scientific.f
 repeat' (with_reducible first | exact ih0 _ _ | exact LeO.refl _ | exact LeO.none _ | refine LeO.ite ?_ ?_ | refine LeO.bind ?_ (fun _ => ?_))
set_option maxHeartbeats 8000000 in
set_option maxRecDepth 100000 in
theorem num_scientific.calls (k : Nat) (a0 : ByteArray) (a1 : Int) (r : ByteArray) (w : World) (h : num_scientific.f k a0 a1 = some r) :
  Calls Tryd.prog 61 #[.string a0, .int .i64 a1] w fun e w' => e = .returned (.string r) ∧ Below w.heap.size w w' := by
 have HB := Aside0.mk (Below.refl w.heap.size w)
 have H : (if 0 ≤ 1 then (if 1 ≤ (a0.size : Int) then ((some (a0.extract 0 1 : ByteArray)).bind fun y473 => (if (a0.size : Int) > 1 then ((some (a0.extract 1 a0.size : ByteArray)).bind fun y474 => (if 1 + y474.size ≤ 9223372036854775807 then ((some ((⟨#[46]⟩ : ByteArray) ++ y474 : ByteArray)).bind fun y475 => (if y473.size + y475.size ≤ 9223372036854775807 then (num_scientific.j0 k a1 (y473 ++ y475)) else (none))) else (none))) else (num_scientific.j0 k a1 y473))) else (none)) else (none)) = some r := h
 clear h
 by_cases c3 : 0 ≤ 1
 ·
  rw [if_pos c3] at H
  have c3b0 := eq_true c3
  have c3b1 : decide (0 ≤ 1) = true := decide_eq_true c3
  clear c3
  by_cases c4 : 1 ≤ (a0.size : Int)
  ·
   rw [if_pos c4] at H
   have c4b0 := eq_true c4
   have c4b1 : decide (1 ≤ (a0.size : Int)) = true := decide_eq_true c4
   clear c4
   obtain ⟨y473, hy473⟩ : ∃ y_ : ByteArray, y_ = (a0.extract 0 1) := ⟨_, rfl⟩
   replace H : (if (a0.size : Int) > 1 then ((some (a0.extract 1 a0.size : ByteArray)).bind fun y474 => (if 1 + y474.size ≤ 9223372036854775807 then ((some ((⟨#[46]⟩ : ByteArray) ++ y474 : ByteArray)).bind fun y475 => (if y473.size + y475.size ≤ 9223372036854775807 then (num_scientific.j0 k a1 (y473 ++ y475)) else (none))) else (none))) else (num_scientific.j0 k a1 y473)) = some r := by first | (rw [hy473]; with_reducible exact H) | (rw [hy473]; with_reducible exact (hs H :)) | with_reducible exact (hs H :) | with_reducible exact H | (rw [hy473]; exact H) | exact H
   have Ny473 := Aside0.mk hy473
   clear hy473
   have HC5 := Aside0.mk H
   clear H
   have hcs6 := Hd.str_to (P := Tryd.prog) (k := .i64) Tryd.underlying9 (j := 1) (s := a0) (y := y473) (by first | (with_reducible assumption) | exact of_decide_eq_true (by first | (with_reducible assumption) | assumption) | omega) (by first | (with_reducible assumption) | exact of_decide_eq_true (by first | (with_reducible assumption) | assumption) | omega) Ny473.out
   go_enter Tryd.func61, Tryd.ntmps61
   go_upto_if 10 with (fail)
   go_cut [5] (fun v5 wc => ∃ (kq : Nat) (x5_4 : ByteArray), v5 = .string x5_4 ∧ Aside0 (num_scientific.j0 kq a1 x5_4 = some r) ∧ Aside0 (kq ≤ k) ∧ Aside0 (Below w.heap.size w wc))
   case first =>
    have H := HC5.out
    clear HC5
    by_cases c7 : (a0.size : Int) > 1
    ·
     rw [if_pos c7] at H
     have c7b0 : decide (1 < (a0.size : Int)) = true := decide_eq_true c7
     have c7b1 : decide (1 < a0.size) = true := decide_eq_true (by omega)
     clear c7
     (first | rw [c7b0] | (simp only [i64_w, i32_w]; rw [c7b0]) | skip)
     have c8b0 := eq_true (of_decide_eq_true (by first | (with_reducible assumption) | assumption) : 1 ≤ (a0.size : Int))
     obtain ⟨y474, hy474⟩ : ∃ y_ : ByteArray, y_ = (a0.extract 1 a0.size) := ⟨_, rfl⟩
     replace H : (if 1 + y474.size ≤ 9223372036854775807 then ((some ((⟨#[46]⟩ : ByteArray) ++ y474 : ByteArray)).bind fun y475 => (if y473.size + y475.size ≤ 9223372036854775807 then (num_scientific.j0 k a1 (y473 ++ y475)) else (none))) else (none)) = some r := by first | (rw [hy474]; with_reducible exact H) | (rw [hy474]; with_reducible exact (hs H :)) | with_reducible exact (hs H :) | with_reducible exact H | (rw [hy474]; exact H) | exact H
     have Ny474 := Aside0.mk hy474
     clear hy474
     by_cases c9 : 1 + y474.size ≤ 9223372036854775807
     ·
      rw [if_pos c9] at H
      have c9b0 := eq_true c9
      have c9b1 : decide (1 + y474.size ≤ 9223372036854775807) = true := decide_eq_true c9
      try have c9b2 : (9223372036854775807 < 1 + y474.size) = False := eq_false (Nat.not_lt.2 c9)
      obtain ⟨y475, hy475⟩ : ∃ y_ : ByteArray, y_ = ((⟨#[46]⟩ : ByteArray) ++ y474) := ⟨_, rfl⟩
      replace H : (if y473.size + y475.size ≤ 9223372036854775807 then (num_scientific.j0 k a1 (y473 ++ y475)) else (none)) = some r := by first | (rw [hy475]; with_reducible exact H) | (rw [hy475]; with_reducible exact (hs H :)) | with_reducible exact (hs H :) | with_reducible exact H | (rw [hy475]; exact H) | exact H
      have Ny475 := Aside0.mk hy475
      clear hy475
      by_cases c10 : y473.size + y475.size ≤ 9223372036854775807
      ·
       rw [if_pos c10] at H
       have c10b0 := eq_true c10
       have c10b1 : decide (y473.size + y475.size ≤ 9223372036854775807) = true := decide_eq_true c10
       try have c10b2 : (9223372036854775807 < y473.size + y475.size) = False := eq_false (Nat.not_lt.2 c10)
       obtain ⟨y476, hy476⟩ : ∃ y_ : ByteArray, y_ = (y473 ++ y475) := ⟨_, rfl⟩
       replace H : (num_scientific.j0 k a1 y476) = some r := by first | (rw [hy476]; with_reducible exact H) | (rw [hy476]; with_reducible exact (hs H :)) | with_reducible exact (hs H :) | with_reducible exact H | (rw [hy476]; exact H) | exact H
       have Ny476 := Aside0.mk hy476
       clear hy476
       have H' := Aside0.mk H
       clear H
       have hcs11 := Hd.str_from (P := Tryd.prog) (k := .i64) Tryd.underlying9 (i := 1) (s := a0) (y := y474) (by first | (with_reducible assumption) | exact of_decide_eq_true (by first | (with_reducible assumption) | assumption) | omega) (by first | (with_reducible assumption) | exact of_decide_eq_true (by first | (with_reducible assumption) | assumption) | omega) Ny474.out
       have hcs12 := Hd.str_cat (P := Tryd.prog) (s := (⟨#[46]⟩ : ByteArray)) (t := y474) (y := y475) (by first | (with_reducible assumption) | assumption | exact of_eq_true (by assumption) | omega) Ny475.out
       have hcs12' := Hd.str_cat' (P := Tryd.prog) (s := (⟨#[46]⟩ : ByteArray)) (t := y474) (y := y475) (by first | (with_reducible assumption) | assumption | exact of_eq_true (by assumption) | omega) Ny475.out
       have hcs13 := Hd.str_cat (P := Tryd.prog) (s := y473) (t := y475) (y := y476) (by first | (with_reducible assumption) | assumption | exact of_eq_true (by assumption) | omega) Ny476.out
       have hcs13' := Hd.str_cat' (P := Tryd.prog) (s := y473) (t := y475) (y := y476) (by first | (with_reducible assumption) | assumption | exact of_eq_true (by assumption) | omega) Ny476.out
       go_wp2
       go_meet
       case rel => exact ⟨_, (y476), (by first | rfl | (simp; done) | (simp [*]; done)), H', ⟨by first | omega | exact Nat.le_refl _⟩, ⟨lk HB⟩⟩
      rw [if_neg c10] at H
      exact absurd H (by simp)
     rw [if_neg c9] at H
     exact absurd H (by simp)
    rw [if_neg c7] at H
    have c7b0 : decide (1 < (a0.size : Int)) = false := decide_eq_false c7
    have c7b1 : decide (1 < a0.size) = false := decide_eq_false (by omega)
    clear c7
    (first | rw [c7b0] | (simp only [i64_w, i32_w]; rw [c7b0]) | skip)
    have H' := Aside0.mk H
    clear H
    go_wp2
    go_meet
    case rel => exact ⟨_, (y473), (by first | rfl | (simp; done) | (simp [*]; done)), H', ⟨by first | omega | exact Nat.le_refl _⟩, ⟨lk HB⟩⟩
   case rest =>
    clear HC5
    try clear c1
    try clear p2
    try clear c3
    try clear c3b0
    try clear c3b1
    try clear c4
    try clear c4b0
    try clear c4b1
    try clear c6
    try clear c7
    try clear c7b0
    try clear c7b1
    try clear c8
    try clear c8b0
    try clear c9
    try clear c9b0
    try clear c9b1
    try clear c9b2
    try clear c10
    try clear c10b0
    try clear c10b1
    try clear c10b2
    obtain ⟨kq, x5_4, rfl, HA, HJ4, HB⟩ := hcut
    cases kq with
    | zero => exact absurd HA.out (by simp [num_scientific.j0])
    | succ kj4 =>
     have H := HA.out
     clear HA
     simp only [num_scientific.j0] at H
     by_cases c14 : x5_4.size + 1 ≤ 9223372036854775807
     ·
      rw [if_pos c14] at H
      have c14b0 := eq_true c14
      have c14b1 : decide (x5_4.size + 1 ≤ 9223372036854775807) = true := decide_eq_true c14
      try have c14b2 : (9223372036854775807 < x5_4.size + 1) = False := eq_false (Nat.not_lt.2 c14)
      obtain ⟨y477, hy477⟩ : ∃ y_ : ByteArray, y_ = (x5_4 ++ (⟨#[101]⟩ : ByteArray)) := ⟨_, rfl⟩
      replace H : (if a1 < 0 then (if y477.size + 1 ≤ 9223372036854775807 then ((some (y477 ++ (⟨#[45]⟩ : ByteArray) : ByteArray)).bind fun y478 => (if (wrap64 (-a1)) < 10 then (if y478.size + 1 ≤ 9223372036854775807 then ((some (y478 ++ (⟨#[48]⟩ : ByteArray) : ByteArray)).bind fun y479 => ((Hd.num_IntText.f (wrap64 (-a1))).bind fun t480 => (if y479.size + t480.size ≤ 9223372036854775807 then (some (y479 ++ t480)) else (none)))) else (none)) else ((Hd.num_IntText.f (wrap64 (-a1))).bind fun t482 => (if y478.size + t482.size ≤ 9223372036854775807 then (some (y478 ++ t482)) else (none))))) else (none)) else (if y477.size + 1 ≤ 9223372036854775807 then ((some (y477 ++ (⟨#[43]⟩ : ByteArray) : ByteArray)).bind fun y484 => (if a1 < 10 then (if y484.size + 1 ≤ 9223372036854775807 then ((some (y484 ++ (⟨#[48]⟩ : ByteArray) : ByteArray)).bind fun y485 => ((Hd.num_IntText.f a1).bind fun t486 => (if y485.size + t486.size ≤ 9223372036854775807 then (some (y485 ++ t486)) else (none)))) else (none)) else ((Hd.num_IntText.f a1).bind fun t488 => (if y484.size + t488.size ≤ 9223372036854775807 then (some (y484 ++ t488)) else (none))))) else (none))) = some r := by first | (rw [hy477]; with_reducible exact H) | (rw [hy477]; with_reducible exact (hs H :)) | with_reducible exact (hs H :) | with_reducible exact H | (rw [hy477]; exact H) | exact H
      have Ny477 := Aside0.mk hy477
      clear hy477
      by_cases c15 : a1 < 0
      ·
       rw [if_pos c15] at H
       have c15b0 : decide (a1 < 0) = true := decide_eq_true c15
       clear c15
       by_cases c16 : y477.size + 1 ≤ 9223372036854775807
       ·
        rw [if_pos c16] at H
        have c16b0 := eq_true c16
        have c16b1 : decide (y477.size + 1 ≤ 9223372036854775807) = true := decide_eq_true c16
        try have c16b2 : (9223372036854775807 < y477.size + 1) = False := eq_false (Nat.not_lt.2 c16)
        obtain ⟨y478, hy478⟩ : ∃ y_ : ByteArray, y_ = (y477 ++ (⟨#[45]⟩ : ByteArray)) := ⟨_, rfl⟩
        replace H : (if (wrap64 (-a1)) < 10 then (if y478.size + 1 ≤ 9223372036854775807 then ((some (y478 ++ (⟨#[48]⟩ : ByteArray) : ByteArray)).bind fun y479 => ((Hd.num_IntText.f (wrap64 (-a1))).bind fun t480 => (if y479.size + t480.size ≤ 9223372036854775807 then (some (y479 ++ t480)) else (none)))) else (none)) else ((Hd.num_IntText.f (wrap64 (-a1))).bind fun t482 => (if y478.size + t482.size ≤ 9223372036854775807 then (some (y478 ++ t482)) else (none)))) = some r := by first | (rw [hy478]; with_reducible exact H) | (rw [hy478]; with_reducible exact (hs H :)) | with_reducible exact (hs H :) | with_reducible exact H | (rw [hy478]; exact H) | exact H
        have Ny478 := Aside0.mk hy478
        clear hy478
        by_cases c17 : (wrap64 (-a1)) < 10
        ·
         rw [if_pos c17] at H
         have c17b0 : decide ((wrap64 (-a1)) < 10) = true := decide_eq_true c17
         clear c17
         by_cases c18 : y478.size + 1 ≤ 9223372036854775807
         ·
          rw [if_pos c18] at H
          have c18b0 := eq_true c18
          have c18b1 : decide (y478.size + 1 ≤ 9223372036854775807) = true := decide_eq_true c18
          try have c18b2 : (9223372036854775807 < y478.size + 1) = False := eq_false (Nat.not_lt.2 c18)
          obtain ⟨y479, hy479⟩ : ∃ y_ : ByteArray, y_ = (y478 ++ (⟨#[48]⟩ : ByteArray)) := ⟨_, rfl⟩
          replace H : ((Hd.num_IntText.f (wrap64 (-a1))).bind fun t480 => (if y479.size + t480.size ≤ 9223372036854775807 then (some (y479 ++ t480)) else (none))) = some r := by first | (rw [hy479]; with_reducible exact H) | (rw [hy479]; with_reducible exact (hs H :)) | with_reducible exact (hs H :) | with_reducible exact H | (rw [hy479]; exact H) | exact H
          have Ny479 := Aside0.mk hy479
          clear hy479
          replace H := Option.bind_eq_some_iff.mp H
          obtain ⟨t480, A190, H⟩ := H
          have A19 := Aside0.mk A190
          clear A190
          by_cases c20 : y479.size + t480.size ≤ 9223372036854775807
          ·
           rw [if_pos c20] at H
           have c20b0 := eq_true c20
           have c20b1 : decide (y479.size + t480.size ≤ 9223372036854775807) = true := decide_eq_true c20
           try have c20b2 : (9223372036854775807 < y479.size + t480.size) = False := eq_false (Nat.not_lt.2 c20)
           obtain ⟨y481, hy481⟩ : ∃ y_ : ByteArray, y_ = (y479 ++ t480) := ⟨_, rfl⟩
           replace H : (some y481) = some r := by first | (rw [hy481]; with_reducible exact H) | (rw [hy481]; with_reducible exact (hs H :)) | with_reducible exact (hs H :) | with_reducible exact H | (rw [hy481]; exact H) | exact H
           have Ny481 := Aside0.mk hy481
           clear hy481
           obtain rfl := Option.some.inj H
           have hcs21 := Hd.str_cat (P := Tryd.prog) (s := x5_4) (t := (⟨#[101]⟩ : ByteArray)) (y := y477) (by first | (with_reducible assumption) | assumption | exact of_eq_true (by assumption) | omega) Ny477.out
           have hcs21' := Hd.str_cat' (P := Tryd.prog) (s := x5_4) (t := (⟨#[101]⟩ : ByteArray)) (y := y477) (by first | (with_reducible assumption) | assumption | exact of_eq_true (by assumption) | omega) Ny477.out
           have hcs22 := Hd.str_cat (P := Tryd.prog) (s := y477) (t := (⟨#[45]⟩ : ByteArray)) (y := y478) (by first | (with_reducible assumption) | assumption | exact of_eq_true (by assumption) | omega) Ny478.out
           have hcs22' := Hd.str_cat' (P := Tryd.prog) (s := y477) (t := (⟨#[45]⟩ : ByteArray)) (y := y478) (by first | (with_reducible assumption) | assumption | exact of_eq_true (by assumption) | omega) Ny478.out
           have hcs23 := Hd.str_cat (P := Tryd.prog) (s := y478) (t := (⟨#[48]⟩ : ByteArray)) (y := y479) (by first | (with_reducible assumption) | assumption | exact of_eq_true (by assumption) | omega) Ny479.out
           have hcs23' := Hd.str_cat' (P := Tryd.prog) (s := y478) (t := (⟨#[48]⟩ : ByteArray)) (y := y479) (by first | (with_reducible assumption) | assumption | exact of_eq_true (by assumption) | omega) Ny479.out
           go_wp2_with (first | ((with_reducible refine gate_callee (f := 26) rfl ?_); refine gL (some 32) Tryd.func26 #[.int .i64 (wrap64 (-a1))] ?_; (with_reducible refine (Hd.num_IntText.calls (wrap64 (-a1)) t480 _ A19.out).mono ?_); rintro e w24 ⟨rfl, hb⟩; refine ⟨_, rfl, ?_⟩; replace HB := lb HB hb; (try clear hb); (try clear hb2); (try clear hk); (try clear hi); have hcs25 := Hd.str_cat (P := Tryd.prog) (s := y479) (t := t480) (y := y481) (by first | (with_reducible assumption) | assumption | exact of_eq_true (by assumption) | omega) Ny481.out; have hcs25' := Hd.str_cat' (P := Tryd.prog) (s := y479) (t := t480) (y := y481) (by first | (with_reducible assumption) | assumption | exact of_eq_true (by assumption) | omega) Ny481.out))
           go_ret
           exact ex (lk HB)
          rw [if_neg c20] at H
          exact absurd H (by simp)
         rw [if_neg c18] at H
         exact absurd H (by simp)
        rw [if_neg c17] at H
        have c17b0 : decide ((wrap64 (-a1)) < 10) = false := decide_eq_false c17
        clear c17
        replace H := Option.bind_eq_some_iff.mp H
        obtain ⟨t482, A260, H⟩ := H
        have A26 := Aside0.mk A260
        clear A260
        by_cases c27 : y478.size + t482.size ≤ 9223372036854775807
        ·
         rw [if_pos c27] at H
         have c27b0 := eq_true c27
         have c27b1 : decide (y478.size + t482.size ≤ 9223372036854775807) = true := decide_eq_true c27
         try have c27b2 : (9223372036854775807 < y478.size + t482.size) = False := eq_false (Nat.not_lt.2 c27)
         obtain ⟨y483, hy483⟩ : ∃ y_ : ByteArray, y_ = (y478 ++ t482) := ⟨_, rfl⟩
         replace H : (some y483) = some r := by first | (rw [hy483]; with_reducible exact H) | (rw [hy483]; with_reducible exact (hs H :)) | with_reducible exact (hs H :) | with_reducible exact H | (rw [hy483]; exact H) | exact H
         have Ny483 := Aside0.mk hy483
         clear hy483
         obtain rfl := Option.some.inj H
         have hcs28 := Hd.str_cat (P := Tryd.prog) (s := x5_4) (t := (⟨#[101]⟩ : ByteArray)) (y := y477) (by first | (with_reducible assumption) | assumption | exact of_eq_true (by assumption) | omega) Ny477.out
         have hcs28' := Hd.str_cat' (P := Tryd.prog) (s := x5_4) (t := (⟨#[101]⟩ : ByteArray)) (y := y477) (by first | (with_reducible assumption) | assumption | exact of_eq_true (by assumption) | omega) Ny477.out
         have hcs29 := Hd.str_cat (P := Tryd.prog) (s := y477) (t := (⟨#[45]⟩ : ByteArray)) (y := y478) (by first | (with_reducible assumption) | assumption | exact of_eq_true (by assumption) | omega) Ny478.out
         have hcs29' := Hd.str_cat' (P := Tryd.prog) (s := y477) (t := (⟨#[45]⟩ : ByteArray)) (y := y478) (by first | (with_reducible assumption) | assumption | exact of_eq_true (by assumption) | omega) Ny478.out
         go_wp2_with (first | ((with_reducible refine gate_callee (f := 26) rfl ?_); refine gL (some 32) Tryd.func26 #[.int .i64 (wrap64 (-a1))] ?_; (with_reducible refine (Hd.num_IntText.calls (wrap64 (-a1)) t482 _ A26.out).mono ?_); rintro e w30 ⟨rfl, hb⟩; refine ⟨_, rfl, ?_⟩; replace HB := lb HB hb; (try clear hb); (try clear hb2); (try clear hk); (try clear hi); have hcs31 := Hd.str_cat (P := Tryd.prog) (s := y478) (t := t482) (y := y483) (by first | (with_reducible assumption) | assumption | exact of_eq_true (by assumption) | omega) Ny483.out; have hcs31' := Hd.str_cat' (P := Tryd.prog) (s := y478) (t := t482) (y := y483) (by first | (with_reducible assumption) | assumption | exact of_eq_true (by assumption) | omega) Ny483.out))
         go_ret
         exact ex (lk HB)
        rw [if_neg c27] at H
        exact absurd H (by simp)
       rw [if_neg c16] at H
       exact absurd H (by simp)
      rw [if_neg c15] at H
      have c15b0 : decide (a1 < 0) = false := decide_eq_false c15
      clear c15
      by_cases c32 : y477.size + 1 ≤ 9223372036854775807
      ·
       rw [if_pos c32] at H
       have c32b0 := eq_true c32
       have c32b1 : decide (y477.size + 1 ≤ 9223372036854775807) = true := decide_eq_true c32
       try have c32b2 : (9223372036854775807 < y477.size + 1) = False := eq_false (Nat.not_lt.2 c32)
       obtain ⟨y484, hy484⟩ : ∃ y_ : ByteArray, y_ = (y477 ++ (⟨#[43]⟩ : ByteArray)) := ⟨_, rfl⟩
       replace H : (if a1 < 10 then (if y484.size + 1 ≤ 9223372036854775807 then ((some (y484 ++ (⟨#[48]⟩ : ByteArray) : ByteArray)).bind fun y485 => ((Hd.num_IntText.f a1).bind fun t486 => (if y485.size + t486.size ≤ 9223372036854775807 then (some (y485 ++ t486)) else (none)))) else (none)) else ((Hd.num_IntText.f a1).bind fun t488 => (if y484.size + t488.size ≤ 9223372036854775807 then (some (y484 ++ t488)) else (none)))) = some r := by first | (rw [hy484]; with_reducible exact H) | (rw [hy484]; with_reducible exact (hs H :)) | with_reducible exact (hs H :) | with_reducible exact H | (rw [hy484]; exact H) | exact H
       have Ny484 := Aside0.mk hy484
       clear hy484
       by_cases c33 : a1 < 10
       ·
        rw [if_pos c33] at H
        have c33b0 : decide (a1 < 10) = true := decide_eq_true c33
        clear c33
        by_cases c34 : y484.size + 1 ≤ 9223372036854775807
        ·
         rw [if_pos c34] at H
         have c34b0 := eq_true c34
         have c34b1 : decide (y484.size + 1 ≤ 9223372036854775807) = true := decide_eq_true c34
         try have c34b2 : (9223372036854775807 < y484.size + 1) = False := eq_false (Nat.not_lt.2 c34)
         obtain ⟨y485, hy485⟩ : ∃ y_ : ByteArray, y_ = (y484 ++ (⟨#[48]⟩ : ByteArray)) := ⟨_, rfl⟩
         replace H : ((Hd.num_IntText.f a1).bind fun t486 => (if y485.size + t486.size ≤ 9223372036854775807 then (some (y485 ++ t486)) else (none))) = some r := by first | (rw [hy485]; with_reducible exact H) | (rw [hy485]; with_reducible exact (hs H :)) | with_reducible exact (hs H :) | with_reducible exact H | (rw [hy485]; exact H) | exact H
         have Ny485 := Aside0.mk hy485
         clear hy485
         replace H := Option.bind_eq_some_iff.mp H
         obtain ⟨t486, A350, H⟩ := H
         have A35 := Aside0.mk A350
         clear A350
         by_cases c36 : y485.size + t486.size ≤ 9223372036854775807
         ·
          rw [if_pos c36] at H
          have c36b0 := eq_true c36
          have c36b1 : decide (y485.size + t486.size ≤ 9223372036854775807) = true := decide_eq_true c36
          try have c36b2 : (9223372036854775807 < y485.size + t486.size) = False := eq_false (Nat.not_lt.2 c36)
          obtain ⟨y487, hy487⟩ : ∃ y_ : ByteArray, y_ = (y485 ++ t486) := ⟨_, rfl⟩
          replace H : (some y487) = some r := by first | (rw [hy487]; with_reducible exact H) | (rw [hy487]; with_reducible exact (hs H :)) | with_reducible exact (hs H :) | with_reducible exact H | (rw [hy487]; exact H) | exact H
          have Ny487 := Aside0.mk hy487
          clear hy487
          obtain rfl := Option.some.inj H
          have hcs37 := Hd.str_cat (P := Tryd.prog) (s := x5_4) (t := (⟨#[101]⟩ : ByteArray)) (y := y477) (by first | (with_reducible assumption) | assumption | exact of_eq_true (by assumption) | omega) Ny477.out
          have hcs37' := Hd.str_cat' (P := Tryd.prog) (s := x5_4) (t := (⟨#[101]⟩ : ByteArray)) (y := y477) (by first | (with_reducible assumption) | assumption | exact of_eq_true (by assumption) | omega) Ny477.out
          have hcs38 := Hd.str_cat (P := Tryd.prog) (s := y477) (t := (⟨#[43]⟩ : ByteArray)) (y := y484) (by first | (with_reducible assumption) | assumption | exact of_eq_true (by assumption) | omega) Ny484.out
          have hcs38' := Hd.str_cat' (P := Tryd.prog) (s := y477) (t := (⟨#[43]⟩ : ByteArray)) (y := y484) (by first | (with_reducible assumption) | assumption | exact of_eq_true (by assumption) | omega) Ny484.out
          have hcs39 := Hd.str_cat (P := Tryd.prog) (s := y484) (t := (⟨#[48]⟩ : ByteArray)) (y := y485) (by first | (with_reducible assumption) | assumption | exact of_eq_true (by assumption) | omega) Ny485.out
          have hcs39' := Hd.str_cat' (P := Tryd.prog) (s := y484) (t := (⟨#[48]⟩ : ByteArray)) (y := y485) (by first | (with_reducible assumption) | assumption | exact of_eq_true (by assumption) | omega) Ny485.out
          go_wp2_with (first | ((with_reducible refine gate_callee (f := 26) rfl ?_); refine gL (some 32) Tryd.func26 #[.int .i64 a1] ?_; (with_reducible refine (Hd.num_IntText.calls a1 t486 _ A35.out).mono ?_); rintro e w40 ⟨rfl, hb⟩; refine ⟨_, rfl, ?_⟩; replace HB := lb HB hb; (try clear hb); (try clear hb2); (try clear hk); (try clear hi); have hcs41 := Hd.str_cat (P := Tryd.prog) (s := y485) (t := t486) (y := y487) (by first | (with_reducible assumption) | assumption | exact of_eq_true (by assumption) | omega) Ny487.out; have hcs41' := Hd.str_cat' (P := Tryd.prog) (s := y485) (t := t486) (y := y487) (by first | (with_reducible assumption) | assumption | exact of_eq_true (by assumption) | omega) Ny487.out))
          go_ret
          exact ex (lk HB)
         rw [if_neg c36] at H
         exact absurd H (by simp)
        rw [if_neg c34] at H
        exact absurd H (by simp)
       rw [if_neg c33] at H
       have c33b0 : decide (a1 < 10) = false := decide_eq_false c33
       clear c33
       replace H := Option.bind_eq_some_iff.mp H
       obtain ⟨t488, A420, H⟩ := H
       have A42 := Aside0.mk A420
       clear A420
       by_cases c43 : y484.size + t488.size ≤ 9223372036854775807
       ·
        rw [if_pos c43] at H
        have c43b0 := eq_true c43
        have c43b1 : decide (y484.size + t488.size ≤ 9223372036854775807) = true := decide_eq_true c43
        try have c43b2 : (9223372036854775807 < y484.size + t488.size) = False := eq_false (Nat.not_lt.2 c43)
        obtain ⟨y489, hy489⟩ : ∃ y_ : ByteArray, y_ = (y484 ++ t488) := ⟨_, rfl⟩
        replace H : (some y489) = some r := by first | (rw [hy489]; with_reducible exact H) | (rw [hy489]; with_reducible exact (hs H :)) | with_reducible exact (hs H :) | with_reducible exact H | (rw [hy489]; exact H) | exact H
        have Ny489 := Aside0.mk hy489
        clear hy489
        obtain rfl := Option.some.inj H
        have hcs44 := Hd.str_cat (P := Tryd.prog) (s := x5_4) (t := (⟨#[101]⟩ : ByteArray)) (y := y477) (by first | (with_reducible assumption) | assumption | exact of_eq_true (by assumption) | omega) Ny477.out
        have hcs44' := Hd.str_cat' (P := Tryd.prog) (s := x5_4) (t := (⟨#[101]⟩ : ByteArray)) (y := y477) (by first | (with_reducible assumption) | assumption | exact of_eq_true (by assumption) | omega) Ny477.out
        have hcs45 := Hd.str_cat (P := Tryd.prog) (s := y477) (t := (⟨#[43]⟩ : ByteArray)) (y := y484) (by first | (with_reducible assumption) | assumption | exact of_eq_true (by assumption) | omega) Ny484.out
        have hcs45' := Hd.str_cat' (P := Tryd.prog) (s := y477) (t := (⟨#[43]⟩ : ByteArray)) (y := y484) (by first | (with_reducible assumption) | assumption | exact of_eq_true (by assumption) | omega) Ny484.out
        go_wp2_with (first | ((with_reducible refine gate_callee (f := 26) rfl ?_); refine gL (some 32) Tryd.func26 #[.int .i64 a1] ?_; (with_reducible refine (Hd.num_IntText.calls a1 t488 _ A42.out).mono ?_); rintro e w46 ⟨rfl, hb⟩; refine ⟨_, rfl, ?_⟩; replace HB := lb HB hb; (try clear hb); (try clear hb2); (try clear hk); (try clear hi); have hcs47 := Hd.str_cat (P := Tryd.prog) (s := y484) (t := t488) (y := y489) (by first | (with_reducible assumption) | assumption | exact of_eq_true (by assumption) | omega) Ny489.out; have hcs47' := Hd.str_cat' (P := Tryd.prog) (s := y484) (t := t488) (y := y489) (by first | (with_reducible assumption) | assumption | exact of_eq_true (by assumption) | omega) Ny489.out))
        go_ret
        exact ex (lk HB)
       rw [if_neg c43] at H
       exact absurd H (by simp)
      rw [if_neg c32] at H
      exact absurd H (by simp)
     rw [if_neg c14] at H
     exact absurd H (by simp)
  rw [if_neg c4] at H
  exact absurd H (by simp)
 rw [if_neg c3] at H
 exact absurd H (by simp)
mutual
def num_DurationText.j0 : Nat → Int → ByteArray → Option (ByteArray)
 | 0, _, _ => none
 | k + 1, x3, x4 => (num_units.f).bind fun t609 => (num_DurationText.l0 k x3 x4 t609 (t609.length : Int) 0)
def num_DurationText.l0 : Nat → Int → ByteArray → List (S98) → Int → Int → Option (ByteArray)
 | 0, _, _, _, _, _ => none
 | k + 1, x3, x4, x16, x17, x18 => if x18 < x17 then (if 0 ≤ x18 then (if x18 < (x16.length : Int) then (if (IntKind.u64.wrap ((rd_T98 x16 x18).f1)) = 0 then (none) else (if (IntKind.u64.wrap (Int.tdiv x3 (IntKind.u64.wrap ((rd_T98 x16 x18).f1)))) > 0 then ((Hd.num_IntText.f (wrap64 (IntKind.u64.wrap (Int.tdiv x3 (IntKind.u64.wrap ((rd_T98 x16 x18).f1)))))).bind fun t614 => (if t614.size + ((rd_T98 x16 x18).f0).size ≤ 9223372036854775807 then ((some (t614 ++ ((rd_T98 x16 x18).f0) : ByteArray)).bind fun y615 => (if x4.size + y615.size ≤ 9223372036854775807 then (num_DurationText.l0 k (Int.tmod x3 (IntKind.u64.wrap ((rd_T98 x16 x18).f1))) (x4 ++ y615) x16 x17 (wrap64 (x18 + 1))) else (none))) else (none))) else (num_DurationText.l0 k x3 x4 x16 x17 (wrap64 (x18 + 1))))) else (none)) else (none)) else (some x4)
end
def num_DurationText.f (k : Nat) (a0 : Int) : Option (ByteArray) := if a0 = 0 then (some (⟨#[48, 115]⟩ : ByteArray)) else (if a0 < 0 then (num_DurationText.j0 k (IntKind.u64.wrap (-(IntKind.u64.wrap (a0)))) (⟨#[45]⟩ : ByteArray)) else (num_DurationText.j0 k (IntKind.u64.wrap (a0)) (⟨#[]⟩ : ByteArray)))
theorem num_DurationText.mono_l : ∀ k, (∀ y0 y1, LeO (num_DurationText.j0 k y0 y1) (num_DurationText.j0 (k + 1) y0 y1)) ∧ (∀ y0 y1 y2 y3 y4, LeO (num_DurationText.l0 k y0 y1 y2 y3 y4) (num_DurationText.l0 (k + 1) y0 y1 y2 y3 y4))
 | 0 => ⟨fun _ _ r h => by simp [num_DurationText.j0] at h, fun _ _ _ _ _ r h => by simp [num_DurationText.l0] at h⟩
 | k + 1 => by
  obtain ⟨ih0, ih1⟩ := num_DurationText.mono_l k
  refine ⟨?_, ?_⟩
  ·
   intro y0 y1
   unfold num_DurationText.j0
   repeat' (with_reducible first | exact ih0 _ _ | exact ih1 _ _ _ _ _ | exact LeO.refl _ | exact LeO.none _ | refine LeO.ite ?_ ?_ | refine LeO.bind ?_ (fun _ => ?_))
  intro y0 y1 y2 y3 y4
  unfold num_DurationText.l0
  repeat' (with_reducible first | exact ih0 _ _ | exact ih1 _ _ _ _ _ | exact LeO.refl _ | exact LeO.none _ | refine LeO.ite ?_ ?_ | refine LeO.bind ?_ (fun _ => ?_))
theorem num_DurationText.mono : ∀ a0 k, LeO (num_DurationText.f k a0) (num_DurationText.f (k + 1) a0) := by
 intro a0 k
 obtain ⟨ih0, ih1⟩ := num_DurationText.mono_l k
 unfold num_DurationText.f
 repeat' (with_reducible first | exact ih0 _ _ | exact ih1 _ _ _ _ _ | exact LeO.refl _ | exact LeO.none _ | refine LeO.ite ?_ ?_ | refine LeO.bind ?_ (fun _ => ?_))
def num_DurationText.T11 : Bool × List (List Nat × List Nat) := (true, [([], []), ([], []), ([1], [1]), ([2], [2]), ([], []), ([4], [4]), ([3, 5], [3, 5]), ([0, 6], [0, 6]), ([7, 3, 0, 1, 2, 3, 4, 5, 6, 7], [0, 7])])
def num_DurationText.B11 : List Nat := [0, 0, 2, 6, 0, 16, 62, 127, 255]
theorem num_DurationText.tab11 : rtab .any (opsOf Tryd.f38 11) = num_DurationText.T11 := by kernel_rfl
theorem num_DurationText.bits11 : waitsOk num_DurationText.T11.2 num_DurationText.B11 = true := by kernel_rfl
set_option maxHeartbeats 8000000 in
set_option maxRecDepth 100000 in
theorem num_DurationText.calls (k : Nat) (a0 : Int) (r : ByteArray) (w : World) (h : num_DurationText.f k a0 = some r) :
  Calls Tryd.prog 38 #[.int .i64 a0] w fun e w' => e = .returned (.string r) ∧ Below w.heap.size w w' := by
 have hu98 := Tryd.underlying98
 have HB := Aside0.mk (Below.refl w.heap.size w)
 have H : (if a0 = 0 then (some (⟨#[48, 115]⟩ : ByteArray)) else (if a0 < 0 then (num_DurationText.j0 k (IntKind.u64.wrap (-(IntKind.u64.wrap (a0)))) (⟨#[45]⟩ : ByteArray)) else (num_DurationText.j0 k (IntKind.u64.wrap (a0)) (⟨#[]⟩ : ByteArray)))) = some r := h
 clear h
 by_cases c2 : a0 = 0
 ·
  rw [if_pos c2] at H
  have c2b0 : (a0 == 0) = true := beq_iff_eq.mpr c2
  have c2b1 : (a0 != 0) = false := bne_eq_false_iff_eq.mpr c2
  clear c2
  obtain rfl := Option.some.inj H
  go_enter Tryd.func38, Tryd.ntmps38
  go_wp2
  go_ret
  exact ex (lk HB)
 rw [if_neg c2] at H
 have c2b0 : (a0 == 0) = false := beq_eq_false_iff_ne.mpr c2
 have c2b1 : (a0 != 0) = true := bne_iff_ne.mpr c2
 have HC3 := Aside0.mk H
 clear H
 go_enter Tryd.func38, Tryd.ntmps38
 go_upto_if 13 with (fail)
 go_cut [3, 4] (fun v3 v4 wc => ∃ (kq : Nat) (x3_2 : Int) (x4_2 : ByteArray), v3 = .int .u64 x3_2 ∧ v4 = .string x4_2 ∧ Aside0 (num_DurationText.j0 kq x3_2 x4_2 = some r) ∧ Aside0 (kq ≤ k) ∧ Aside0 (Below w.heap.size w wc))
 case first =>
  have H := HC3.out
  clear HC3
  by_cases c4 : a0 < 0
  ·
   rw [if_pos c4] at H
   have c4b0 : decide (a0 < 0) = true := decide_eq_true c4
   clear c4
   (first | rw [c4b0] | (simp only [i64_w, i32_w]; rw [c4b0]) | skip)
   have H' := Aside0.mk H
   clear H
   go_wp2
   go_meet
   case rel => exact ⟨_, (IntKind.u64.wrap (-(IntKind.u64.wrap (a0)))), ((⟨#[45]⟩ : ByteArray)), (by first | rfl | (simp; done) | (simp [*]; done)), (by first | rfl | (simp; done) | (simp [*]; done)), H', ⟨by first | omega | exact Nat.le_refl _⟩, ⟨lk HB⟩⟩
  rw [if_neg c4] at H
  have c4b0 : decide (a0 < 0) = false := decide_eq_false c4
  clear c4
  (first | rw [c4b0] | (simp only [i64_w, i32_w]; rw [c4b0]) | skip)
  have H' := Aside0.mk H
  clear H
  go_wp2
  go_meet
  case rel => exact ⟨_, (IntKind.u64.wrap (a0)), ((⟨#[]⟩ : ByteArray)), (by first | rfl | (simp; done) | (simp [*]; done)), (by first | rfl | (simp; done) | (simp [*]; done)), H', ⟨by first | omega | exact Nat.le_refl _⟩, ⟨lk HB⟩⟩
 case rest =>
  clear HC3
  try clear c2
  try clear c2b0
  try clear c2b1
  try clear p2
  try clear c3
  try clear c4
  try clear c4b0
  obtain ⟨kq, x3_2, x4_2, rfl, rfl, HA, HJ2, HB⟩ := hcut
  cases kq with
  | zero => exact absurd HA.out (by simp [num_DurationText.j0])
  | succ kj2 =>
   have H := HA.out
   clear HA
   simp only [num_DurationText.j0] at H
   replace H := Option.bind_eq_some_iff.mp H
   obtain ⟨t609, A50, H⟩ := H
   have A5 := Aside0.mk A50
   clear A50
   have H' := Aside0.mk H
   clear H
   go_wp2_with (first | ((with_reducible refine gate_callee (f := 77) rfl ?_); refine gL (some 16) Tryd.func77 #[] ?_; (with_reducible refine (num_units.calls  t609 _ A5.out).mono ?_); rintro e w6 ⟨v610, rfl, ho0, hb⟩; refine ⟨_, rfl, ?_⟩; have HO611 := Aside0.mk (Kd.R_lower ho0 (below_size (lk HB))); replace HB := lb HB hb; (try clear hb); (try clear hb2); (try clear hk); (try clear hi); (try clear ho0); obtain ⟨Ao7, co7, eo7⟩ := Kd.R_slice HO611.out; subst eo7))
   go_loopg [3, 4, 18] kj2 (fun kq v3 v4 v18 w' => ∃ (x3_2 : Int) (x4_2 : ByteArray) (x18_2 : Int), v3 = .int .u64 x3_2 ∧ v4 = .string x4_2 ∧ v18 = .int .i64 x18_2 ∧ Aside0 (num_DurationText.l0 kq x3_2 x4_2 t609 (t609.length : Int) x18_2 = some r) ∧ Aside0 (kq ≤ kj2) ∧ Aside0 (Kd.R k98 98 w' w.heap.size (fun _ => True) (.slice Ao7 t609.length co7) t609) ∧ Aside0 (Below w.heap.size w w'))
   case atStart => exact ⟨(x3_2), (x4_2), (0), (by first | rfl | (simp; done) | (simp [*]; done)), (by first | rfl | (simp; done) | (simp [*]; done)), (by first | rfl | (simp; done) | (simp [*]; done)), H', ⟨Nat.le_refl _⟩, ⟨rk HO611⟩, ⟨lk HB⟩⟩
   case round =>
    clear H'
    try clear c2
    try clear c2b0
    try clear c2b1
    try clear p2
    try clear c3
    try clear c4
    try clear c4b0
    try clear c7
    try clear p2
    obtain ⟨x3_2, x4_2, x18_2, rfl, rfl, rfl, HA, HK2, HO_16, HB⟩ := hrel
    cases gk with
    | zero => exact absurd HA.out (by simp [num_DurationText.l0])
    | succ k2 =>
     have H := HA.out
     clear HA
     simp only [num_DurationText.l0] at H
     by_cases c8 : x18_2 < (t609.length : Int)
     ·
      rw [if_pos c8] at H
      have c8b0 : decide (x18_2 < (t609.length : Int)) = true := decide_eq_true c8
      clear c8
      by_cases c9 : 0 ≤ x18_2
      ·
       rw [if_pos c9] at H
       have c9b0 : decide (0 ≤ x18_2) = true := decide_eq_true c9
       clear c9
       by_cases c10 : x18_2 < (t609.length : Int)
       ·
        rw [if_pos c10] at H
        have c10b0 : decide (x18_2 < (t609.length : Int)) = true := decide_eq_true c10
        clear c10
        by_cases c11 : (IntKind.u64.wrap ((rd_T98 t609 x18_2).f1)) = 0
        ·
         rw [if_pos c11] at H
         exact absurd H (by simp)
        rw [if_neg c11] at H
        have c11b0 : ((IntKind.u64.wrap ((rd_T98 t609 x18_2).f1)) == 0) = false := beq_eq_false_iff_ne.mpr c11
        have c11b1 : ((IntKind.u64.wrap ((rd_T98 t609 x18_2).f1)) != 0) = true := bne_iff_ne.mpr c11
        by_cases c12 : (IntKind.u64.wrap (Int.tdiv x3_2 (IntKind.u64.wrap ((rd_T98 t609 x18_2).f1)))) > 0
        ·
         rw [if_pos c12] at H
         have c12b0 : decide (0 < (IntKind.u64.wrap (Int.tdiv x3_2 (IntKind.u64.wrap ((rd_T98 t609 x18_2).f1))))) = true := decide_eq_true c12
         clear c12
         replace H := Option.bind_eq_some_iff.mp H
         obtain ⟨t614, A130, H⟩ := H
         have A13 := Aside0.mk A130
         clear A130
         by_cases c14 : t614.size + ((rd_T98 t609 x18_2).f0).size ≤ 9223372036854775807
         ·
          rw [if_pos c14] at H
          have c14b0 := eq_true c14
          have c14b1 : decide (t614.size + ((rd_T98 t609 x18_2).f0).size ≤ 9223372036854775807) = true := decide_eq_true c14
          try have c14b2 : (9223372036854775807 < t614.size + ((rd_T98 t609 x18_2).f0).size) = False := eq_false (Nat.not_lt.2 c14)
          obtain ⟨y615, hy615⟩ : ∃ y_ : ByteArray, y_ = (t614 ++ ((rd_T98 t609 x18_2).f0)) := ⟨_, rfl⟩
          replace H : (if x4_2.size + y615.size ≤ 9223372036854775807 then (num_DurationText.l0 k2 (Int.tmod x3_2 (IntKind.u64.wrap ((rd_T98 t609 x18_2).f1))) (x4_2 ++ y615) t609 (t609.length : Int) (wrap64 (x18_2 + 1))) else (none)) = some r := by first | (rw [hy615]; with_reducible exact H) | (rw [hy615]; with_reducible exact (hs H :)) | with_reducible exact (hs H :) | with_reducible exact H | (rw [hy615]; exact H) | exact H
          have Ny615 := Aside0.mk hy615
          clear hy615
          by_cases c15 : x4_2.size + y615.size ≤ 9223372036854775807
          ·
           rw [if_pos c15] at H
           have c15b0 := eq_true c15
           have c15b1 : decide (x4_2.size + y615.size ≤ 9223372036854775807) = true := decide_eq_true c15
           try have c15b2 : (9223372036854775807 < x4_2.size + y615.size) = False := eq_false (Nat.not_lt.2 c15)
           obtain ⟨y616, hy616⟩ : ∃ y_ : ByteArray, y_ = (x4_2 ++ y615) := ⟨_, rfl⟩
           replace H : (num_DurationText.l0 k2 (Int.tmod x3_2 (IntKind.u64.wrap ((rd_T98 t609 x18_2).f1))) y616 t609 (t609.length : Int) (wrap64 (x18_2 + 1))) = some r := by first | (rw [hy616]; with_reducible exact H) | (rw [hy616]; with_reducible exact (hs H :)) | with_reducible exact (hs H :) | with_reducible exact H | (rw [hy616]; exact H) | exact H
           have Ny616 := Aside0.mk hy616
           clear hy616
           have H' := Aside0.mk H
           clear H
           have p612 : 0 ≤ (x18_2 : Int) := of_decide_eq_true (by first | (with_reducible assumption) | assumption)
           have q612 : x18_2 < (t609.length : Int) := of_decide_eq_true (by first | (with_reducible assumption) | assumption)
           obtain ⟨ad612, e612, hx612_0, hx612_1⟩ := at_T98 (Kd.R_reads' HO_16.out).2.2 x18_2 p612 q612
           cases e612
           replace p612 := eq_true p612
           replace q612 := eq_true q612
           try go_wp2_with (first | ((with_reducible refine gate_dst (N := 6) rfl ?_); refine box_event ?hg (N := 6) ?hd (cs := #[.string (⟨#[]⟩ : ByteArray), .int .i64 0]) (t := 98) ?hr ?_; (case hd => rfl); (case hg => rfl); (case hr => first | (go_simp; done) | (go_simp; rfl)); intro gb613 hg w16 hbox hb; replace HO_16 := Aside0.mk (Kd.R_below (Kd.R_elderB (rk HO_16) gb613 (Nat.le_of_eq hg.symm)) hb); have BK613 := Aside0.mk (hbox); have GW613 := Aside0.mk ((by rw [hg]; exact (below_size (lk HB)) : w.heap.size ≤ gb613)); have GE613 := Aside0.mk ((by rw [hg]; exact (below_size (lk HB)) : w.heap.size ≤ gb613)); replace HB := lb HB hb; clear hb hbox hg; have hcz17_0 : w16.cell? ⟨gb613, 0, none⟩ = some (.string (⟨#[]⟩ : ByteArray)) := (blk_cell BK613.out 0).trans rfl; have hcz17_1 : w16.cell? ⟨gb613, 1, none⟩ = some (.int .i64 0) := (blk_cell BK613.out 1).trans rfl; have hfz17_0 := blk_frozen BK613.out 0; have hfz17_1 := blk_frozen BK613.out 1))
           (first | refine Hd.letter_ (fun w18 hw => ?_) | refine Hd.letterL_ (fun w18 hw => ?_) | refine Hd.letterE_ (fun w18 hw => ?_))
           have n0_ : Aside0 (Kd.R k98 98 w18 w.heap.size (fun k_ => k_ ≠ gb613) (.slice (some ad612) t609.length co7) t609) := ⟨by rw [hw]; exact (by (with_reducible repeat (first | apply Kd.R_alloc | apply Kd.R_drewN | apply Kd.R_drew)); exact Kd.R_mono (Kd.R_far (p := ⟨gb613, 1, none⟩) (Kd.R_far (p := ⟨gb613, 0, none⟩) (Kd.R_mono HO_16.out (fun k_ hk => (⟨hk, hk.2⟩ : _ ∧ k_ ≠ gb613))) (fun _ hk => hk.2) (.string ((rd_T98 t609 x18_2).f0))) (fun _ hk => hk.2) (.int .i64 ((rd_T98 t609 x18_2).f1))) (fun _ hk => hk.1.2))⟩
           have n1_ : Aside0 (w18.heap[gb613]? = some (.cells #[.string ((rd_T98 t609 x18_2).f0), .int .i64 ((rd_T98 t609 x18_2).f1)] 98 (0, 0))) := ⟨by rw [hw]; exact (by (with_reducible repeat (first | refine blk_drewN ?_ _ | refine blk_drew ?_ | refine blk_alloc ?_ _)); refine blk_put (cs := #[.string ((rd_T98 t609 x18_2).f0), .int .i64 0]) ?_ 1 _ rfl; (with_reducible repeat (first | refine blk_drewN ?_ _ | refine blk_drew ?_ | refine blk_alloc ?_ _)); refine blk_put (cs := #[.string (⟨#[]⟩ : ByteArray), .int .i64 0]) ?_ 0 _ rfl; (with_reducible repeat (first | refine blk_drewN ?_ _ | refine blk_drew ?_ | refine blk_alloc ?_ _)); exact BK613.out)⟩
           have n2_ : Aside0 (Below w.heap.size w w18) := ⟨by rw [hw]; exact (lk HB)⟩
           clear hw
           (try clear HO_16)
           (try clear BK613)
           (try clear HB)
           have HO_16 := n0_
           have BK613 := n1_
           have HB := n2_
           clear n0_ n1_ n2_
           have n0_ := Aside0.mk (Kd.R_drew HO_16.out)
           have n1_ := Aside0.mk (blk_drew BK613.out)
           have n2_ := Aside0.mk (below_drew1 HB.out)
           clear HO_16
           clear BK613
           clear HB
           have HO_16 := n0_
           have BK613 := n1_
           have HB := n2_
           clear n0_ n1_ n2_
           refine start_ (n := 9) (S := fun w' => w'.cell? ⟨gb613, 0, none⟩ = some (.string ((rd_T98 t609 x18_2).f0)) ∧ w'.cell? ⟨gb613, 1, none⟩ = some (.int .i64 ((rd_T98 t609 x18_2).f1))) (ds := []) #[false, false, false, false, false, false, false, false, false] (by kernel_rfl) rfl rfl ⟨(blk_cell BK613.out 0).trans rfl, (blk_cell BK613.out 1).trans rfl⟩ (fun hHeld => ?_); refine with_tabW num_DurationText.tab11 num_DurationText.bits11 (fun HT_ HW_ => ?_)
           generalize w18.drew = w19 at HO_16 BK613 HB hHeld ⊢
           refine pure_ (i := 0) (N := some 29) (v := ?_) (a' := ?_) #[true, false, false, false, false, false, false, false, false] rfl rfl (any_of HT_.out (by kernel_rfl)) (fun _ _ _ h => h) (Or.inl ⟨by rfl, ?_⟩) ?_ ?_
           rotate_left
           ·
            intro w'
            go_simp
            with_reducible rfl
           rotate_left
           ·
            simp only [Act.put, List.setIfInBounds_toArray, List.set_cons_zero, List.set_cons_succ, i64_w, i32_w]
            rfl
           refine pure_ (i := 1) (N := some 30) (v := ?_) (a' := ?_) #[true, true, false, false, false, false, false, false, false] rfl rfl (any_of HT_.out (by kernel_rfl)) (fun _ _ _ h => h) (Or.inl ⟨by rfl, ?_⟩) ?_ ?_
           rotate_left
           ·
            intro w'
            go_simp
            with_reducible rfl
           rotate_left
           ·
            simp only [Act.put, List.setIfInBounds_toArray, List.set_cons_zero, List.set_cons_succ, i64_w, i32_w]
            rfl
           refine pure_ (i := 2) (N := some 31) (v := ?_) (a' := ?_) #[true, true, true, false, false, false, false, false, false] rfl rfl (any_of HT_.out (by kernel_rfl)) (fun _ _ _ h => h) (Or.inl ⟨by rfl, ?_⟩) ?_ ?_
           rotate_left
           ·
            intro w'
            go_simp
            with_reducible rfl
           rotate_left
           ·
            simp only [Act.put, List.setIfInBounds_toArray, List.set_cons_zero, List.set_cons_succ, i64_w, i32_w]
            rfl
           refine pure_ (i := 4) (N := some 33) (v := ?_) (a' := ?_) #[true, true, true, false, true, false, false, false, false] rfl rfl (any_of HT_.out (by kernel_rfl)) (fun _ _ _ h => h) (Or.inl ⟨by rfl, ?_⟩) ?_ ?_
           rotate_left
           ·
            intro w'
            go_simp
            with_reducible rfl
           rotate_left
           ·
            simp only [Act.put, List.setIfInBounds_toArray, List.set_cons_zero, List.set_cons_succ, i64_w, i32_w]
            rfl
           refine take_ (i := 5) (N := some 34) (v := ?_) (a' := ?_) #[true, true, true, false, true, true, false, false, false] rfl rfl (take_ofW HT_.out HW_.out (by kernel_rfl)) (fun _ _ _ h => h) (Or.inl ⟨by rfl, ?_⟩) hHeld ?_ ?_
           rotate_left
           ·
            rintro w' ⟨s0, s1⟩
            go_simp
            with_reducible rfl
           rotate_left
           ·
            simp only [Act.put, List.setIfInBounds_toArray, List.set_cons_zero, List.set_cons_succ, i64_w, i32_w]
            rfl
           refine one_ (i := 3) (N := some 32) #[true, true, true, true, true, true, false, false, false] rfl rfl (one_of HT_.out (by kernel_rfl)) (by decide) (fun K hK => ?_)
           refine goes_ Tryd.func26 (by kernel_rfl) rfl #[.int .i64 (wrap64 (IntKind.u64.wrap (Int.tdiv x3_2 (IntKind.u64.wrap ((rd_T98 t609 x18_2).f1)))))] (by rfl) rfl rfl (by (try simp only [List.map_toArray, List.map_cons, List.map_nil]); first | done | rfl | (simp only [List.length_drop, List.length_take]; rfl) | (simp [Act.eval, Hd.wrap_u8]; done)) ?_
           with_reducible refine (Hd.num_IntText.calls (wrap64 (IntKind.u64.wrap (Int.tdiv x3_2 (IntKind.u64.wrap ((rd_T98 t609 x18_2).f1))))) t614 _ A13.out).mono ?_
           rintro e w20 ⟨rfl, hb⟩
           refine ⟨_, rfl, ?_⟩
           have n0_ := Aside0.mk (Kd.R_below (rk HO_16) hb)
           have n1_ := bb BK613 hb
           have n2_ := lb HB hb
           clear HO_16
           clear BK613
           clear HB
           have HO_16 := n0_
           have BK613 := n1_
           have HB := n2_
           clear n0_ n1_ n2_
           (try clear hb)
           (try clear hb2)
           (try clear hk)
           (try clear hi)
           have hcs21 := Hd.str_cat (P := Tryd.prog) (s := t614) (t := ((rd_T98 t609 x18_2).f0)) (y := y615) (by first | (with_reducible assumption) | assumption | exact of_eq_true (by assumption) | omega) Ny615.out
           have hcs21' := Hd.str_cat' (P := Tryd.prog) (s := t614) (t := ((rd_T98 t609 x18_2).f0)) (y := y615) (by first | (with_reducible assumption) | assumption | exact of_eq_true (by assumption) | omega) Ny615.out
           have hcs22 := Hd.str_cat (P := Tryd.prog) (s := x4_2) (t := y615) (y := y616) (by first | (with_reducible assumption) | assumption | exact of_eq_true (by assumption) | omega) Ny616.out
           have hcs22' := Hd.str_cat' (P := Tryd.prog) (s := x4_2) (t := y615) (y := y616) (by first | (with_reducible assumption) | assumption | exact of_eq_true (by assumption) | omega) Ny616.out
           refine hK.out _ _ ⟨(blk_cell BK613.out 0).trans rfl, (blk_cell BK613.out 1).trans rfl⟩ (fun hHeld => ?_)
           clear hK K
           refine norm_ (a' := ?_) ?_ ?_
           rotate_left
           ·
            show Act.put _ (some 32) _ = _
            simp only [Act.put, List.setIfInBounds_toArray, List.set_cons_zero, List.set_cons_succ, i64_w, i32_w]
            rfl
           refine pure_ (i := 6) (N := some 35) (v := ?_) (a' := ?_) #[true, true, true, true, true, true, true, false, false] rfl rfl (any_of HT_.out (by kernel_rfl)) (fun _ _ _ h => h) (Or.inl ⟨by rfl, ?_⟩) ?_ ?_
           rotate_left
           ·
            intro w'
            go_simp
            with_reducible rfl
           rotate_left
           ·
            simp only [Act.put, List.setIfInBounds_toArray, List.set_cons_zero, List.set_cons_succ, i64_w, i32_w]
            rfl
           refine pure_ (i := 7) (N := some 36) (v := ?_) (a' := ?_) #[true, true, true, true, true, true, true, true, false] rfl rfl (any_of HT_.out (by kernel_rfl)) (fun _ _ _ h => h) (Or.inl ⟨by rfl, ?_⟩) ?_ ?_
           rotate_left
           ·
            intro w'
            go_simp
            with_reducible rfl
           rotate_left
           ·
            simp only [Act.put, List.setIfInBounds_toArray, List.set_cons_zero, List.set_cons_succ, i64_w, i32_w]
            rfl
           refine pure_ (i := 8) (N := some 4) (v := ?_) (a' := ?_) #[true, true, true, true, true, true, true, true, true] rfl rfl (any_of HT_.out (by kernel_rfl)) (fun _ _ _ h => h) (Or.inl ⟨by rfl, ?_⟩) ?_ ?_
           rotate_left
           ·
            intro w'
            go_simp
            with_reducible rfl
           rotate_left
           ·
            simp only [Act.put, List.setIfInBounds_toArray, List.set_cons_zero, List.set_cons_succ, i64_w, i32_w]
            rfl
           refine done_ (done_of HT_.out (by kernel_rfl)) ?_
           have hcz23_0 : w20.cell? ⟨gb613, 0, none⟩ = some (.string ((rd_T98 t609 x18_2).f0)) := (blk_cell BK613.out 0).trans rfl
           have hcz23_1 : w20.cell? ⟨gb613, 1, none⟩ = some (.int .i64 ((rd_T98 t609 x18_2).f1)) := (blk_cell BK613.out 1).trans rfl
           have hfz23_0 := blk_frozen BK613.out 0
           have hfz23_1 := blk_frozen BK613.out 1
           try go_wp2
           go_roundg k2
           case measure => have := HJ2.out; have := HK2.out; omega
           case rel => exact ⟨(Int.tmod x3_2 (IntKind.u64.wrap ((rd_T98 t609 x18_2).f1))), (y616), (wrap64 (x18_2 + 1)), (by first | rfl | (simp; done) | (simp [*]; done)), (by first | rfl | (simp; done) | (simp [*]; done)), (by first | rfl | (simp; done) | (simp [*]; done)), H', ⟨by have := HJ2.out; have := HK2.out; omega⟩, ⟨by (with_reducible repeat (first | apply Kd.R_alloc | apply Kd.R_drewN | apply Kd.R_drew)); exact Kd.R_mono HO_16.out (fun _ hk => trivial)⟩, ⟨lk HB⟩⟩
          rw [if_neg c15] at H
          exact absurd H (by simp)
         rw [if_neg c14] at H
         exact absurd H (by simp)
        rw [if_neg c12] at H
        have c12b0 : decide (0 < (IntKind.u64.wrap (Int.tdiv x3_2 (IntKind.u64.wrap ((rd_T98 t609 x18_2).f1))))) = false := decide_eq_false c12
        clear c12
        have H' := Aside0.mk H
        clear H
        have p612 : 0 ≤ (x18_2 : Int) := of_decide_eq_true (by first | (with_reducible assumption) | assumption)
        have q612 : x18_2 < (t609.length : Int) := of_decide_eq_true (by first | (with_reducible assumption) | assumption)
        obtain ⟨ad612, e612, hx612_0, hx612_1⟩ := at_T98 (Kd.R_reads' HO_16.out).2.2 x18_2 p612 q612
        cases e612
        replace p612 := eq_true p612
        replace q612 := eq_true q612
        go_wp2_with (first | ((with_reducible refine gate_dst (N := 6) rfl ?_); refine box_event ?hg (N := 6) ?hd (cs := #[.string (⟨#[]⟩ : ByteArray), .int .i64 0]) (t := 98) ?hr ?_; (case hd => rfl); (case hg => rfl); (case hr => first | (go_simp; done) | (go_simp; rfl)); intro gb613 hg w24 hbox hb; replace HO_16 := Aside0.mk (Kd.R_below (Kd.R_elderB (rk HO_16) gb613 (Nat.le_of_eq hg.symm)) hb); have BK613 := Aside0.mk (hbox); have GW613 := Aside0.mk ((by rw [hg]; exact (below_size (lk HB)) : w.heap.size ≤ gb613)); have GE613 := Aside0.mk ((by rw [hg]; exact (below_size (lk HB)) : w.heap.size ≤ gb613)); replace HB := lb HB hb; clear hb hbox hg; have hcz25_0 : w24.cell? ⟨gb613, 0, none⟩ = some (.string (⟨#[]⟩ : ByteArray)) := (blk_cell BK613.out 0).trans rfl; have hcz25_1 : w24.cell? ⟨gb613, 1, none⟩ = some (.int .i64 0) := (blk_cell BK613.out 1).trans rfl; have hfz25_0 := blk_frozen BK613.out 0; have hfz25_1 := blk_frozen BK613.out 1))
        go_roundg k2
        case measure => have := HJ2.out; have := HK2.out; omega
        case rel => exact ⟨(x3_2), (x4_2), (wrap64 (x18_2 + 1)), (by first | rfl | (simp; done) | (simp [*]; done)), (by first | rfl | (simp; done) | (simp [*]; done)), (by first | rfl | (simp; done) | (simp [*]; done)), H', ⟨by have := HJ2.out; have := HK2.out; omega⟩, ⟨by (with_reducible repeat (first | apply Kd.R_alloc | apply Kd.R_drewN | apply Kd.R_drew)); exact Kd.R_mono (Kd.R_far (p := ⟨gb613, 1, none⟩) (Kd.R_far (p := ⟨gb613, 0, none⟩) (Kd.R_mono HO_16.out (fun k_ hk => (⟨hk, hk.2⟩ : _ ∧ k_ ≠ gb613))) (fun _ hk => hk.2) (.string ((rd_T98 t609 x18_2).f0))) (fun _ hk => hk.2) (.int .i64 ((rd_T98 t609 x18_2).f1))) (fun _ hk => trivial)⟩, ⟨lk HB⟩⟩
       rw [if_neg c10] at H
       exact absurd H (by simp)
      rw [if_neg c9] at H
      exact absurd H (by simp)
     rw [if_neg c8] at H
     have c8b0 : decide (x18_2 < (t609.length : Int)) = false := decide_eq_false c8
     clear c8
     obtain rfl := Option.some.inj H
     go_wp2
     go_ret
     exact ex (lk HB)
end Go.Proofs.YtjlnfnfdibfniaaDoor.F
namespace Go.Proofs.YtjlnfnfdibfniaaDoor.Pl
def Runs {α : Type} (g : Nat → Option α) (r : α) : Prop := ∃ K, ∀ k, K ≤ k → g k = some r
theorem Runs.suc {α : Type} {g : Nat → Option α} {r : α} (h : Runs (fun k => g (k + 1)) r) : Runs g r := by
 obtain ⟨K, h⟩ := h
 refine ⟨K + 1, fun k hk => ?_⟩
 obtain ⟨k, rfl⟩ : ∃ j, k = j + 1 := ⟨k - 1, by omega⟩
 exact h k (by omega)
theorem Runs.bind {α β : Type} {g : Nat → Option α} {h : Nat → α → Option β} {a : α} {b : β} (hg : Runs g a) (hh : Runs (fun k => h k a) b) : Runs (fun k => (g k).bind (h k)) b := by
 obtain ⟨K, hg⟩ := hg
 obtain ⟨L, hh⟩ := hh
 exact ⟨max K L, fun k hk => by show (g k).bind (h k) = _; rw [hg k (by omega), Option.bind_some]; exact hh k (by omega)⟩
theorem Runs.pure {α : Type} (a : α) : Runs (fun _ => some a) a := ⟨0, fun _ _ => rfl⟩
theorem Runs.yes {α : Type} {c : Prop} [Decidable c] {A B : Nat → Option α} {r : α} (h : c) (hA : Runs A r) : Runs (fun k => if c then A k else B k) r := by
 obtain ⟨K, hA⟩ := hA
 exact ⟨K, fun k hk => by show (if c then A k else B k) = _; rw [if_pos h]; exact hA k hk⟩
theorem Runs.no {α : Type} {c : Prop} [Decidable c] {A B : Nat → Option α} {r : α} (h : ¬ c) (hB : Runs B r) : Runs (fun k => if c then A k else B k) r := by
 obtain ⟨K, hB⟩ := hB
 exact ⟨K, fun k hk => by show (if c then A k else B k) = _; rw [if_neg h]; exact hB k hk⟩
theorem Runs.of {α : Type} {g : Nat → Option α} {a b : α} (h : Runs g a) (e : a = b) : Runs g b := e ▸ h
theorem Runs.eq {α : Type} {g g' : Nat → Option α} {a : α} (e : ∀ k, g k = g' k) (h : Runs g' a) : Runs g a := by
 have : g = g' := funext e
 rw [this]; exact h
def lim (B n : Nat) : List Int := if _h : n = 0 ∨ B < 2 then [] else ((n % B : Nat) : Int) :: lim B (n / B)
termination_by n
decreasing_by exact Nat.div_lt_self (by omega) (by omega)
def nv (B : Nat) : List Int → Nat
 | [] => 0
 | x :: xs => x.toNat + B * nv B xs
def Wf (B : Nat) (l : List Int) : Prop := ∀ x ∈ l, 0 ≤ x ∧ x < (B : Int)
theorem lim_zero (B : Nat) : lim B 0 = [] := by rw [lim]; simp
theorem lim_pos {B n : Nat} (hB : 2 ≤ B) (h : 0 < n) : lim B n = ((n % B : Nat) : Int) :: lim B (n / B) := by
 rw [lim, dif_neg (by omega)]
theorem lim_ind {P : Nat → Prop} {B : Nat} (hB : 2 ≤ B) (h0 : P 0) (h1 : ∀ n, 0 < n → P (n / B) → P n) (n : Nat) : P n := by
 induction n using Nat.strongRecOn with
 | ind n ih =>
  rcases Nat.eq_zero_or_pos n with rfl | h
  ·
   exact h0
  ·
   exact h1 n h (ih _ (Nat.div_lt_self h hB))
theorem nv_lim {B : Nat} (hB : 2 ≤ B) (n : Nat) : nv B (lim B n) = n := by
 refine lim_ind (P := fun n => nv B (lim B n) = n) hB ?_ ?_ n
 ·
  rw [lim_zero]; rfl
 ·
  intro n h ih
  rw [lim_pos hB h, nv, ih, Int.toNat_natCast]
  exact Nat.mod_add_div n B
theorem wf_lim {B : Nat} (hB : 2 ≤ B) (n : Nat) : Wf B (lim B n) := by
 refine lim_ind (P := fun n => Wf B (lim B n)) hB ?_ ?_ n
 ·
  rw [lim_zero]; intro x hx; cases hx
 ·
  intro n h ih
  rw [lim_pos hB h]
  intro x hx
  rcases List.mem_cons.1 hx with rfl | hx
  ·
   exact ⟨Int.natCast_nonneg _, Int.ofNat_lt.2 (Nat.mod_lt _ (by omega))⟩
  ·
   exact ih x hx
theorem nv_append (B : Nat) (a b : List Int) : nv B (a ++ b) = nv B a + B ^ a.length * nv B b := by
 induction a with
 | nil => simp [nv]
 | cons x a ih =>
  rw [List.cons_append, nv, ih, nv, List.length_cons, Nat.pow_succ, Nat.mul_add, Nat.add_assoc, ← Nat.mul_assoc, Nat.mul_comm B (B ^ a.length)]
theorem nv_one (B : Nat) (x : Int) : nv B [x] = x.toNat := by simp [nv]
theorem Wf.nil (B : Nat) : Wf B [] := fun x hx => by cases hx
theorem Wf.append {B : Nat} {a b : List Int} (ha : Wf B a) (hb : Wf B b) : Wf B (a ++ b) := by
 intro x hx
 rcases List.mem_append.1 hx with h | h
 ·
  exact ha x h
 ·
  exact hb x h
theorem Wf.one {B : Nat} {x : Int} (h0 : 0 ≤ x) (h1 : x < (B : Int)) : Wf B [x] := by
 intro y hy
 rw [List.mem_singleton] at hy
 exact hy ▸ ⟨h0, h1⟩
theorem Wf.left {B : Nat} {a b : List Int} (h : Wf B (a ++ b)) : Wf B a := fun x hx => h x (List.mem_append_left _ hx)
theorem Wf.get {B : Nat} {l : List Int} (h : Wf B l) {i : Nat} (hi : i < l.length) : 0 ≤ l[i] ∧ l[i] < (B : Int) := h _ (List.getElem_mem hi)
theorem Wf.zeros {B : Nat} (hB : 0 < B) (n : Nat) : Wf B (List.replicate n 0) := by
 intro x hx
 rw [(List.mem_replicate.1 hx).2]; omega
theorem nv_zeros (B n : Nat) : nv B (List.replicate n 0) = 0 := by
 induction n with
 | zero => rfl
 | succ n ih => rw [List.replicate_succ, nv, ih]; simp
theorem nv_lt {B : Nat} (_hB : 2 ≤ B) {l : List Int} (h : Wf B l) : nv B l < B ^ l.length := by
 induction l with
 | nil => simp [nv]
 | cons x l ih =>
  have h1 := ih (fun y hy => h y (List.mem_cons_of_mem _ hy))
  have h2 := h x (List.mem_cons_self ..)
  rw [nv, List.length_cons, Nat.pow_succ, Nat.mul_comm (B ^ _)]
  have h3 : x.toNat < B := by omega
  calc x.toNat + B * nv B l < B + B * nv B l := by omega
   _ = B * (nv B l + 1) := by rw [Nat.mul_add, Nat.mul_one]; omega
   _ ≤ B * B ^ l.length := Nat.mul_le_mul_left _ h1
theorem lim_step {B v : Nat} {x : Int} (hB : 2 ≤ B) (h0 : 0 ≤ x) (h1 : x < (B : Int)) (hp : 0 < x ∨ 0 < v) : lim B (x.toNat + B * v) = x :: lim B v := by
 have hx : x.toNat < B := by omega
 have hBv : v ≤ B * v := Nat.le_mul_of_pos_left _ (by omega)
 rw [lim_pos hB (by omega), Nat.add_mul_mod_self_left, Nat.add_mul_div_left _ _ (by omega), Nat.div_eq_of_lt hx, Nat.zero_add, Nat.mod_eq_of_lt hx]
 congr 1
 exact Int.toNat_of_nonneg h0
theorem nv_pos {B : Nat} (hB : 2 ≤ B) (l : List Int) {x : Int} (hx : 0 < x) : 0 < nv B (l ++ [x]) := by
 rw [nv_append, nv_one]
 have := Nat.mul_pos (Nat.pow_pos (n := l.length) (show 0 < B by omega)) (show 0 < x.toNat by omega)
 omega
theorem lim_snoc {B : Nat} (hB : 2 ≤ B) {l : List Int} {x : Int} (hl : Wf B l) (h0 : 0 < x) (h1 : x < (B : Int)) : lim B (nv B (l ++ [x])) = l ++ [x] := by
 induction l with
 | nil =>
  have := lim_step (v := 0) hB (Int.le_of_lt h0) h1 (.inl h0)
  rw [Nat.mul_zero, lim_zero] at this
  rw [List.nil_append, nv_one]; exact this
 | cons y l ih =>
  have hy := hl y (List.mem_cons_self ..)
  rw [List.cons_append, nv, lim_step hB hy.1 hy.2 (.inr (nv_pos hB l h0)), ih (fun z hz => hl z (List.mem_cons_of_mem _ hz))]
theorem nv_snoc_zero (B : Nat) (l : List Int) : nv B (l ++ [0]) = nv B l := by
 rw [nv_append, nv_one]; simp
theorem lim_len {B : Nat} (hB : 2 ≤ B) : ∀ (s n : Nat), n < B ^ s → (lim B n).length ≤ s := by
 intro s
 induction s with
 | zero =>
  intro n h
  have : n = 0 := by simpa using h
  rw [this, lim_zero]; simp
 | succ s ih =>
  intro n h
  rcases Nat.eq_zero_or_pos n with rfl | hn
  ·
   rw [lim_zero]; simp
  ·
   rw [lim_pos hB hn, List.length_cons]
   have := ih (n / B) (by rw [Nat.pow_succ] at h; exact Nat.div_lt_of_lt_mul (by rw [Nat.mul_comm]; exact h))
   omega
theorem lim_le {B : Nat} (hB : 2 ≤ B) (n : Nat) : n < B ^ (lim B n).length := by
 have := nv_lt hB (wf_lim hB n)
 rwa [nv_lim hB] at this
theorem lim_last {B : Nat} (hB : 2 ≤ B) : ∀ n, 0 < n → ∃ l x, lim B n = l ++ [x] ∧ 0 < x ∧ x < (B : Int) := by
 intro n
 refine lim_ind (P := fun n => 0 < n → ∃ l x, lim B n = l ++ [x] ∧ 0 < x ∧ x < (B : Int)) hB (fun h => by omega) ?_ n
 intro n h ih _
 rw [lim_pos hB h]
 rcases Nat.eq_zero_or_pos (n / B) with h0 | h0
 ·
  rw [h0, lim_zero]
  refine ⟨[], _, rfl, ?_, Int.ofNat_lt.2 (Nat.mod_lt _ (by omega))⟩
  have : n < B := by
   rcases Nat.lt_or_ge n B with h1 | h1
   ·
    exact h1
   ·
    have := Nat.div_pos h1 (by omega); omega
  rw [Nat.mod_eq_of_lt this]; omega
 ·
  obtain ⟨l, x, e, h1, h2⟩ := ih h0
  exact ⟨_ :: l, x, by rw [e]; rfl, h1, h2⟩
theorem snoc_cases {α : Type} (l : List α) : l = [] ∨ ∃ m x, l = m ++ [x] := by
 rcases List.eq_nil_or_concat l with h | ⟨m, x, h⟩
 ·
  exact .inl h
 ·
  exact .inr ⟨m, x, by simpa using h⟩
theorem nv_take_succ (B : Nat) (l : List Int) (i : Nat) (h : i < l.length) : nv B (l.take (i + 1)) = nv B (l.take i) + B ^ i * l[i].toNat := by
 rw [List.take_succ_eq_append_getElem h, nv_append, nv_one, List.length_take, Nat.min_eq_left (Nat.le_of_lt h)]
theorem nv_drop (B : Nat) (l : List Int) (i : Nat) (h : i < l.length) : nv B (l.drop i) = l[i].toNat + B * nv B (l.drop (i + 1)) := by
 rw [List.drop_eq_getElem_cons h, nv]
theorem take_set_succ {α : Type} (l : List α) (i : Nat) (v : α) (h : i < l.length) : (l.set i v).take (i + 1) = l.take i ++ [v] := by
 rw [List.take_succ_eq_append_getElem (by rw [List.length_set]; exact h), List.getElem_set_self, List.take_set_of_le (Nat.le_refl i)]
end Go.Proofs.YtjlnfnfdibfniaaDoor.Pl
namespace Go.Proofs
open Go.Shelf
def Tryd.lays128_ren : Go.Shelf.Ren := ⟨fun | 128 => 85 | n => n, fun | 51 => 102 | 3 => 3 | 4 => 4 | 46 => 65 | 5 => 5 | 9 => 9 | n => n, fun | n => n⟩
theorem Tryd.lays128 : Go.Proofs.Lays.n128 Tryd.prog Tryd.lays128_ren := {
 mixed := by kernel_rfl
 f128 := Tryd.func85.trans (congrArg some (by kernel_rfl))
 t3 := Tryd.underlying3
 a3 := Tryd.isAgg3
 z3 := Tryd.sizeOf3
 v3 := Tryd.zeroValue3
 t4 := Tryd.underlying4
 a4 := Tryd.isAgg4
 z4 := Tryd.sizeOf4
 v4 := Tryd.zeroValue4
 t5 := Tryd.underlying5
 a5 := Tryd.isAgg5
 z5 := Tryd.sizeOf5
 v5 := Tryd.zeroValue5
 t9 := Tryd.underlying9
 a9 := Tryd.isAgg9
 z9 := Tryd.sizeOf9
 v9 := Tryd.zeroValue9
 t46 := Tryd.underlying65
 a46 := Tryd.isAgg65
 z46 := Tryd.sizeOf65
 v46 := Tryd.zeroValue65
 t51 := Tryd.underlying102
 a51 := Tryd.isAgg102
 z51 := Tryd.sizeOf102
 v51 := Tryd.zeroValue102 }
theorem Tryd.bits_Len32 (x : Int) (w : World) (h0 : 0 ≤ x) (h1 : x ≤ 4294967295) :
  Calls Tryd.prog 85 #[.int .u32 x] w fun e w' => e = .returned (.int .i64 (Lib.bitLen x.toNat)) ∧ w' = w := Any.bits_Len32 Tryd.lays128 x w h0 h1
def Tryd.lays129_ren : Go.Shelf.Ren := ⟨fun | 129 => 119 | n => n, fun | 53 => 25 | 3 => 3 | 4 => 4 | 46 => 65 | 5 => 5 | 9 => 9 | n => n, fun | n => n⟩
theorem Tryd.lays129 : Go.Proofs.Lays.n129 Tryd.prog Tryd.lays129_ren := {
 mixed := by kernel_rfl
 f129 := Tryd.func119.trans (congrArg some (by kernel_rfl))
 t3 := Tryd.underlying3
 a3 := Tryd.isAgg3
 z3 := Tryd.sizeOf3
 v3 := Tryd.zeroValue3
 t4 := Tryd.underlying4
 a4 := Tryd.isAgg4
 z4 := Tryd.sizeOf4
 v4 := Tryd.zeroValue4
 t5 := Tryd.underlying5
 a5 := Tryd.isAgg5
 z5 := Tryd.sizeOf5
 v5 := Tryd.zeroValue5
 t9 := Tryd.underlying9
 a9 := Tryd.isAgg9
 z9 := Tryd.sizeOf9
 v9 := Tryd.zeroValue9
 t46 := Tryd.underlying65
 a46 := Tryd.isAgg65
 z46 := Tryd.sizeOf65
 v46 := Tryd.zeroValue65
 t53 := Tryd.underlying25
 a53 := Tryd.isAgg25
 z53 := Tryd.sizeOf25
 v53 := Tryd.zeroValue25 }
theorem Tryd.bits_Len64 (x : Int) (w : World) (h0 : 0 ≤ x) (h1 : x ≤ 18446744073709551615) :
  Calls Tryd.prog 119 #[.int .u64 x] w fun e w' => e = .returned (.int .i64 (Lib.bitLen x.toNat)) ∧ w' = w := Any.bits_Len64 Tryd.lays129 x w h0 h1
def Tryd.lays105_ren : Go.Shelf.Ren := ⟨fun | 105 => 62 | 212 => 95 | 99 => 96 | 165 => 97 | 166 => 98 | 170 => 99 | 169 => 100 | 263 => 111 | 264 => 112 | 206 => 113 | 240 => 114 | 241 => 115 | 276 => 125 | 277 => 126 | n => n, fun | 9 => 9 | 3 => 3 | 4 => 4 | 20 => 20 | 0 => 0 | 46 => 65 | 109 => 112 | 5 => 5 | 72 => 117 | 76 => 121 | 51 => 102 | 146 => 135 | 53 => 25 | 148 => 137 | 70 => 115 | 37 => 43 | 75 => 120 | 127 => 139 | 164 => 144 | 80 => 123 | n => n, fun | n => n⟩
theorem Tryd.lays105 : Go.Proofs.Lays.n105 Tryd.prog Tryd.lays105_ren := {
 mixed := by kernel_rfl
 f99 := Tryd.func96.trans (congrArg some (by kernel_rfl))
 f105 := Tryd.func62.trans (congrArg some (by kernel_rfl))
 f165 := Tryd.func97.trans (congrArg some (by kernel_rfl))
 f166 := Tryd.func98.trans (congrArg some (by kernel_rfl))
 f169 := Tryd.func100.trans (congrArg some (by kernel_rfl))
 f170 := Tryd.func99.trans (congrArg some (by kernel_rfl))
 f206 := Tryd.func113.trans (congrArg some (by kernel_rfl))
 f212 := Tryd.func95.trans (congrArg some (by kernel_rfl))
 f240 := Tryd.func114.trans (congrArg some (by kernel_rfl))
 f241 := Tryd.func115.trans (congrArg some (by kernel_rfl))
 f263 := Tryd.func111.trans (congrArg some (by kernel_rfl))
 f264 := Tryd.func112.trans (congrArg some (by kernel_rfl))
 f276 := Tryd.func125.trans (congrArg some (by kernel_rfl))
 f277 := Tryd.func126.trans (congrArg some (by kernel_rfl))
 t0 := Tryd.underlying0
 a0 := Tryd.isAgg0
 z0 := Tryd.sizeOf0
 v0 := Tryd.zeroValue0
 t3 := Tryd.underlying3
 a3 := Tryd.isAgg3
 z3 := Tryd.sizeOf3
 v3 := Tryd.zeroValue3
 t4 := Tryd.underlying4
 a4 := Tryd.isAgg4
 z4 := Tryd.sizeOf4
 v4 := Tryd.zeroValue4
 t5 := Tryd.underlying5
 a5 := Tryd.isAgg5
 z5 := Tryd.sizeOf5
 v5 := Tryd.zeroValue5
 t9 := Tryd.underlying9
 a9 := Tryd.isAgg9
 z9 := Tryd.sizeOf9
 v9 := Tryd.zeroValue9
 t20 := Tryd.underlying20
 a20 := Tryd.isAgg20
 z20 := Tryd.sizeOf20
 v20 := Tryd.zeroValue20
 t37 := Tryd.underlying43
 a37 := Tryd.isAgg43
 z37 := Tryd.sizeOf43
 v37 := Tryd.zeroValue43
 t46 := Tryd.underlying65
 a46 := Tryd.isAgg65
 z46 := Tryd.sizeOf65
 v46 := Tryd.zeroValue65
 t51 := Tryd.underlying102
 a51 := Tryd.isAgg102
 z51 := Tryd.sizeOf102
 v51 := Tryd.zeroValue102
 t53 := Tryd.underlying25
 a53 := Tryd.isAgg25
 z53 := Tryd.sizeOf25
 v53 := Tryd.zeroValue25
 t70 := Tryd.underlying115
 a70 := Tryd.isAgg115
 z70 := Tryd.sizeOf115
 v70 := Tryd.zeroValue115
 t72 := Tryd.underlying117
 a72 := Tryd.isAgg117
 z72 := Tryd.sizeOf117
 v72 := Tryd.zeroValue117
 t75 := Tryd.underlying120
 a75 := Tryd.isAgg120
 z75 := Tryd.sizeOf120
 v75 := Tryd.zeroValue120
 t76 := Tryd.underlying121
 a76 := Tryd.isAgg121
 z76 := Tryd.sizeOf121
 v76 := Tryd.zeroValue121
 t109 := Tryd.underlying112
 a109 := Tryd.isAgg112
 z109 := Tryd.sizeOf112
 v109 := Tryd.zeroValue112
 t127 := Tryd.underlying139
 a127 := Tryd.isAgg139
 z127 := Tryd.sizeOf139
 v127 := Tryd.zeroValue139
 t146 := Tryd.underlying135
 a146 := Tryd.isAgg135
 z146 := Tryd.sizeOf135
 v146 := Tryd.zeroValue135
 t148 := Tryd.underlying137
 a148 := Tryd.isAgg137
 z148 := Tryd.sizeOf137
 v148 := Tryd.zeroValue137
 t164 := Tryd.underlying144
 a164 := Tryd.isAgg144
 z164 := Tryd.sizeOf144
 v164 := Tryd.zeroValue144 }
theorem Tryd.Builder_Extra_105 : Builder.Extra Tryd.prog Tryd.lays105_ren := {
 sizeBuilder := by kernel_rfl
 liesBuilder := by kernel_rfl
 t5 := Tryd.underlying5
 a5 := Tryd.isAgg5
 z5 := Tryd.sizeOf5
 v5 := Tryd.zeroValue5
 infoByte := by kernel_rfl
 cellsByte := by kernel_rfl
 sizeByte := by kernel_rfl
 neB5 := by decide }
open Go.RowKit Go.Lib in
theorem Tryd.strings_Repeat (s : ByteArray) (c : Nat) (w : World) (hc : c ≤ 9223372036854775807) (hlen : s.size * c ≤ 140737488355328) :
  Calls Tryd.prog 62 #[.string s, .int .i64 c] w fun e w' => e = .returned (.string ⟨(Lib.repeatL s.data.toList c).toArray⟩) ∧ Below w.heap.size w w' := Any.strings_Repeat Tryd.lays105 Tryd.Builder_Extra_105 s c w hc hlen
end Go.Proofs
namespace Go.Proofs.YtjlnfnfdibfniaaDoor.Hd
open Go.RowKit Go.Proofs.YtjlnfnfdibfniaaDoorW.PrintWords Go.Proofs.YtjlnfnfdibfniaaDoorW.PrintLast
def bits_Len32.f (a0 : Int) : Option Int := if 0 ≤ a0 ∧ a0 ≤ 4294967295 then some (Lib.bitLen a0.toNat : Int) else none
theorem bits_Len32.calls (a0 : Int) (r : Int) (w : World) (h : bits_Len32.f a0 = some r) :
  Calls Tryd.prog 85 #[.int .u32 a0] w fun e w' => e = .returned (.int .i64 r) ∧ Drawn0 w w' := by
 unfold bits_Len32.f at h
 split at h
 ·
  rename_i hb
  cases h
  refine (Tryd.bits_Len32 a0 w hb.1 hb.2).mono ?_
  rintro e w' ⟨rfl, rfl⟩
  exact ⟨rfl, Drawn0.refl _⟩
 ·
  cases h
def bits_Len64.f (a0 : Int) : Option Int := if 0 ≤ a0 ∧ a0 ≤ 18446744073709551615 then some (Lib.bitLen a0.toNat : Int) else none
theorem bits_Len64.calls (a0 : Int) (r : Int) (w : World) (h : bits_Len64.f a0 = some r) :
  Calls Tryd.prog 119 #[.int .u64 a0] w fun e w' => e = .returned (.int .i64 r) ∧ Drawn0 w w' := by
 unfold bits_Len64.f at h
 split at h
 ·
  rename_i hb
  cases h
  refine (Tryd.bits_Len64 a0 w hb.1 hb.2).mono ?_
  rintro e w' ⟨rfl, rfl⟩
  exact ⟨rfl, Drawn0.refl _⟩
 ·
  cases h
def strings_Repeat.f (a0 : ByteArray) (a1 : Int) : Option ByteArray :=
 if 0 ≤ a1 ∧ a1 ≤ 9223372036854775807 ∧ a0.size * a1.toNat ≤ 140737488355328 then some ⟨(Lib.repeatL a0.data.toList a1.toNat).toArray⟩ else none
theorem strings_Repeat.calls (a0 : ByteArray) (a1 : Int) (r : ByteArray) (w : World) (h : strings_Repeat.f a0 a1 = some r) :
  Calls Tryd.prog 62 #[.string a0, .int .i64 a1] w fun e w' => e = .returned (.string r) ∧ Below w.heap.size w w' := by
 unfold strings_Repeat.f at h
 split at h
 ·
  rename_i hb
  cases h
  obtain ⟨n, rfl⟩ := Int.eq_ofNat_of_zero_le hb.1
  exact Tryd.strings_Repeat a0 n w (by omega) (by simpa using hb.2.2)
 ·
  cases h
def ceilB (b : Nat) : Option Nat :=
 match FloatKind.f64.decode b with
 | .nan .. => none
 | d => some (FloatKind.f64.encode (d.integral .up))
theorem ext83 (b r : Nat) (h : ceilB b = some r) (w : World) : (callFunc 83 #[.float .f64 b]).run Tryd.prog w = .ok (.value (.float .f64 r)) w := by
 rw [run_callFunc_extern (e := Extern.MathFloor.toIntegral "math.archCeil" .up) Tryd.func83 (by kernel_rfl) (by kernel_rfl) (by kernel_rfl) (by kernel_rfl)]
 unfold ceilB at h
 have : (Extern.MathFloor.toIntegral "math.archCeil" .up #[.float .f64 b]).run Tryd.prog w = .ok (.float .f64 r) w := by
  change Sem.run Tryd.prog (match FloatKind.f64.decode b with
   | .nan s t =>
    if FloatKind.f64.format.quiet t = t then pure (Value.float .f64 b) else do
     let kept ← choose (.extern "math.Floor,Ceil,Trunc,RoundToEven.signallingNaN kept" 2)
     pure (Value.float .f64 (if kept == 1 then b else FloatKind.f64.encode (.nan s (FloatKind.f64.format.quiet t))))
   | d => pure (Value.float .f64 (FloatKind.f64.encode (d.integral .up)))) w = _
  cases hd : FloatKind.f64.decode b with
  | nan s t => rw [hd] at h; cases h
  | infinity s => rw [hd] at h; cases h; rfl
  | number s m e => rw [hd] at h; cases h; rfl
 rw [this]
 rfl
def math_Ceil.f (a0 : Nat) : Option Nat := ceilB a0
set_option maxRecDepth 100000 in
theorem math_Ceil.calls (a0 : Nat) (r : Nat) (w : World) (h : math_Ceil.f a0 = some r) :
  Calls Tryd.prog 50 #[.float .f64 a0] w fun e w' => e = .returned (.float .f64 r) ∧ Drawn0 w w' := by
 have h83 := ext83 a0 r h
 clear h
 go_enter Tryd.func50, Tryd.ntmps50
 go_wp2
 go_ret
 exact ⟨rfl, Drawn0.refl _⟩
end Go.Proofs.YtjlnfnfdibfniaaDoor.Hd
namespace Go.Proofs.YtjlnfnfdibfniaaDoor.F
open Go.RowKit Go.Proofs.YtjlnfnfdibfniaaDoorW.PrintWords Go.Proofs.YtjlnfnfdibfniaaDoorW.PrintLast Go.Proofs.YtjlnfnfdibfniaaDoorW.PrintMore
attribute [local go_sem] max2_int min2_int max_two min_two max_three min_three max_four min_four
set_option linter.unusedVariables false
set_option linter.unusedSimpArgs false
def num_nat_size.f (l0 : List Int) : Option (Int) := if (l0.length : Int) = 0 then (some 0) else (if 0 ≤ (wrap64 ((l0.length : Int) - 1)) then (if (wrap64 ((l0.length : Int) - 1)) < (l0.length : Int) then ((Hd.bits_Len32.f (rd l0 (wrap64 ((l0.length : Int) - 1)))).bind fun t128 => (some (wrap64 ((wrap64 (32 * (wrap64 ((l0.length : Int) - 1)))) + t128)))) else (none)) else (none))
set_option maxHeartbeats 8000000 in
set_option maxRecDepth 100000 in
theorem num_nat_size.calls (A0 : Option Addr) (c0 : Nat) (l0 : List Int) (r : Int) (w : World) (hr0 : Kd.C (Kd.int .u32) w A0 l0.length l0) (hc0 : l0.length ≤ c0) (h : num_nat_size.f l0 = some r) :
  Calls Tryd.prog 51 #[.slice A0 l0.length c0] w fun e w' => e = .returned (.int .i64 r) ∧ Drawn0 w w' := by
 have HR0 := Aside0.mk hr0
 have HC0 := Aside0.mk hc0
 clear hr0 hc0
 have H : (if (l0.length : Int) = 0 then (some 0) else (if 0 ≤ (wrap64 ((l0.length : Int) - 1)) then (if (wrap64 ((l0.length : Int) - 1)) < (l0.length : Int) then ((Hd.bits_Len32.f (rd l0 (wrap64 ((l0.length : Int) - 1)))).bind fun t128 => (some (wrap64 ((wrap64 (32 * (wrap64 ((l0.length : Int) - 1)))) + t128)))) else (none)) else (none))) = some r := h
 clear h
 by_cases c2 : (l0.length : Int) = 0
 ·
  rw [if_pos c2] at H
  have c2b0 : ((l0.length : Int) == 0) = true := beq_iff_eq.mpr c2
  have c2b1 : ((l0.length : Int) != 0) = false := bne_eq_false_iff_eq.mpr c2
  clear c2
  obtain rfl := Option.some.inj H
  go_enter Tryd.func51, Tryd.ntmps51
  go_wp2
  go_ret
  exact ⟨by first | rfl | (simp; done) | (simp [*]; done), by repeat (first | exact Drawn0.refl _ | apply Drawn0.step)⟩
 rw [if_neg c2] at H
 have c2b0 : ((l0.length : Int) == 0) = false := beq_eq_false_iff_ne.mpr c2
 have c2b1 : ((l0.length : Int) != 0) = true := bne_iff_ne.mpr c2
 have c2b2 : ¬ (l0 = []) := fun h_ => c2 (by rw [h_]; rfl)
 obtain ⟨ji3, hji3⟩ : ∃ j_ : Int, (wrap64 ((l0.length : Int) - 1)) = j_ := ⟨_, rfl⟩
 replace H : (if 0 ≤ (ji3) then (if (ji3) < (l0.length : Int) then ((Hd.bits_Len32.f (rd l0 (ji3))).bind fun t128 => (some (wrap64 ((wrap64 (32 * (ji3))) + t128)))) else (none)) else (none)) = some r := by first | (rw [hji3] at H; exact H) | (simp only [hji3] at H ⊢; exact H)
 have hji3w : (IntKind.i64.wrap ((l0.length : Int) - 1)) = ji3 := (i64_w _).trans hji3
 by_cases c4 : 0 ≤ (ji3)
 ·
  rw [if_pos c4] at H
  have c4b0 : decide (0 ≤ (ji3)) = true := decide_eq_true c4
  clear c4
  by_cases c5 : (ji3) < (l0.length : Int)
  ·
   rw [if_pos c5] at H
   have c5b0 : decide ((ji3) < (l0.length : Int)) = true := decide_eq_true c5
   clear c5
   replace H := Option.bind_eq_some_iff.mp H
   obtain ⟨t128, A60, H⟩ := H
   have A6 := Aside0.mk A60
   clear A60
   obtain rfl := Option.some.inj H
   have p127 : 0 ≤ ((ji3) : Int) := of_decide_eq_true (by first | (with_reducible assumption) | assumption)
   have q127 : (ji3) < (l0.length : Int) := of_decide_eq_true (by first | (with_reducible assumption) | assumption)
   obtain ⟨ad127, e127, hx127_0⟩ := Kd.at_int HR0.out (ji3) p127 q127
   cases e127
   replace p127 := eq_true p127
   replace q127 := eq_true q127
   go_enter Tryd.func51, Tryd.ntmps51
   go_wp2_with (first | ((with_reducible refine gate_callee (f := 85) rfl ?_); refine goesL_ (some 16) rfl rfl Tryd.func85 (by kernel_rfl) rfl #[.int .u32 (rd l0 (ji3))] rfl (by (try simp only [List.map_toArray, List.map_cons, List.map_nil]); first | done | (simp only [hji3]; rfl) | rfl | (simp only [List.length_drop, List.length_take]; rfl)) ?_; (with_reducible refine (Hd.bits_Len32.calls (rd l0 (ji3)) t128 _ A6.out).mono ?_); rintro e w' ⟨rfl, ⟨nd, rfl⟩⟩; refine ⟨_, rfl, ?_⟩))
   go_ret
   exact ⟨by first | rfl | (simp; done) | (simp only [← hji3] <;> (first | rfl | simp)) | (simp [*]; done), by repeat (first | exact Drawn0.refl _ | apply Drawn0.step)⟩
  rw [if_neg c5] at H
  exact absurd H (by simp)
 rw [if_neg c4] at H
 exact absurd H (by simp)
end Go.Proofs.YtjlnfnfdibfniaaDoor.F

