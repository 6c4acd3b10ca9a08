/- Words and walked functions of the proof (part 4). -/
import Derived.Test.YtjlnfnfdibfniaaDoorCMono3
-- Written by a program of this session (wip/vprint.py): Lean checks it.
namespace Go.Proofs.YtjlnfnfdibfniaaDoor.F
open Go.RowKit Go.Proofs.YtjlnfnfdibfniaaDoorW.PrintWords Go.Proofs.YtjlnfnfdibfniaaDoorW.PrintLast Go.Proofs.YtjlnfnfdibfniaaDoorW.PrintMore
attribute [local go_sem] max2_int min2_int max_two min_two max_three min_three max_four min_four   -- for this text's walks alone
set_option linter.unusedVariables false
set_option linter.unusedSimpArgs false

/-- A state of type 3 at block g of W; what its slices lead to came in by w0. -/
def IsS3 (w0 W : World) (g : Nat) (f0 : Int) : Prop := W.heap[g]? = some (.cells #[.int .i64 f0] 3 (0, 0)) ∧ w0.heap.size ≤ g
theorem IsS3.grown {w0 W : World} {g : Nat} {f0 : Int} {W1 : World} {row : Option Nat} (h : IsS3 w0 W g f0) (hw : W.grownBy W1 row) (hne : some g ≠ row) : IsS3 w0 W1 g f0 := by
 obtain ⟨hb, hg⟩ := h
 exact ⟨blk_grown hb hw hne, hg⟩
theorem IsS3.own_neN {w0 W : World} {g : Nat} {f0 : Int} {α : Type} {d : Kd α} {e : Nat} {base : Nat} {ok : Nat → Prop} {v : Value} {xs : List α} (h : IsS3 w0 W g f0) (ho : Kd.N d e W base ok v xs) (ht : e ≠ 3) : some g ≠ v.ownBlock := by
 obtain ⟨hb, hg⟩ := h
 exact Kd.N_ne ho hb ht
theorem IsS3.fresh {w0 W : World} {g : Nat} {f0 : Int} (h : IsS3 w0 W g f0) : ∀ k, W.heap.size ≤ k → k ≠ g := by
 obtain ⟨hb, hg⟩ := h
 exact Kd.freshB hb
theorem IsS3.kept {w0 W : World} {g : Nat} {f0 : Int} {W1 : World} {S : Nat → Prop} (h : IsS3 w0 W g f0) (hk : Kept W W1 S) (hne : ¬ S g) : IsS3 w0 W1 g f0 := by
 obtain ⟨hb, hg⟩ := h
 exact ⟨blk_kept hb hk hne, hg⟩
theorem IsS3.below {w0 W : World} {g : Nat} {f0 : Int} {W1 : World} (h : IsS3 w0 W g f0) (hw : Below W.heap.size W W1) : IsS3 w0 W1 g f0 := h.grown (grown_of_below hw none) (by simp)
theorem IsS3.alloc {w0 W : World} {g : Nat} {f0 : Int} (h : IsS3 w0 W g f0) (o : Obj) : IsS3 w0 (W.alloc o) g f0 := h.below (below_alloc (Below.refl _ _) o)
theorem IsS3.drewN {w0 W : World} {g : Nat} {f0 : Int} (h : IsS3 w0 W g f0) (m : Nat) : IsS3 w0 (W.drewN m) g f0 := h
theorem IsS3.drew {w0 W : World} {g : Nat} {f0 : Int} (h : IsS3 w0 W g f0) : IsS3 w0 W.drew g f0 := h
theorem IsS3.at_ {w0 W : World} {g : Nat} {f0 : Int} {w' : World} {m : Nat} (hq : W.drewN m = w') (h : IsS3 w0 W g f0) : IsS3 w0 w' g f0 := by subst hq; exact IsS3.drewN h m
theorem IsS3.apart {w0 W : World} {g : Nat} {f0 : Int} {α : Type} {d : Kd α} {e : Nat} {base : Nat} {ok : Nat → Prop} {v : Value} {xs : List α} (h : IsS3 w0 W g f0) (ho : d.R e W base ok v xs) (ht : ∀ q, q ∈ e :: d.E → q ≠ 3) : d.R e W base (fun k => ok k ∧ k ≠ g) v xs := by
 obtain ⟨hb, hg⟩ := h
 exact Kd.R_types ho hb ht
theorem IsS3.own_ne {w0 W : World} {g : Nat} {f0 : Int} {α : Type} {d : Kd α} {e : Nat} {base : Nat} {ok : Nat → Prop} {v : Value} {xs : List α} (h : IsS3 w0 W g f0) (ho : d.R e W base ok v xs) (ht : e ≠ 3) : some g ≠ v.ownBlock := by
 obtain ⟨hb, hg⟩ := h
 exact Kd.R_ne ho hb ht
theorem IsS3.apartQ {w0 W : World} {g : Nat} {f0 : Int} {α : Type} {d : Kd α} {e : Nat} {base : Nat} {ok : Nat → Prop} {v : Value} {xs : List α} (h : IsS3 w0 W g f0) (ho : d.Q e W base ok v xs) (ht : ∀ q, q ∈ e :: d.E → q ≠ 3) : d.Q e W base (fun k => ok k ∧ k ≠ g) v xs := by
 obtain ⟨hb, hg⟩ := h
 exact Kd.Q_types ho hb ht
theorem IsS3.own_neQ {w0 W : World} {g : Nat} {f0 : Int} {α : Type} {d : Kd α} {e : Nat} {base : Nat} {ok : Nat → Prop} {v : Value} {xs : List α} (h : IsS3 w0 W g f0) (ho : d.Q e W base ok v xs) (ht : e ≠ 3) : some g ≠ v.ownBlock := by
 obtain ⟨hb, hg⟩ := h
 exact Kd.Q_ne ho hb ht
theorem IsS3.apartS {w0 W : World} {g : Nat} {f0 : Int} {α : Type} {d : Kd α} {e : Nat} {base : Nat} {ok : Nat → Prop} {v : Value} {xs : List α} (h : IsS3 w0 W g f0) (ho : d.S e W base ok v xs) (ht : ∀ q, q ∈ e :: d.E → q ≠ 3) : d.S e W base (fun k => ok k ∧ k ≠ g) v xs := by
 obtain ⟨hb, hg⟩ := h
 exact Kd.S_types ho hb ht
theorem IsS3.own_neS {w0 W : World} {g : Nat} {f0 : Int} {α : Type} {d : Kd α} {e : Nat} {base : Nat} {ok : Nat → Prop} {v : Value} {xs : List α} (h : IsS3 w0 W g f0) (ho : d.S e W base ok v xs) (ht : e ≠ 3) : some g ≠ v.ownBlock := by
 obtain ⟨hb, hg⟩ := h
 exact Kd.S_ne ho hb ht
theorem IsS3.lt {w0 W : World} {g : Nat} {f0 : Int} (h : IsS3 w0 W g f0) : g < W.heap.size := by
 obtain ⟨hb, hg⟩ := h
 exact blk_lt hb
theorem IsS3.ge {w0 W : World} {g : Nat} {f0 : Int} (h : IsS3 w0 W g f0) : w0.heap.size ≤ g := by
 obtain ⟨hb, hg⟩ := h
 exact hg
theorem IsS3.ne_blk {w0 W : World} {g : Nat} {f0 : Int} {a : Nat} {cs : Array Value} {t : TypeId} {fr : Nat × Nat} (h : IsS3 w0 W g f0) (hb2 : W.heap[a]? = some (.cells cs t fr)) (ht : t ≠ 3) : g ≠ a := by
 obtain ⟨hb, hg⟩ := h
 rintro rfl
 rw [hb] at hb2
 injection hb2 with hb2
 injection hb2 with _ ht2
 exact ht ht2.symm
theorem IsS3.far {w0 W : World} {g : Nat} {f0 : Int} {p : Addr} (h : IsS3 w0 W g f0) (hne : g ≠ p.block) (u : Value) : IsS3 w0 (W.setCell p u) g f0 := by
 obtain ⟨hb, hg⟩ := h
 exact ⟨blk_far hb hne u, hg⟩
theorem cellS3_0 {W : World} {g : Nat} {f0 : Int} (h : W.heap[g]? = some (.cells #[.int .i64 f0] 3 (0, 0))) : W.cell? ⟨g, 0, none⟩ = some (.int .i64 f0) := (blk_cell h 0).trans rfl
theorem IsS3.set_0 {w0 W : World} {g : Nat} {f0 : Int} (h : IsS3 w0 W g f0) (x : Int) : IsS3 w0 (W.setCell ⟨g, 0, none⟩ (.int .i64 x)) g x := by
 obtain ⟨hb, hg⟩ := h
 exact ⟨by simpa using blk_set hb 0 (.int .i64 x), hg⟩
theorem IsS3.new (w0 W : World) (f0 : Int) (hB : Below w0.heap.size w0 W) : IsS3 w0 (W.alloc (.cells #[.int .i64 f0] 3)) W.heap.size f0 := ⟨by simpa using heap_alloc_new W _, hB.size⟩

/-! ### num_shortest: function 53 -/
mutual
def num_shortest.l0 : Nat → List Int → List Int → List Int → List Int → Bool → List Int → Int → Option (List Int × Int)
 | 0, _, _, _, _, _, _, _ => none
 | k + 1, x0, x1, x2, x3, x4, x13, x6000 => (num_nat_tens.f k x0 1).bind fun t180 => ((num_nat_tens.f k x2 1).bind fun t183 => ((num_nat_tens.f k x3 1).bind fun t186 => (num_shortest.l1 k t180 x1 t183 t186 x4 x13 48 x6000)))
def num_shortest.l1 : Nat → List Int → List Int → List Int → List Int → Bool → List Int → Int → Int → Option (List Int × Int)
 | 0, _, _, _, _, _, _, _, _ => none
 | k + 1, x0, x1, x2, x3, x4, x13, x14, x6000 => (num_nat_against.f k x0 x1).bind fun t189 => (if t189 ≥ 0 then ((num_nat_less.f k x0 x1).bind fun t190 => (num_shortest.l1 k t190 x1 x2 x3 x4 x13 ((x14 + 1) % 256) x6000)) else ((num_nat_against.f k x0 x2).bind fun t193 => ((num_nat_plus.f k x0 x3).bind fun t194 => ((num_nat_against.f k t194 x1).bind fun t197 => (if t193 < 0 then (if t197 > 0 then (num_shortest.j2 k x0 x1 x2 x3 x4 x13 x14 true true x6000) else (if t197 = 0 then (num_shortest.j2 k x0 x1 x2 x3 x4 x13 x14 true x4 x6000) else (num_shortest.j2 k x0 x1 x2 x3 x4 x13 x14 true false x6000))) else (if t193 = 0 then (if t197 > 0 then (num_shortest.j2 k x0 x1 x2 x3 x4 x13 x14 x4 true x6000) else (if t197 = 0 then (num_shortest.j2 k x0 x1 x2 x3 x4 x13 x14 x4 x4 x6000) else (num_shortest.j2 k x0 x1 x2 x3 x4 x13 x14 x4 false x6000))) else (if t197 > 0 then (num_shortest.j2 k x0 x1 x2 x3 x4 x13 x14 false true x6000) else (if t197 = 0 then (num_shortest.j2 k x0 x1 x2 x3 x4 x13 x14 false x4 x6000) else (num_shortest.j2 k x0 x1 x2 x3 x4 x13 x14 false false x6000)))))))))
def num_shortest.j2 : Nat → List Int → List Int → List Int → List Int → Bool → List Int → Int → Bool → Bool → Int → Option (List Int × Int)
 | 0, _, _, _, _, _, _, _, _, _, _ => none
 | k + 1, x0, x1, x2, x3, x4, x13, x14, x17, x18, x6000 => if (x13.length : Int) = 0 then (if x14 = 48 then (num_shortest.j3 k x0 x1 x2 x3 x4 x13 x14 x17 x18 (!x18) x6000) else (num_shortest.j3 k x0 x1 x2 x3 x4 x13 x14 x17 x18 false x6000)) else (num_shortest.j3 k x0 x1 x2 x3 x4 x13 x14 x17 x18 false x6000)
def num_shortest.j3 : Nat → List Int → List Int → List Int → List Int → Bool → List Int → Int → Bool → Bool → Bool → Int → Option (List Int × Int)
 | 0, _, _, _, _, _, _, _, _, _, _, _ => none
 | k + 1, x0, x1, x2, x3, x4, x13, x14, x17, x18, x71, x6000 => if x71 = true then (num_shortest.l0 k x0 x1 x2 x3 x4 x13 (wrap64 (x6000 - 1))) else (if x17 = true then (num_shortest.j4 k x0 x1 x2 x3 x4 x13 x14 x17 x18 false x6000) else (num_shortest.j4 k x0 x1 x2 x3 x4 x13 x14 x17 x18 (!x18) x6000))
def num_shortest.j4 : Nat → List Int → List Int → List Int → List Int → Bool → List Int → Int → Bool → Bool → Bool → Int → Option (List Int × Int)
 | 0, _, _, _, _, _, _, _, _, _, _, _ => none
 | k + 1, x0, x1, x2, x3, x4, x13, x14, x17, x18, x82, x6000 => if x82 = true then (if x13.length < 140737488355328 then (num_shortest.l0 k x0 x1 x2 x3 x4 (x13 ++ [x14]) x6000) else (none)) else ((num_nat_up.f k x0 1).bind fun t201 => ((num_nat_against.f k t201 x1).bind fun t204 => (if x18 = true then (if x17 = true then (if t204 > 0 then (if x13.length < 140737488355328 then (some ((x13 ++ [(x14 + 1) % 256]), x6000)) else (none)) else (if t204 = 0 then (if (Int.tmod x14 2) = 1 then (if x13.length < 140737488355328 then (some ((x13 ++ [(x14 + 1) % 256]), x6000)) else (none)) else (if x13.length < 140737488355328 then (some ((x13 ++ [x14]), x6000)) else (none))) else (if x13.length < 140737488355328 then (some ((x13 ++ [x14]), x6000)) else (none)))) else (if x13.length < 140737488355328 then (some ((x13 ++ [(x14 + 1) % 256]), x6000)) else (none))) else (if x13.length < 140737488355328 then (some ((x13 ++ [x14]), x6000)) else (none)))))
end
def num_shortest.f (k : Nat) (l0 : List Int) (l1 : List Int) (l2 : List Int) (l3 : List Int) (a4 : Bool) (s5_0 : Int) : Option (List Int × Int) := num_shortest.l0 k l0 l1 l2 l3 a4 ([] : List Int) s5_0
theorem num_shortest.mono_l : ∀ k, (∀ y0 y1 y2 y3 y4 y5 y6, LeO (num_shortest.l0 k y0 y1 y2 y3 y4 y5 y6) (num_shortest.l0 (k + 1) y0 y1 y2 y3 y4 y5 y6)) ∧ (∀ y0 y1 y2 y3 y4 y5 y6 y7, LeO (num_shortest.l1 k y0 y1 y2 y3 y4 y5 y6 y7) (num_shortest.l1 (k + 1) y0 y1 y2 y3 y4 y5 y6 y7)) ∧ (∀ y0 y1 y2 y3 y4 y5 y6 y7 y8 y9, LeO (num_shortest.j2 k y0 y1 y2 y3 y4 y5 y6 y7 y8 y9) (num_shortest.j2 (k + 1) y0 y1 y2 y3 y4 y5 y6 y7 y8 y9)) ∧ (∀ y0 y1 y2 y3 y4 y5 y6 y7 y8 y9 y10, LeO (num_shortest.j3 k y0 y1 y2 y3 y4 y5 y6 y7 y8 y9 y10) (num_shortest.j3 (k + 1) y0 y1 y2 y3 y4 y5 y6 y7 y8 y9 y10)) ∧ (∀ y0 y1 y2 y3 y4 y5 y6 y7 y8 y9 y10, LeO (num_shortest.j4 k y0 y1 y2 y3 y4 y5 y6 y7 y8 y9 y10) (num_shortest.j4 (k + 1) y0 y1 y2 y3 y4 y5 y6 y7 y8 y9 y10))
 | 0 => ⟨fun _ _ _ _ _ _ _ r h => by simp [num_shortest.l0] at h, fun _ _ _ _ _ _ _ _ r h => by simp [num_shortest.l1] at h, fun _ _ _ _ _ _ _ _ _ _ r h => by simp [num_shortest.j2] at h, fun _ _ _ _ _ _ _ _ _ _ _ r h => by simp [num_shortest.j3] at h, fun _ _ _ _ _ _ _ _ _ _ _ r h => by simp [num_shortest.j4] at h⟩
 | k + 1 => by
  obtain ⟨ih0, ih1, ih2, ih3, ih4⟩ := num_shortest.mono_l k
  refine ⟨?_, ?_, ?_, ?_, ?_⟩
  ·
   intro y0 y1 y2 y3 y4 y5 y6
   unfold num_shortest.l0
   repeat' first | (with_reducible exact ih0 _ _ _ _ _ _ _) | (with_reducible exact ih1 _ _ _ _ _ _ _ _) | (with_reducible exact ih2 _ _ _ _ _ _ _ _ _ _) | (with_reducible exact ih3 _ _ _ _ _ _ _ _ _ _ _) | (with_reducible exact ih4 _ _ _ _ _ _ _ _ _ _ _) | (with_reducible exact num_nat_against.mono _ _ _) | (with_reducible exact num_nat_less.mono _ _ _) | (with_reducible exact num_nat_plus.mono _ _ _) | (with_reducible exact num_nat_tens.mono _ _ _) | (with_reducible exact num_nat_up.mono _ _ _) | (with_reducible exact LeO.refl _) | (with_reducible exact LeO.none _) | (with_reducible refine LeO.ite ?_ ?_) | (with_reducible refine LeO.bind ?_ (fun _ => ?_))
  ·
   intro y0 y1 y2 y3 y4 y5 y6 y7
   unfold num_shortest.l1
   repeat' first | (with_reducible exact ih0 _ _ _ _ _ _ _) | (with_reducible exact ih1 _ _ _ _ _ _ _ _) | (with_reducible exact ih2 _ _ _ _ _ _ _ _ _ _) | (with_reducible exact ih3 _ _ _ _ _ _ _ _ _ _ _) | (with_reducible exact ih4 _ _ _ _ _ _ _ _ _ _ _) | (with_reducible exact num_nat_against.mono _ _ _) | (with_reducible exact num_nat_less.mono _ _ _) | (with_reducible exact num_nat_plus.mono _ _ _) | (with_reducible exact num_nat_tens.mono _ _ _) | (with_reducible exact num_nat_up.mono _ _ _) | (with_reducible exact LeO.refl _) | (with_reducible exact LeO.none _) | (with_reducible refine LeO.ite ?_ ?_) | (with_reducible refine LeO.bind ?_ (fun _ => ?_))
  ·
   intro y0 y1 y2 y3 y4 y5 y6 y7 y8 y9
   unfold num_shortest.j2
   repeat' first | (with_reducible exact ih0 _ _ _ _ _ _ _) | (with_reducible exact ih1 _ _ _ _ _ _ _ _) | (with_reducible exact ih2 _ _ _ _ _ _ _ _ _ _) | (with_reducible exact ih3 _ _ _ _ _ _ _ _ _ _ _) | (with_reducible exact ih4 _ _ _ _ _ _ _ _ _ _ _) | (with_reducible exact num_nat_against.mono _ _ _) | (with_reducible exact num_nat_less.mono _ _ _) | (with_reducible exact num_nat_plus.mono _ _ _) | (with_reducible exact num_nat_tens.mono _ _ _) | (with_reducible exact num_nat_up.mono _ _ _) | (with_reducible exact LeO.refl _) | (with_reducible exact LeO.none _) | (with_reducible refine LeO.ite ?_ ?_) | (with_reducible refine LeO.bind ?_ (fun _ => ?_))
  ·
   intro y0 y1 y2 y3 y4 y5 y6 y7 y8 y9 y10
   unfold num_shortest.j3
   repeat' first | (with_reducible exact ih0 _ _ _ _ _ _ _) | (with_reducible exact ih1 _ _ _ _ _ _ _ _) | (with_reducible exact ih2 _ _ _ _ _ _ _ _ _ _) | (with_reducible exact ih3 _ _ _ _ _ _ _ _ _ _ _) | (with_reducible exact ih4 _ _ _ _ _ _ _ _ _ _ _) | (with_reducible exact num_nat_against.mono _ _ _) | (with_reducible exact num_nat_less.mono _ _ _) | (with_reducible exact num_nat_plus.mono _ _ _) | (with_reducible exact num_nat_tens.mono _ _ _) | (with_reducible exact num_nat_up.mono _ _ _) | (with_reducible exact LeO.refl _) | (with_reducible exact LeO.none _) | (with_reducible refine LeO.ite ?_ ?_) | (with_reducible refine LeO.bind ?_ (fun _ => ?_))
  ·
   intro y0 y1 y2 y3 y4 y5 y6 y7 y8 y9 y10
   unfold num_shortest.j4
   repeat' first | (with_reducible exact ih0 _ _ _ _ _ _ _) | (with_reducible exact ih1 _ _ _ _ _ _ _ _) | (with_reducible exact ih2 _ _ _ _ _ _ _ _ _ _) | (with_reducible exact ih3 _ _ _ _ _ _ _ _ _ _ _) | (with_reducible exact ih4 _ _ _ _ _ _ _ _ _ _ _) | (with_reducible exact num_nat_against.mono _ _ _) | (with_reducible exact num_nat_less.mono _ _ _) | (with_reducible exact num_nat_plus.mono _ _ _) | (with_reducible exact num_nat_tens.mono _ _ _) | (with_reducible exact num_nat_up.mono _ _ _) | (with_reducible exact LeO.refl _) | (with_reducible exact LeO.none _) | (with_reducible refine LeO.ite ?_ ?_) | (with_reducible refine LeO.bind ?_ (fun _ => ?_))
theorem num_shortest.mono : ∀ a0 a1 a2 a3 a4 a5 k, LeO (num_shortest.f k a0 a1 a2 a3 a4 a5) (num_shortest.f (k + 1) a0 a1 a2 a3 a4 a5) := by
 intro a0 a1 a2 a3 a4 a5 k
 obtain ⟨ih0, ih1, ih2, ih3, ih4⟩ := num_shortest.mono_l k
 unfold num_shortest.f
 repeat' first | (with_reducible exact ih0 _ _ _ _ _ _ _) | (with_reducible exact ih1 _ _ _ _ _ _ _ _) | (with_reducible exact ih2 _ _ _ _ _ _ _ _ _ _) | (with_reducible exact ih3 _ _ _ _ _ _ _ _ _ _ _) | (with_reducible exact ih4 _ _ _ _ _ _ _ _ _ _ _) | (with_reducible exact num_nat_against.mono _ _ _) | (with_reducible exact num_nat_less.mono _ _ _) | (with_reducible exact num_nat_plus.mono _ _ _) | (with_reducible exact num_nat_tens.mono _ _ _) | (with_reducible exact num_nat_up.mono _ _ _) | (with_reducible exact LeO.refl _) | (with_reducible exact LeO.none _) | (with_reducible refine LeO.ite ?_ ?_) | (with_reducible refine LeO.bind ?_ (fun _ => ?_))
set_option maxHeartbeats 8000000 in
set_option maxRecDepth 100000 in
theorem num_shortest.calls (k : Nat) (P0_ : Nat → Prop) (A0 : Option Addr) (c0 : Nat) (l0 : List Int) (A1 : Option Addr) (c1 : Nat) (l1 : List Int) (P2_ : Nat → Prop) (A2 : Option Addr) (c2 : Nat) (l2 : List Int) (P3_ : Nat → Prop) (A3 : Option Addr) (c3 : Nat) (l3 : List Int) (a4 : Bool) (g : Nat) (s5_0 : Int) (r1 : List Int) (r2 : Int) (w0 w : World) (hI : IsS3 w0 w g s5_0) (hB : Below w0.heap.size w0 w) (hs0 : Kd.V (Kd.int .u32) 102 w w.heap.size (fun k_ => P0_ k_ ∧ k_ ≠ g) (.slice A0 l0.length c0) l0) (hr1 : Kd.C (Kd.int .u32) w A1 l1.length l1) (hc1 : l1.length ≤ c1) (hf1 : ∀ ad, A1 = some ad → 0 < l1.length → ad.block ≠ g) (hs2 : Kd.V (Kd.int .u32) 102 w w.heap.size (fun k_ => P2_ k_ ∧ k_ ≠ g) (.slice A2 l2.length c2) l2) (hs3 : Kd.V (Kd.int .u32) 102 w w.heap.size (fun k_ => P3_ k_ ∧ k_ ≠ g) (.slice A3 l3.length c3) l3) (h : num_shortest.f k l0 l1 l2 l3 a4 s5_0 = some (r1, r2)) :
  Calls Tryd.prog 53 #[.slice A0 l0.length c0, .slice A1 l1.length c1, .slice A2 l2.length c2, .slice A3 l3.length c3, .bool a4, .pointer (some ⟨g, 0, none⟩)] w fun e w' => ∃ v0_ : Value, e = .returned (v0_) ∧ Kd.R (Kd.int .u8) 5 w' w.heap.size (fun k_ => (w.heap.size ≤ k_)) v0_ r1 ∧ IsS3 w0 w' g r2 ∧ Below w0.heap.size w0 w' ∧ KeepBut w w' g none := by
 have HO0 := Aside0.mk (show Kd.V (Kd.int .u32) 102 w w.heap.size (fun k_ => ((P0_ k_ ∨ P2_ k_ ∨ P3_ k_) ∨ w.heap.size ≤ k_) ∧ k_ ≠ g) (.slice A0 l0.length c0) l0 from Kd.V_mono hs0 (fun k_ hk => ⟨.inl (.inl hk.1), hk.2⟩))
 have HR1 := Aside0.mk hr1
 have HC1 := Aside0.mk hc1
 clear hr1 hc1
 have HO2 := Aside0.mk (show Kd.V (Kd.int .u32) 102 w w.heap.size (fun k_ => ((P0_ k_ ∨ P2_ k_ ∨ P3_ k_) ∨ w.heap.size ≤ k_) ∧ k_ ≠ g) (.slice A2 l2.length c2) l2 from Kd.V_mono hs2 (fun k_ hk => ⟨.inl (.inr (.inl hk.1)), hk.2⟩))
 have HO3 := Aside0.mk (show Kd.V (Kd.int .u32) 102 w w.heap.size (fun k_ => ((P0_ k_ ∨ P2_ k_ ∨ P3_ k_) ∨ w.heap.size ≤ k_) ∧ k_ ≠ g) (.slice A3 l3.length c3) l3 from Kd.V_mono hs3 (fun k_ hk => ⟨.inl (.inr (.inr hk.1)), hk.2⟩))
 have HI5 := Aside0.mk hI
 have HK := Aside0.mk (KeepBut.refl w g none)
 have HL := Aside0.mk hB.size
 clear hI
 have HW0 := Aside0.mk hB.size
 have HB := Aside0.mk hB
 clear hB
 have H : (num_shortest.l0 k l0 l1 l2 l3 a4 ([] : List Int) s5_0) = some (r1, r2) := h
 clear h
 have H' := Aside0.mk H
 clear H
 go_enter Tryd.func53, Tryd.ntmps53
 go_wp2
 go_loopg [0, 2, 3, 13] k (fun kq v0 v2 v3 v13 w' => ∃ (x0_1 : List Int) (x2_1 : List Int) (x3_1 : List Int) (x13_1 : List Int) (x6000_1 : Int), Aside0 (num_shortest.l0 kq x0_1 l1 x2_1 x3_1 a4 x13_1 x6000_1 = some (r1, r2)) ∧ Aside0 (kq ≤ k) ∧ Aside0 (Kd.V (Kd.int .u32) 102 w' w.heap.size (fun k_ => ((P0_ k_ ∨ P2_ k_ ∨ P3_ k_) ∨ w.heap.size ≤ k_) ∧ some k_ ≠ (v13 : Value).ownBlock ∧ k_ ≠ g) v0 x0_1) ∧ Aside0 (Kd.V (Kd.int .u32) 102 w' w.heap.size (fun k_ => ((P0_ k_ ∨ P2_ k_ ∨ P3_ k_) ∨ w.heap.size ≤ k_) ∧ some k_ ≠ (v13 : Value).ownBlock ∧ k_ ≠ g) v2 x2_1) ∧ Aside0 (Kd.V (Kd.int .u32) 102 w' w.heap.size (fun k_ => ((P0_ k_ ∨ P2_ k_ ∨ P3_ k_) ∨ w.heap.size ≤ k_) ∧ some k_ ≠ (v13 : Value).ownBlock ∧ k_ ≠ g) v3 x3_1) ∧ Aside0 (Kd.R (Kd.int .u8) 5 w' w.heap.size (fun k_ => (w.heap.size ≤ k_)) v13 x13_1) ∧ Aside0 (IsS3 w0 w' g x6000_1) ∧ Aside0 (KeepBut w w' g none) ∧ Aside0 (Below w0.heap.size w0 w'))
 case atStart => exact ⟨(l0), (l2), (l3), (([] : List Int)), (s5_0), H', ⟨Nat.le_refl _⟩, ⟨by (with_reducible repeat (first | apply Kd.V_alloc | apply Kd.V_drewN | apply Kd.V_drew)); exact Kd.V_mono HO0.out (fun _ hk => ⟨hk.1, ⟨(by simp [Value.ownBlock]), hk.2⟩⟩)⟩, ⟨by (with_reducible repeat (first | apply Kd.V_alloc | apply Kd.V_drewN | apply Kd.V_drew)); exact Kd.V_mono HO2.out (fun _ hk => ⟨hk.1, ⟨(by simp [Value.ownBlock]), hk.2⟩⟩)⟩, ⟨by (with_reducible repeat (first | apply Kd.V_alloc | apply Kd.V_drewN | apply Kd.V_drew)); exact Kd.V_mono HO3.out (fun _ hk => ⟨hk.1, ⟨(by simp [Value.ownBlock]), hk.2⟩⟩)⟩, ⟨by first | exact Kd.R_nil _ _ _ _ _ | exact Kd.N_nil _ _ _ _ _ | exact Kd.V_nil _ _ _ _ _ | exact Kd.Q_nil _ _ _ _ _ | exact Kd.S_nil _ _ _ _ _⟩, ⟨by repeat (first | (with_reducible first | exact HI5.out | apply IsS3.alloc | apply IsS3.drewN | apply IsS3.drew | apply IsS3.set_0) | exact HI5.out)⟩, ⟨by repeat (first | (with_reducible first | exact HK.out | apply KeepBut.set_ | apply keep_drewN | apply keep_drew | apply keep_alloc) | exact HK.out)⟩, ⟨by repeat (first | (with_reducible first | exact HB.out | apply below_alloc | apply pw_below_drewN | apply below_drew1 | refine below_set ?_ (IsS3.ge HI5.out)) | exact HB.out)⟩⟩
 case round =>
  clear H'
  try clear c1
  try clear c2
  try clear p2
  try clear c3
  try clear c5
  obtain ⟨x0_1, x2_1, x3_1, x13_1, x6000_1, HA, HK1, HO_0, HO_2, HO_3, HO_13, HI5, HK, HB⟩ := hrel
  cases gk with
  | zero => exact absurd HA.out (by simp [num_shortest.l0])
  | succ k1 =>
   have H := HA.out
   clear HA
   simp only [num_shortest.l0] at H
   replace H := Option.bind_eq_some_iff.mp H
   obtain ⟨t180, A70, H⟩ := H
   replace H : ((num_nat_tens.f k1 x2_1 1).bind fun t183 => ((num_nat_tens.f k1 x3_1 1).bind fun t186 => (num_shortest.l1 k1 t180 l1 t183 t186 a4 x13_1 48 x6000_1))) = some (r1, r2) := H
   have A7 := Aside0.mk A70
   clear A70
   replace H := Option.bind_eq_some_iff.mp H
   obtain ⟨t183, A80, H⟩ := H
   replace H : ((num_nat_tens.f k1 x3_1 1).bind fun t186 => (num_shortest.l1 k1 t180 l1 t183 t186 a4 x13_1 48 x6000_1)) = some (r1, r2) := H
   have A8 := Aside0.mk A80
   clear A80
   replace H := Option.bind_eq_some_iff.mp H
   obtain ⟨t186, A90, H⟩ := H
   replace H : (num_shortest.l1 k1 t180 l1 t183 t186 a4 x13_1 48 x6000_1) = some (r1, r2) := H
   have A9 := Aside0.mk A90
   clear A90
   have H' := Aside0.mk H
   clear H
   obtain ⟨Ao10, co10, eo10⟩ := Kd.V_slice HO_0.out
   subst eo10
   go_wp2_with (first | ((with_reducible refine gate_callee (f := 52) rfl ?_); refine gL (some 21) Tryd.func52 #[.slice Ao10 x0_1.length co10, .int .i64 1] ?_; (with_reducible refine (num_nat_tens.calls k1 (fun k_ => (((P0_ k_ ∨ P2_ k_ ∨ P3_ k_) ∨ w.heap.size ≤ k_) ∧ (some k_ ≠ (u13 : Value).ownBlock ∧ k_ ≠ g))) _ _ x0_1 1 t180 _ ?side1 A7.out).mono ?_); (case side1 => exact HO_0.out); rintro e w11 ⟨v181, rfl, ho0, hb⟩; refine ⟨_, rfl, ?_⟩; have n0_ := vb HO_0 hb; have n1_ := vb HO_2 hb; have n2_ := vb HO_3 hb; have n3_ := Aside0.mk (Kd.R_below (rk HO_13) hb); have n4_ := Aside0.mk (Kd.V_lower (Kd.V_mono (ok' := fun k_ => ((P0_ k_ ∨ P2_ k_ ∨ P3_ k_) ∨ w.heap.size ≤ k_) ∧ some k_ ≠ (u13 : Value).ownBlock ∧ k_ ≠ g) ho0 (fun k_ hk_ => ⟨Or.elim hk_ (fun hs_ => hs_.1) (fun hn_ => (.inr (Nat.le_trans (keep_size (kk HK)) hn_))), Or.elim hk_ (fun hs_ => hs_.2.1) (fun hn_ => (Kd.fresh' (Kd.R_lt (rk HO_13)) k_ hn_)), Or.elim hk_ (fun hs_ => hs_.2.2) (fun hn_ => (IsS3.fresh (by repeat (first | (with_reducible first | exact HI5.out | apply IsS3.alloc | apply IsS3.drewN | apply IsS3.drew | apply IsS3.set_0) | exact HI5.out)) k_ hn_))⟩)) (keep_size (kk HK))); have n5_ := Aside0.mk (IsS3.below (by repeat (first | (with_reducible first | exact HI5.out | apply IsS3.alloc | apply IsS3.drewN | apply IsS3.drew | apply IsS3.set_0) | exact HI5.out)) hb); have n6_ := Aside0.mk (KeepBut.trans (kk HK) (KeepBut.of_below hb g none) (.inl rfl)); have n7_ := Aside0.mk (below_step (by repeat (first | (with_reducible first | exact HB.out | apply below_alloc | apply pw_below_drewN | apply below_drew1 | refine below_set ?_ (IsS3.ge HI5.out)) | exact HB.out)) hb); clear HO_0 HO_2 HO_3 HO_13 HI5 HK HB; have HO_0 := n0_; have HO_2 := n1_; have HO_3 := n2_; have HO_13 := n3_; have HO182 := n4_; have HI5 := n5_; have HK := n6_; have HB := n7_; clear n0_ n1_ n2_ n3_ n4_ n5_ n6_ n7_; (try clear hb); (try clear hb2); (try clear hk); (try clear hi); (try clear ho0); obtain ⟨Ao12, co12, eo12⟩ := Kd.V_slice HO_2.out; subst eo12) | ((with_reducible refine gate_callee (f := 52) rfl ?_); refine gL (some 23) Tryd.func52 #[.slice Ao12 x2_1.length co12, .int .i64 1] ?_; (with_reducible refine (num_nat_tens.calls k1 (fun k_ => (((P0_ k_ ∨ P2_ k_ ∨ P3_ k_) ∨ w.heap.size ≤ k_) ∧ (some k_ ≠ (u13 : Value).ownBlock ∧ k_ ≠ g))) _ _ x2_1 1 t183 _ ?side1 A8.out).mono ?_); (case side1 => exact HO_2.out); rintro e w13 ⟨v184, rfl, ho0, hb⟩; refine ⟨_, rfl, ?_⟩; have n0_ := vb HO_0 hb; have n1_ := vb HO_2 hb; have n2_ := vb HO_3 hb; have n3_ := Aside0.mk (Kd.R_below (rk HO_13) hb); have n4_ := vb HO182 hb; have n5_ := Aside0.mk (Kd.V_lower (Kd.V_mono (ok' := fun k_ => ((P0_ k_ ∨ P2_ k_ ∨ P3_ k_) ∨ w.heap.size ≤ k_) ∧ some k_ ≠ (u13 : Value).ownBlock ∧ k_ ≠ g) ho0 (fun k_ hk_ => ⟨Or.elim hk_ (fun hs_ => hs_.1) (fun hn_ => (.inr (Nat.le_trans (keep_size (kk HK)) hn_))), Or.elim hk_ (fun hs_ => hs_.2.1) (fun hn_ => (Kd.fresh' (Kd.R_lt (rk HO_13)) k_ hn_)), Or.elim hk_ (fun hs_ => hs_.2.2) (fun hn_ => (IsS3.fresh (by repeat (first | (with_reducible first | exact HI5.out | apply IsS3.alloc | apply IsS3.drewN | apply IsS3.drew | apply IsS3.set_0) | exact HI5.out)) k_ hn_))⟩)) (keep_size (kk HK))); have n6_ := Aside0.mk (IsS3.below (by repeat (first | (with_reducible first | exact HI5.out | apply IsS3.alloc | apply IsS3.drewN | apply IsS3.drew | apply IsS3.set_0) | exact HI5.out)) hb); have n7_ := Aside0.mk (KeepBut.trans (kk HK) (KeepBut.of_below hb g none) (.inl rfl)); have n8_ := Aside0.mk (below_step (by repeat (first | (with_reducible first | exact HB.out | apply below_alloc | apply pw_below_drewN | apply below_drew1 | refine below_set ?_ (IsS3.ge HI5.out)) | exact HB.out)) hb); clear HO_0 HO_2 HO_3 HO_13 HO182 HI5 HK HB; have HO_0 := n0_; have HO_2 := n1_; have HO_3 := n2_; have HO_13 := n3_; have HO182 := n4_; have HO185 := n5_; have HI5 := n6_; have HK := n7_; have HB := n8_; clear n0_ n1_ n2_ n3_ n4_ n5_ n6_ n7_ n8_; (try clear hb); (try clear hb2); (try clear hk); (try clear hi); (try clear ho0); obtain ⟨Ao14, co14, eo14⟩ := Kd.V_slice HO_3.out; subst eo14) | ((with_reducible refine gate_callee (f := 52) rfl ?_); refine gL (some 25) Tryd.func52 #[.slice Ao14 x3_1.length co14, .int .i64 1] ?_; (with_reducible refine (num_nat_tens.calls k1 (fun k_ => (((P0_ k_ ∨ P2_ k_ ∨ P3_ k_) ∨ w.heap.size ≤ k_) ∧ (some k_ ≠ (u13 : Value).ownBlock ∧ k_ ≠ g))) _ _ x3_1 1 t186 _ ?side1 A9.out).mono ?_); (case side1 => exact HO_3.out); rintro e w15 ⟨v187, rfl, ho0, hb⟩; refine ⟨_, rfl, ?_⟩; have n0_ := vb HO_0 hb; have n1_ := vb HO_2 hb; have n2_ := vb HO_3 hb; have n3_ := Aside0.mk (Kd.R_below (rk HO_13) hb); have n4_ := vb HO182 hb; have n5_ := vb HO185 hb; have n6_ := Aside0.mk (Kd.V_lower (Kd.V_mono (ok' := fun k_ => ((P0_ k_ ∨ P2_ k_ ∨ P3_ k_) ∨ w.heap.size ≤ k_) ∧ some k_ ≠ (u13 : Value).ownBlock ∧ k_ ≠ g) ho0 (fun k_ hk_ => ⟨Or.elim hk_ (fun hs_ => hs_.1) (fun hn_ => (.inr (Nat.le_trans (keep_size (kk HK)) hn_))), Or.elim hk_ (fun hs_ => hs_.2.1) (fun hn_ => (Kd.fresh' (Kd.R_lt (rk HO_13)) k_ hn_)), Or.elim hk_ (fun hs_ => hs_.2.2) (fun hn_ => (IsS3.fresh (by repeat (first | (with_reducible first | exact HI5.out | apply IsS3.alloc | apply IsS3.drewN | apply IsS3.drew | apply IsS3.set_0) | exact HI5.out)) k_ hn_))⟩)) (keep_size (kk HK))); have n7_ := Aside0.mk (IsS3.below (by repeat (first | (with_reducible first | exact HI5.out | apply IsS3.alloc | apply IsS3.drewN | apply IsS3.drew | apply IsS3.set_0) | exact HI5.out)) hb); have n8_ := Aside0.mk (KeepBut.trans (kk HK) (KeepBut.of_below hb g none) (.inl rfl)); have n9_ := Aside0.mk (below_step (by repeat (first | (with_reducible first | exact HB.out | apply below_alloc | apply pw_below_drewN | apply below_drew1 | refine below_set ?_ (IsS3.ge HI5.out)) | exact HB.out)) hb); clear HO_0 HO_2 HO_3 HO_13 HO182 HO185 HI5 HK HB; have HO_0 := n0_; have HO_2 := n1_; have HO_3 := n2_; have HO_13 := n3_; have HO182 := n4_; have HO185 := n5_; have HO188 := n6_; have HI5 := n7_; have HK := n8_; have HB := n9_; clear n0_ n1_ n2_ n3_ n4_ n5_ n6_ n7_ n8_ n9_; (try clear hb); (try clear hb2); (try clear hk); (try clear hi); (try clear ho0)))
   go_loopg [0, 14] k1 (fun kq v0 v14 w' => ∃ (x0_2 : List Int) (x14_2 : Int), v14 = .int .u8 x14_2 ∧ Aside0 (num_shortest.l1 kq x0_2 l1 t183 t186 a4 x13_1 x14_2 x6000_1 = some (r1, r2)) ∧ Aside0 (kq ≤ k1) ∧ Aside0 (Kd.V (Kd.int .u32) 102 w' w.heap.size (fun k_ => ((P0_ k_ ∨ P2_ k_ ∨ P3_ k_) ∨ w.heap.size ≤ k_) ∧ some k_ ≠ (u13 : Value).ownBlock ∧ k_ ≠ g) v0 x0_2) ∧ Aside0 (Kd.V (Kd.int .u32) 102 w' w.heap.size (fun k_ => ((P0_ k_ ∨ P2_ k_ ∨ P3_ k_) ∨ w.heap.size ≤ k_) ∧ some k_ ≠ (u13 : Value).ownBlock ∧ k_ ≠ g) v184 t183) ∧ Aside0 (Kd.V (Kd.int .u32) 102 w' w.heap.size (fun k_ => ((P0_ k_ ∨ P2_ k_ ∨ P3_ k_) ∨ w.heap.size ≤ k_) ∧ some k_ ≠ (u13 : Value).ownBlock ∧ k_ ≠ g) v187 t186) ∧ Aside0 (Kd.R (Kd.int .u8) 5 w' w.heap.size (fun k_ => (w.heap.size ≤ k_)) u13 x13_1) ∧ Aside0 (IsS3 w0 w' g x6000_1) ∧ Aside0 (KeepBut w w' g none) ∧ Aside0 (Below w0.heap.size w0 w'))
   case atStart => exact ⟨(t180), (48), (by first | rfl | (simp; done) | (simp [*]; done)), H', ⟨Nat.le_refl _⟩, ⟨by (with_reducible repeat (first | apply Kd.V_alloc | apply Kd.V_drewN | apply Kd.V_drew)); exact HO182.out⟩, ⟨by (with_reducible repeat (first | apply Kd.V_alloc | apply Kd.V_drewN | apply Kd.V_drew)); exact HO185.out⟩, ⟨by (with_reducible repeat (first | apply Kd.V_alloc | apply Kd.V_drewN | apply Kd.V_drew)); exact HO188.out⟩, ⟨by (with_reducible repeat (first | apply Kd.R_alloc | apply Kd.R_drewN | apply Kd.R_drew)); exact HO_13.out⟩, ⟨by repeat (first | (with_reducible first | exact HI5.out | apply IsS3.alloc | apply IsS3.drewN | apply IsS3.drew | apply IsS3.set_0) | exact HI5.out)⟩, ⟨by repeat (first | (with_reducible first | exact HK.out | apply KeepBut.set_ | apply keep_drewN | apply keep_drew | apply keep_alloc) | exact HK.out)⟩, ⟨by repeat (first | (with_reducible first | exact HB.out | apply below_alloc | apply pw_below_drewN | apply below_drew1 | refine below_set ?_ (IsS3.ge HI5.out)) | exact HB.out)⟩⟩
   case round =>
    clear H'
    try clear c1
    try clear c2
    try clear p2
    try clear c3
    try clear c5
    try clear p2
    obtain ⟨x0_2, x14_2, rfl, HA, HK2, HO_0, HO_2, HO_3, HO_13, HI5, HK, HB⟩ := hrel
    cases gk with
    | zero => exact absurd HA.out (by simp [num_shortest.l1])
    | succ k2 =>
     have H := HA.out
     clear HA
     simp only [num_shortest.l1] at H
     replace H := Option.bind_eq_some_iff.mp H
     obtain ⟨t189, A160, H⟩ := H
     replace H : (if t189 ≥ 0 then ((num_nat_less.f k2 x0_2 l1).bind fun t190 => (num_shortest.l1 k2 t190 l1 t183 t186 a4 x13_1 ((x14_2 + 1) % 256) x6000_1)) else ((num_nat_against.f k2 x0_2 t183).bind fun t193 => ((num_nat_plus.f k2 x0_2 t186).bind fun t194 => ((num_nat_against.f k2 t194 l1).bind fun t197 => (if t193 < 0 then (if t197 > 0 then (num_shortest.j2 k2 x0_2 l1 t183 t186 a4 x13_1 x14_2 true true x6000_1) else (if t197 = 0 then (num_shortest.j2 k2 x0_2 l1 t183 t186 a4 x13_1 x14_2 true a4 x6000_1) else (num_shortest.j2 k2 x0_2 l1 t183 t186 a4 x13_1 x14_2 true false x6000_1))) else (if t193 = 0 then (if t197 > 0 then (num_shortest.j2 k2 x0_2 l1 t183 t186 a4 x13_1 x14_2 a4 true x6000_1) else (if t197 = 0 then (num_shortest.j2 k2 x0_2 l1 t183 t186 a4 x13_1 x14_2 a4 a4 x6000_1) else (num_shortest.j2 k2 x0_2 l1 t183 t186 a4 x13_1 x14_2 a4 false x6000_1))) else (if t197 > 0 then (num_shortest.j2 k2 x0_2 l1 t183 t186 a4 x13_1 x14_2 false true x6000_1) else (if t197 = 0 then (num_shortest.j2 k2 x0_2 l1 t183 t186 a4 x13_1 x14_2 false a4 x6000_1) else (num_shortest.j2 k2 x0_2 l1 t183 t186 a4 x13_1 x14_2 false false x6000_1))))))))) = some (r1, r2) := H
     have A16 := Aside0.mk A160
     clear A160
     by_cases c17 : t189 ≥ 0
     ·
      rw [if_pos c17] at H
      have c17b0 : decide (0 ≤ t189) = true := decide_eq_true c17
      clear c17
      replace H := Option.bind_eq_some_iff.mp H
      obtain ⟨t190, A180, H⟩ := H
      replace H : (num_shortest.l1 k2 t190 l1 t183 t186 a4 x13_1 ((x14_2 + 1) % 256) x6000_1) = some (r1, r2) := H
      have A18 := Aside0.mk A180
      clear A180
      have H' := Aside0.mk H
      clear H
      obtain ⟨Ao19, co19, eo19⟩ := Kd.V_slice HO_0.out
      subst eo19
      go_wp2_with (first | ((with_reducible refine gate_callee (f := 49) rfl ?_); refine gL (some 28) Tryd.func49 #[.slice Ao19 x0_2.length co19, .slice A1 l1.length c1] ?_; (with_reducible refine (num_nat_against.calls k2 _ _ x0_2 _ _ l1 t189 _ ?side1 ?side2 ?side3 ?side4 A16.out).mono ?_); (case side1 => exact ck (Kd.V_reads' HO_0.out).2.2); (case side2 => exact (Kd.V_reads' HO_0.out).2.1); (case side3 => exact Kd.C_keep 0 HR1.out (kk HK) hf1); (case side4 => exact HC1.out); rintro e w' ⟨rfl, ⟨nd, rfl⟩⟩; refine ⟨_, rfl, ?_⟩) | ((with_reducible refine gate_callee (f := 87) rfl ?_); refine gL (some 32) Tryd.func87 #[.slice Ao19 x0_2.length co19, .slice A1 l1.length c1] ?_; (with_reducible refine (num_nat_less.calls k2 _ _ x0_2 _ _ l1 t190 _ ?side1 ?side2 ?side3 ?side4 A18.out).mono ?_); (case side1 => exact ck (Kd.V_reads' HO_0.out).2.2); (case side2 => exact (Kd.V_reads' HO_0.out).2.1); (case side3 => exact Kd.C_keep 0 HR1.out (kk HK) hf1); (case side4 => exact HC1.out); rintro e w20 ⟨v191, rfl, ho0, hb⟩; refine ⟨_, rfl, ?_⟩; have n0_ := vb HO_0 hb; have n1_ := vb HO_2 hb; have n2_ := vb HO_3 hb; have n3_ := Aside0.mk (Kd.R_below (rk HO_13) hb); have n4_ := Aside0.mk (Kd.V_lower (Kd.V_mono (ok' := fun k_ => ((P0_ k_ ∨ P2_ k_ ∨ P3_ k_) ∨ w.heap.size ≤ k_) ∧ some k_ ≠ (u13 : Value).ownBlock ∧ k_ ≠ g) ho0 (fun k_ hk_ => ⟨(.inr (Nat.le_trans (keep_size (kk HK)) hk_)), (Kd.fresh' (Kd.R_lt (rk HO_13)) k_ hk_), (IsS3.fresh (by repeat (first | (with_reducible first | exact HI5.out | apply IsS3.alloc | apply IsS3.drewN | apply IsS3.drew | apply IsS3.set_0) | exact HI5.out)) k_ hk_)⟩)) (keep_size (kk HK))); have n5_ := Aside0.mk (IsS3.below (by repeat (first | (with_reducible first | exact HI5.out | apply IsS3.alloc | apply IsS3.drewN | apply IsS3.drew | apply IsS3.set_0) | exact HI5.out)) hb); have n6_ := Aside0.mk (KeepBut.trans (kk HK) (KeepBut.of_below hb g none) (.inl rfl)); have n7_ := Aside0.mk (below_step (by repeat (first | (with_reducible first | exact HB.out | apply below_alloc | apply pw_below_drewN | apply below_drew1 | refine below_set ?_ (IsS3.ge HI5.out)) | exact HB.out)) hb); clear HO_0 HO_2 HO_3 HO_13 HI5 HK HB; have HO_0 := n0_; have HO_2 := n1_; have HO_3 := n2_; have HO_13 := n3_; have HO192 := n4_; have HI5 := n5_; have HK := n6_; have HB := n7_; clear n0_ n1_ n2_ n3_ n4_ n5_ n6_ n7_; (try clear hb); (try clear hb2); (try clear hk); (try clear hi); (try clear ho0)))
      go_roundg k2
      case measure => have := HK1.out; have := HK2.out; omega
      case rel => exact ⟨(t190), ((x14_2 + 1) % 256), (by first | rfl | (simp; done) | (simp [*]; done)), H', ⟨by have := HK1.out; have := HK2.out; omega⟩, ⟨by (with_reducible repeat (first | apply Kd.V_alloc | apply Kd.V_drewN | apply Kd.V_drew)); exact HO192.out⟩, ⟨by (with_reducible repeat (first | apply Kd.V_alloc | apply Kd.V_drewN | apply Kd.V_drew)); exact HO_2.out⟩, ⟨by (with_reducible repeat (first | apply Kd.V_alloc | apply Kd.V_drewN | apply Kd.V_drew)); exact HO_3.out⟩, ⟨by (with_reducible repeat (first | apply Kd.R_alloc | apply Kd.R_drewN | apply Kd.R_drew)); exact HO_13.out⟩, ⟨by repeat (first | (with_reducible first | exact HI5.out | apply IsS3.alloc | apply IsS3.drewN | apply IsS3.drew | apply IsS3.set_0) | exact HI5.out)⟩, ⟨by repeat (first | (with_reducible first | exact HK.out | apply KeepBut.set_ | apply keep_drewN | apply keep_drew | apply keep_alloc) | exact HK.out)⟩, ⟨by repeat (first | (with_reducible first | exact HB.out | apply below_alloc | apply pw_below_drewN | apply below_drew1 | refine below_set ?_ (IsS3.ge HI5.out)) | exact HB.out)⟩⟩
     ·
      rw [if_neg c17] at H
      have c17b0 : decide (0 ≤ t189) = false := decide_eq_false c17
      clear c17
      replace H := Option.bind_eq_some_iff.mp H
      obtain ⟨t193, A210, H⟩ := H
      replace H : ((num_nat_plus.f k2 x0_2 t186).bind fun t194 => ((num_nat_against.f k2 t194 l1).bind fun t197 => (if t193 < 0 then (if t197 > 0 then (num_shortest.j2 k2 x0_2 l1 t183 t186 a4 x13_1 x14_2 true true x6000_1) else (if t197 = 0 then (num_shortest.j2 k2 x0_2 l1 t183 t186 a4 x13_1 x14_2 true a4 x6000_1) else (num_shortest.j2 k2 x0_2 l1 t183 t186 a4 x13_1 x14_2 true false x6000_1))) else (if t193 = 0 then (if t197 > 0 then (num_shortest.j2 k2 x0_2 l1 t183 t186 a4 x13_1 x14_2 a4 true x6000_1) else (if t197 = 0 then (num_shortest.j2 k2 x0_2 l1 t183 t186 a4 x13_1 x14_2 a4 a4 x6000_1) else (num_shortest.j2 k2 x0_2 l1 t183 t186 a4 x13_1 x14_2 a4 false x6000_1))) else (if t197 > 0 then (num_shortest.j2 k2 x0_2 l1 t183 t186 a4 x13_1 x14_2 false true x6000_1) else (if t197 = 0 then (num_shortest.j2 k2 x0_2 l1 t183 t186 a4 x13_1 x14_2 false a4 x6000_1) else (num_shortest.j2 k2 x0_2 l1 t183 t186 a4 x13_1 x14_2 false false x6000_1))))))) = some (r1, r2) := H
      have A21 := Aside0.mk A210
      clear A210
      replace H := Option.bind_eq_some_iff.mp H
      obtain ⟨t194, A220, H⟩ := H
      replace H : ((num_nat_against.f k2 t194 l1).bind fun t197 => (if t193 < 0 then (if t197 > 0 then (num_shortest.j2 k2 x0_2 l1 t183 t186 a4 x13_1 x14_2 true true x6000_1) else (if t197 = 0 then (num_shortest.j2 k2 x0_2 l1 t183 t186 a4 x13_1 x14_2 true a4 x6000_1) else (num_shortest.j2 k2 x0_2 l1 t183 t186 a4 x13_1 x14_2 true false x6000_1))) else (if t193 = 0 then (if t197 > 0 then (num_shortest.j2 k2 x0_2 l1 t183 t186 a4 x13_1 x14_2 a4 true x6000_1) else (if t197 = 0 then (num_shortest.j2 k2 x0_2 l1 t183 t186 a4 x13_1 x14_2 a4 a4 x6000_1) else (num_shortest.j2 k2 x0_2 l1 t183 t186 a4 x13_1 x14_2 a4 false x6000_1))) else (if t197 > 0 then (num_shortest.j2 k2 x0_2 l1 t183 t186 a4 x13_1 x14_2 false true x6000_1) else (if t197 = 0 then (num_shortest.j2 k2 x0_2 l1 t183 t186 a4 x13_1 x14_2 false a4 x6000_1) else (num_shortest.j2 k2 x0_2 l1 t183 t186 a4 x13_1 x14_2 false false x6000_1)))))) = some (r1, r2) := H
      have A22 := Aside0.mk A220
      clear A220
      replace H := Option.bind_eq_some_iff.mp H
      obtain ⟨t197, A230, H⟩ := H
      replace H : (if t193 < 0 then (if t197 > 0 then (num_shortest.j2 k2 x0_2 l1 t183 t186 a4 x13_1 x14_2 true true x6000_1) else (if t197 = 0 then (num_shortest.j2 k2 x0_2 l1 t183 t186 a4 x13_1 x14_2 true a4 x6000_1) else (num_shortest.j2 k2 x0_2 l1 t183 t186 a4 x13_1 x14_2 true false x6000_1))) else (if t193 = 0 then (if t197 > 0 then (num_shortest.j2 k2 x0_2 l1 t183 t186 a4 x13_1 x14_2 a4 true x6000_1) else (if t197 = 0 then (num_shortest.j2 k2 x0_2 l1 t183 t186 a4 x13_1 x14_2 a4 a4 x6000_1) else (num_shortest.j2 k2 x0_2 l1 t183 t186 a4 x13_1 x14_2 a4 false x6000_1))) else (if t197 > 0 then (num_shortest.j2 k2 x0_2 l1 t183 t186 a4 x13_1 x14_2 false true x6000_1) else (if t197 = 0 then (num_shortest.j2 k2 x0_2 l1 t183 t186 a4 x13_1 x14_2 false a4 x6000_1) else (num_shortest.j2 k2 x0_2 l1 t183 t186 a4 x13_1 x14_2 false false x6000_1))))) = some (r1, r2) := H
      have A23 := Aside0.mk A230
      clear A230
      have HC24 := Aside0.mk H
      clear H
      obtain ⟨Ao25, co25, eo25⟩ := Kd.V_slice HO_0.out
      subst eo25
      go_upto_region 8 with (first | ((with_reducible refine gate_callee (f := 49) rfl ?_); refine gL (some 28) Tryd.func49 #[.slice Ao25 x0_2.length co25, .slice A1 l1.length c1] ?_; (with_reducible refine (num_nat_against.calls k2 _ _ x0_2 _ _ l1 t189 _ ?side1 ?side2 ?side3 ?side4 A16.out).mono ?_); (case side1 => exact ck (Kd.V_reads' HO_0.out).2.2); (case side2 => exact (Kd.V_reads' HO_0.out).2.1); (case side3 => exact Kd.C_keep 0 HR1.out (kk HK) hf1); (case side4 => exact HC1.out); rintro e w' ⟨rfl, ⟨nd, rfl⟩⟩; refine ⟨_, rfl, ?_⟩; obtain ⟨Ao26, co26, eo26⟩ := Kd.V_slice HO_2.out; subst eo26) | ((with_reducible refine gate_callee (f := 49) rfl ?_); refine gL (some 37) Tryd.func49 #[.slice Ao25 x0_2.length co25, .slice Ao26 t183.length co26] ?_; (with_reducible refine (num_nat_against.calls k2 _ _ x0_2 _ _ t183 t193 _ ?side1 ?side2 ?side3 ?side4 A21.out).mono ?_); (case side1 => exact ck (Kd.V_reads' HO_0.out).2.2); (case side2 => exact (Kd.V_reads' HO_0.out).2.1); (case side3 => exact ck (Kd.V_reads' HO_2.out).2.2); (case side4 => exact (Kd.V_reads' HO_2.out).2.1); rintro e w' ⟨rfl, ⟨nd, rfl⟩⟩; refine ⟨_, rfl, ?_⟩; obtain ⟨Ao27, co27, eo27⟩ := Kd.V_slice HO_3.out; subst eo27) | ((with_reducible refine gate_callee (f := 48) rfl ?_); refine gL (some 40) Tryd.func48 #[.slice Ao25 x0_2.length co25, .slice Ao27 t186.length co27] ?_; (with_reducible refine (num_nat_plus.calls k2 _ _ x0_2 _ _ t186 t194 _ ?side1 ?side2 ?side3 ?side4 A22.out).mono ?_); (case side1 => exact ck (Kd.V_reads' HO_0.out).2.2); (case side2 => exact (Kd.V_reads' HO_0.out).2.1); (case side3 => exact ck (Kd.V_reads' HO_3.out).2.2); (case side4 => exact (Kd.V_reads' HO_3.out).2.1); rintro e w28 ⟨v195, rfl, ho0, hb⟩; refine ⟨_, rfl, ?_⟩; have n0_ := vb HO_0 hb; have n1_ := vb HO_2 hb; have n2_ := vb HO_3 hb; have n3_ := Aside0.mk (Kd.R_below (rk HO_13) hb); have n4_ := Aside0.mk (Kd.V_lower (Kd.V_mono (ok' := fun k_ => ((P0_ k_ ∨ P2_ k_ ∨ P3_ k_) ∨ w.heap.size ≤ k_) ∧ some k_ ≠ (u13 : Value).ownBlock ∧ k_ ≠ g) ho0 (fun k_ hk_ => ⟨(.inr (Nat.le_trans (keep_size (kk HK)) hk_)), (Kd.fresh' (Kd.R_lt (rk HO_13)) k_ hk_), (IsS3.fresh (by repeat (first | (with_reducible first | exact HI5.out | apply IsS3.alloc | apply IsS3.drewN | apply IsS3.drew | apply IsS3.set_0) | exact HI5.out)) k_ hk_)⟩)) (keep_size (kk HK))); have n5_ := Aside0.mk (IsS3.below (by repeat (first | (with_reducible first | exact HI5.out | apply IsS3.alloc | apply IsS3.drewN | apply IsS3.drew | apply IsS3.set_0) | exact HI5.out)) hb); have n6_ := Aside0.mk (KeepBut.trans (kk HK) (KeepBut.of_below hb g none) (.inl rfl)); have n7_ := Aside0.mk (below_step (by repeat (first | (with_reducible first | exact HB.out | apply below_alloc | apply pw_below_drewN | apply below_drew1 | refine below_set ?_ (IsS3.ge HI5.out)) | exact HB.out)) hb); clear HO_0 HO_2 HO_3 HO_13 HI5 HK HB; have HO_0 := n0_; have HO_2 := n1_; have HO_3 := n2_; have HO_13 := n3_; have HO196 := n4_; have HI5 := n5_; have HK := n6_; have HB := n7_; clear n0_ n1_ n2_ n3_ n4_ n5_ n6_ n7_; (try clear hb); (try clear hb2); (try clear hk); (try clear hi); (try clear ho0); obtain ⟨Ao29, co29, eo29⟩ := Kd.V_slice HO196.out; subst eo29) | ((with_reducible refine gate_callee (f := 49) rfl ?_); refine gL (some 42) Tryd.func49 #[.slice Ao29 t194.length co29, .slice A1 l1.length c1] ?_; (with_reducible refine (num_nat_against.calls k2 _ _ t194 _ _ l1 t197 _ ?side1 ?side2 ?side3 ?side4 A23.out).mono ?_); (case side1 => exact ck (Kd.V_reads' HO196.out).2.2); (case side2 => exact (Kd.V_reads' HO196.out).2.1); (case side3 => exact Kd.C_keep 0 HR1.out (kk HK) hf1); (case side4 => exact HC1.out); rintro e w' ⟨rfl, ⟨nd, rfl⟩⟩; refine ⟨_, rfl, ?_⟩))
      (try simp only [Act.put, List.setIfInBounds_toArray, List.set_cons_zero, List.set_cons_succ])
      go_cut [17, 18] (fun v17 v18 wc => ∃ (kq : Nat) (x17_23 : Bool) (x18_23 : Bool), v17 = .bool x17_23 ∧ v18 = .bool x18_23 ∧ Aside0 (num_shortest.j2 kq x0_2 l1 t183 t186 a4 x13_1 x14_2 x17_23 x18_23 x6000_1 = some (r1, r2)) ∧ Aside0 (kq ≤ k2) ∧ Aside0 (Kd.V (Kd.int .u32) 102 wc w.heap.size (fun k_ => ((P0_ k_ ∨ P2_ k_ ∨ P3_ k_) ∨ w.heap.size ≤ k_) ∧ some k_ ≠ (u13 : Value).ownBlock ∧ k_ ≠ g) (.slice Ao25 x0_2.length co25) x0_2) ∧ Aside0 (Kd.V (Kd.int .u32) 102 wc w.heap.size (fun k_ => ((P0_ k_ ∨ P2_ k_ ∨ P3_ k_) ∨ w.heap.size ≤ k_) ∧ some k_ ≠ (u13 : Value).ownBlock ∧ k_ ≠ g) (.slice Ao26 t183.length co26) t183) ∧ Aside0 (Kd.V (Kd.int .u32) 102 wc w.heap.size (fun k_ => ((P0_ k_ ∨ P2_ k_ ∨ P3_ k_) ∨ w.heap.size ≤ k_) ∧ some k_ ≠ (u13 : Value).ownBlock ∧ k_ ≠ g) (.slice Ao27 t186.length co27) t186) ∧ Aside0 (Kd.R (Kd.int .u8) 5 wc w.heap.size (fun k_ => (w.heap.size ≤ k_)) u13 x13_1) ∧ Aside0 (IsS3 w0 wc g x6000_1) ∧ Aside0 (KeepBut w wc g none) ∧ Aside0 (Below w0.heap.size w0 wc))
      case first =>
       have H := HC24.out
       clear HC24
       by_cases c30 : t193 < 0
       ·
        rw [if_pos c30] at H
        have c30b0 : decide (t193 < 0) = true := decide_eq_true c30
        clear c30
        (first | rw [c30b0] | (simp only [i64_w, i32_w]; rw [c30b0]) | skip)
        by_cases c31 : t197 > 0
        ·
         rw [if_pos c31] at H
         have c31b0 : decide (0 < t197) = true := decide_eq_true c31
         clear c31
         have H' := Aside0.mk H
         clear H
         go_wp2
         go_meet
         case rel => exact ⟨_, (true), (true), (by first | rfl | (simp; done) | (simp [*]; done)), (by first | rfl | (simp; done) | (simp [*]; done)), H', ⟨by have := HK1.out; have := HK2.out; first | omega | exact Nat.le_refl _⟩, ⟨by (with_reducible repeat (first | apply Kd.V_alloc | apply Kd.V_drewN | apply Kd.V_drew)); exact HO_0.out⟩, ⟨by (with_reducible repeat (first | apply Kd.V_alloc | apply Kd.V_drewN | apply Kd.V_drew)); exact HO_2.out⟩, ⟨by (with_reducible repeat (first | apply Kd.V_alloc | apply Kd.V_drewN | apply Kd.V_drew)); exact HO_3.out⟩, ⟨by (with_reducible repeat (first | apply Kd.R_alloc | apply Kd.R_drewN | apply Kd.R_drew)); exact HO_13.out⟩, ⟨by repeat (first | (with_reducible first | exact HI5.out | apply IsS3.alloc | apply IsS3.drewN | apply IsS3.drew | apply IsS3.set_0) | exact HI5.out)⟩, ⟨by repeat (first | (with_reducible first | exact HK.out | apply KeepBut.set_ | apply keep_drewN | apply keep_drew | apply keep_alloc) | exact HK.out)⟩, ⟨by repeat (first | (with_reducible first | exact HB.out | apply below_alloc | apply pw_below_drewN | apply below_drew1 | refine below_set ?_ (IsS3.ge HI5.out)) | exact HB.out)⟩⟩
        ·
         rw [if_neg c31] at H
         have c31b0 : decide (0 < t197) = false := decide_eq_false c31
         clear c31
         by_cases c32 : t197 = 0
         ·
          rw [if_pos c32] at H
          have c32b0 : (t197 == 0) = true := beq_iff_eq.mpr c32
          have c32b1 : (t197 != 0) = false := bne_eq_false_iff_eq.mpr c32
          clear c32
          have H' := Aside0.mk H
          clear H
          go_wp2
          go_meet
          case rel => exact ⟨_, (true), (a4), (by first | rfl | (simp; done) | (simp [*]; done)), (by first | rfl | (simp; done) | (simp [*]; done)), H', ⟨by have := HK1.out; have := HK2.out; first | omega | exact Nat.le_refl _⟩, ⟨by (with_reducible repeat (first | apply Kd.V_alloc | apply Kd.V_drewN | apply Kd.V_drew)); exact HO_0.out⟩, ⟨by (with_reducible repeat (first | apply Kd.V_alloc | apply Kd.V_drewN | apply Kd.V_drew)); exact HO_2.out⟩, ⟨by (with_reducible repeat (first | apply Kd.V_alloc | apply Kd.V_drewN | apply Kd.V_drew)); exact HO_3.out⟩, ⟨by (with_reducible repeat (first | apply Kd.R_alloc | apply Kd.R_drewN | apply Kd.R_drew)); exact HO_13.out⟩, ⟨by repeat (first | (with_reducible first | exact HI5.out | apply IsS3.alloc | apply IsS3.drewN | apply IsS3.drew | apply IsS3.set_0) | exact HI5.out)⟩, ⟨by repeat (first | (with_reducible first | exact HK.out | apply KeepBut.set_ | apply keep_drewN | apply keep_drew | apply keep_alloc) | exact HK.out)⟩, ⟨by repeat (first | (with_reducible first | exact HB.out | apply below_alloc | apply pw_below_drewN | apply below_drew1 | refine below_set ?_ (IsS3.ge HI5.out)) | exact HB.out)⟩⟩
         ·
          rw [if_neg c32] at H
          have c32b0 : (t197 == 0) = false := beq_eq_false_iff_ne.mpr c32
          have c32b1 : (t197 != 0) = true := bne_iff_ne.mpr c32
          have H' := Aside0.mk H
          clear H
          go_wp2
          go_meet
          case rel => exact ⟨_, (true), (false), (by first | rfl | (simp; done) | (simp [*]; done)), (by first | rfl | (simp; done) | (simp [*]; done)), H', ⟨by have := HK1.out; have := HK2.out; first | omega | exact Nat.le_refl _⟩, ⟨by (with_reducible repeat (first | apply Kd.V_alloc | apply Kd.V_drewN | apply Kd.V_drew)); exact HO_0.out⟩, ⟨by (with_reducible repeat (first | apply Kd.V_alloc | apply Kd.V_drewN | apply Kd.V_drew)); exact HO_2.out⟩, ⟨by (with_reducible repeat (first | apply Kd.V_alloc | apply Kd.V_drewN | apply Kd.V_drew)); exact HO_3.out⟩, ⟨by (with_reducible repeat (first | apply Kd.R_alloc | apply Kd.R_drewN | apply Kd.R_drew)); exact HO_13.out⟩, ⟨by repeat (first | (with_reducible first | exact HI5.out | apply IsS3.alloc | apply IsS3.drewN | apply IsS3.drew | apply IsS3.set_0) | exact HI5.out)⟩, ⟨by repeat (first | (with_reducible first | exact HK.out | apply KeepBut.set_ | apply keep_drewN | apply keep_drew | apply keep_alloc) | exact HK.out)⟩, ⟨by repeat (first | (with_reducible first | exact HB.out | apply below_alloc | apply pw_below_drewN | apply below_drew1 | refine below_set ?_ (IsS3.ge HI5.out)) | exact HB.out)⟩⟩
       ·
        rw [if_neg c30] at H
        have c30b0 : decide (t193 < 0) = false := decide_eq_false c30
        clear c30
        (first | rw [c30b0] | (simp only [i64_w, i32_w]; rw [c30b0]) | skip)
        by_cases c33 : t193 = 0
        ·
         rw [if_pos c33] at H
         have c33b0 : (t193 == 0) = true := beq_iff_eq.mpr c33
         have c33b1 : (t193 != 0) = false := bne_eq_false_iff_eq.mpr c33
         clear c33
         by_cases c34 : t197 > 0
         ·
          rw [if_pos c34] at H
          have c34b0 : decide (0 < t197) = true := decide_eq_true c34
          clear c34
          have H' := Aside0.mk H
          clear H
          go_wp2
          go_meet
          case rel => exact ⟨_, (a4), (true), (by first | rfl | (simp; done) | (simp [*]; done)), (by first | rfl | (simp; done) | (simp [*]; done)), H', ⟨by have := HK1.out; have := HK2.out; first | omega | exact Nat.le_refl _⟩, ⟨by (with_reducible repeat (first | apply Kd.V_alloc | apply Kd.V_drewN | apply Kd.V_drew)); exact HO_0.out⟩, ⟨by (with_reducible repeat (first | apply Kd.V_alloc | apply Kd.V_drewN | apply Kd.V_drew)); exact HO_2.out⟩, ⟨by (with_reducible repeat (first | apply Kd.V_alloc | apply Kd.V_drewN | apply Kd.V_drew)); exact HO_3.out⟩, ⟨by (with_reducible repeat (first | apply Kd.R_alloc | apply Kd.R_drewN | apply Kd.R_drew)); exact HO_13.out⟩, ⟨by repeat (first | (with_reducible first | exact HI5.out | apply IsS3.alloc | apply IsS3.drewN | apply IsS3.drew | apply IsS3.set_0) | exact HI5.out)⟩, ⟨by repeat (first | (with_reducible first | exact HK.out | apply KeepBut.set_ | apply keep_drewN | apply keep_drew | apply keep_alloc) | exact HK.out)⟩, ⟨by repeat (first | (with_reducible first | exact HB.out | apply below_alloc | apply pw_below_drewN | apply below_drew1 | refine below_set ?_ (IsS3.ge HI5.out)) | exact HB.out)⟩⟩
         ·
          rw [if_neg c34] at H
          have c34b0 : decide (0 < t197) = false := decide_eq_false c34
          clear c34
          by_cases c35 : t197 = 0
          ·
           rw [if_pos c35] at H
           have c35b0 : (t197 == 0) = true := beq_iff_eq.mpr c35
           have c35b1 : (t197 != 0) = false := bne_eq_false_iff_eq.mpr c35
           clear c35
           have H' := Aside0.mk H
           clear H
           go_wp2
           go_meet
           case rel => exact ⟨_, (a4), (a4), (by first | rfl | (simp; done) | (simp [*]; done)), (by first | rfl | (simp; done) | (simp [*]; done)), H', ⟨by have := HK1.out; have := HK2.out; first | omega | exact Nat.le_refl _⟩, ⟨by (with_reducible repeat (first | apply Kd.V_alloc | apply Kd.V_drewN | apply Kd.V_drew)); exact HO_0.out⟩, ⟨by (with_reducible repeat (first | apply Kd.V_alloc | apply Kd.V_drewN | apply Kd.V_drew)); exact HO_2.out⟩, ⟨by (with_reducible repeat (first | apply Kd.V_alloc | apply Kd.V_drewN | apply Kd.V_drew)); exact HO_3.out⟩, ⟨by (with_reducible repeat (first | apply Kd.R_alloc | apply Kd.R_drewN | apply Kd.R_drew)); exact HO_13.out⟩, ⟨by repeat (first | (with_reducible first | exact HI5.out | apply IsS3.alloc | apply IsS3.drewN | apply IsS3.drew | apply IsS3.set_0) | exact HI5.out)⟩, ⟨by repeat (first | (with_reducible first | exact HK.out | apply KeepBut.set_ | apply keep_drewN | apply keep_drew | apply keep_alloc) | exact HK.out)⟩, ⟨by repeat (first | (with_reducible first | exact HB.out | apply below_alloc | apply pw_below_drewN | apply below_drew1 | refine below_set ?_ (IsS3.ge HI5.out)) | exact HB.out)⟩⟩
          ·
           rw [if_neg c35] at H
           have c35b0 : (t197 == 0) = false := beq_eq_false_iff_ne.mpr c35
           have c35b1 : (t197 != 0) = true := bne_iff_ne.mpr c35
           have H' := Aside0.mk H
           clear H
           go_wp2
           go_meet
           case rel => exact ⟨_, (a4), (false), (by first | rfl | (simp; done) | (simp [*]; done)), (by first | rfl | (simp; done) | (simp [*]; done)), H', ⟨by have := HK1.out; have := HK2.out; first | omega | exact Nat.le_refl _⟩, ⟨by (with_reducible repeat (first | apply Kd.V_alloc | apply Kd.V_drewN | apply Kd.V_drew)); exact HO_0.out⟩, ⟨by (with_reducible repeat (first | apply Kd.V_alloc | apply Kd.V_drewN | apply Kd.V_drew)); exact HO_2.out⟩, ⟨by (with_reducible repeat (first | apply Kd.V_alloc | apply Kd.V_drewN | apply Kd.V_drew)); exact HO_3.out⟩, ⟨by (with_reducible repeat (first | apply Kd.R_alloc | apply Kd.R_drewN | apply Kd.R_drew)); exact HO_13.out⟩, ⟨by repeat (first | (with_reducible first | exact HI5.out | apply IsS3.alloc | apply IsS3.drewN | apply IsS3.drew | apply IsS3.set_0) | exact HI5.out)⟩, ⟨by repeat (first | (with_reducible first | exact HK.out | apply KeepBut.set_ | apply keep_drewN | apply keep_drew | apply keep_alloc) | exact HK.out)⟩, ⟨by repeat (first | (with_reducible first | exact HB.out | apply below_alloc | apply pw_below_drewN | apply below_drew1 | refine below_set ?_ (IsS3.ge HI5.out)) | exact HB.out)⟩⟩
        ·
         rw [if_neg c33] at H
         have c33b0 : (t193 == 0) = false := beq_eq_false_iff_ne.mpr c33
         have c33b1 : (t193 != 0) = true := bne_iff_ne.mpr c33
         by_cases c36 : t197 > 0
         ·
          rw [if_pos c36] at H
          have c36b0 : decide (0 < t197) = true := decide_eq_true c36
          clear c36
          have H' := Aside0.mk H
          clear H
          go_wp2
          go_meet
          case rel => exact ⟨_, (false), (true), (by first | rfl | (simp; done) | (simp [*]; done)), (by first | rfl | (simp; done) | (simp [*]; done)), H', ⟨by have := HK1.out; have := HK2.out; first | omega | exact Nat.le_refl _⟩, ⟨by (with_reducible repeat (first | apply Kd.V_alloc | apply Kd.V_drewN | apply Kd.V_drew)); exact HO_0.out⟩, ⟨by (with_reducible repeat (first | apply Kd.V_alloc | apply Kd.V_drewN | apply Kd.V_drew)); exact HO_2.out⟩, ⟨by (with_reducible repeat (first | apply Kd.V_alloc | apply Kd.V_drewN | apply Kd.V_drew)); exact HO_3.out⟩, ⟨by (with_reducible repeat (first | apply Kd.R_alloc | apply Kd.R_drewN | apply Kd.R_drew)); exact HO_13.out⟩, ⟨by repeat (first | (with_reducible first | exact HI5.out | apply IsS3.alloc | apply IsS3.drewN | apply IsS3.drew | apply IsS3.set_0) | exact HI5.out)⟩, ⟨by repeat (first | (with_reducible first | exact HK.out | apply KeepBut.set_ | apply keep_drewN | apply keep_drew | apply keep_alloc) | exact HK.out)⟩, ⟨by repeat (first | (with_reducible first | exact HB.out | apply below_alloc | apply pw_below_drewN | apply below_drew1 | refine below_set ?_ (IsS3.ge HI5.out)) | exact HB.out)⟩⟩
         ·
          rw [if_neg c36] at H
          have c36b0 : decide (0 < t197) = false := decide_eq_false c36
          clear c36
          by_cases c37 : t197 = 0
          ·
           rw [if_pos c37] at H
           have c37b0 : (t197 == 0) = true := beq_iff_eq.mpr c37
           have c37b1 : (t197 != 0) = false := bne_eq_false_iff_eq.mpr c37
           clear c37
           have H' := Aside0.mk H
           clear H
           go_wp2
           go_meet
           case rel => exact ⟨_, (false), (a4), (by first | rfl | (simp; done) | (simp [*]; done)), (by first | rfl | (simp; done) | (simp [*]; done)), H', ⟨by have := HK1.out; have := HK2.out; first | omega | exact Nat.le_refl _⟩, ⟨by (with_reducible repeat (first | apply Kd.V_alloc | apply Kd.V_drewN | apply Kd.V_drew)); exact HO_0.out⟩, ⟨by (with_reducible repeat (first | apply Kd.V_alloc | apply Kd.V_drewN | apply Kd.V_drew)); exact HO_2.out⟩, ⟨by (with_reducible repeat (first | apply Kd.V_alloc | apply Kd.V_drewN | apply Kd.V_drew)); exact HO_3.out⟩, ⟨by (with_reducible repeat (first | apply Kd.R_alloc | apply Kd.R_drewN | apply Kd.R_drew)); exact HO_13.out⟩, ⟨by repeat (first | (with_reducible first | exact HI5.out | apply IsS3.alloc | apply IsS3.drewN | apply IsS3.drew | apply IsS3.set_0) | exact HI5.out)⟩, ⟨by repeat (first | (with_reducible first | exact HK.out | apply KeepBut.set_ | apply keep_drewN | apply keep_drew | apply keep_alloc) | exact HK.out)⟩, ⟨by repeat (first | (with_reducible first | exact HB.out | apply below_alloc | apply pw_below_drewN | apply below_drew1 | refine below_set ?_ (IsS3.ge HI5.out)) | exact HB.out)⟩⟩
          ·
           rw [if_neg c37] at H
           have c37b0 : (t197 == 0) = false := beq_eq_false_iff_ne.mpr c37
           have c37b1 : (t197 != 0) = true := bne_iff_ne.mpr c37
           have H' := Aside0.mk H
           clear H
           go_wp2
           go_meet
           case rel => exact ⟨_, (false), (false), (by first | rfl | (simp; done) | (simp [*]; done)), (by first | rfl | (simp; done) | (simp [*]; done)), H', ⟨by have := HK1.out; have := HK2.out; first | omega | exact Nat.le_refl _⟩, ⟨by (with_reducible repeat (first | apply Kd.V_alloc | apply Kd.V_drewN | apply Kd.V_drew)); exact HO_0.out⟩, ⟨by (with_reducible repeat (first | apply Kd.V_alloc | apply Kd.V_drewN | apply Kd.V_drew)); exact HO_2.out⟩, ⟨by (with_reducible repeat (first | apply Kd.V_alloc | apply Kd.V_drewN | apply Kd.V_drew)); exact HO_3.out⟩, ⟨by (with_reducible repeat (first | apply Kd.R_alloc | apply Kd.R_drewN | apply Kd.R_drew)); exact HO_13.out⟩, ⟨by repeat (first | (with_reducible first | exact HI5.out | apply IsS3.alloc | apply IsS3.drewN | apply IsS3.drew | apply IsS3.set_0) | exact HI5.out)⟩, ⟨by repeat (first | (with_reducible first | exact HK.out | apply KeepBut.set_ | apply keep_drewN | apply keep_drew | apply keep_alloc) | exact HK.out)⟩, ⟨by repeat (first | (with_reducible first | exact HB.out | apply below_alloc | apply pw_below_drewN | apply below_drew1 | refine below_set ?_ (IsS3.ge HI5.out)) | exact HB.out)⟩⟩
      case rest =>
       clear HC24
       try clear c1
       try clear c2
       try clear p2
       try clear c3
       try clear c4
       try clear c5
       try clear c8
       try clear c17
       try clear c17b0
       try clear c30
       try clear c30b0
       try clear c31
       try clear c31b0
       try clear c32
       try clear c32b0
       try clear c32b1
       try clear c33
       try clear c33b0
       try clear c33b1
       try clear c34
       try clear c34b0
       try clear c35
       try clear c35b0
       try clear c35b1
       try clear c36
       try clear c36b0
       try clear c37
       try clear c37b0
       try clear c37b1
       try clear p2
       obtain ⟨kq, x17_23, x18_23, rfl, rfl, HA, HJ23, HO_0, HO_2, HO_3, HO_13, HI5, HK, HB⟩ := hcut
       cases kq with
       | zero => exact absurd HA.out (by simp [num_shortest.j2])
       | succ kj23 =>
        have H := HA.out
        clear HA
        simp only [num_shortest.j2] at H
        have HC38 := Aside0.mk H
        clear H
        go_upto_region 9 with (fail)
        go_cut [71] (fun v71 wc => ∃ (kq : Nat) (x71_37 : Bool), v71 = .bool x71_37 ∧ Aside0 (num_shortest.j3 kq x0_2 l1 t183 t186 a4 x13_1 x14_2 x17_23 x18_23 x71_37 x6000_1 = some (r1, r2)) ∧ Aside0 (kq ≤ kj23) ∧ Aside0 (Kd.V (Kd.int .u32) 102 wc w.heap.size (fun k_ => ((P0_ k_ ∨ P2_ k_ ∨ P3_ k_) ∨ w.heap.size ≤ k_) ∧ some k_ ≠ (u13 : Value).ownBlock ∧ k_ ≠ g) (.slice Ao25 x0_2.length co25) x0_2) ∧ Aside0 (Kd.V (Kd.int .u32) 102 wc w.heap.size (fun k_ => ((P0_ k_ ∨ P2_ k_ ∨ P3_ k_) ∨ w.heap.size ≤ k_) ∧ some k_ ≠ (u13 : Value).ownBlock ∧ k_ ≠ g) (.slice Ao26 t183.length co26) t183) ∧ Aside0 (Kd.V (Kd.int .u32) 102 wc w.heap.size (fun k_ => ((P0_ k_ ∨ P2_ k_ ∨ P3_ k_) ∨ w.heap.size ≤ k_) ∧ some k_ ≠ (u13 : Value).ownBlock ∧ k_ ≠ g) (.slice Ao27 t186.length co27) t186) ∧ Aside0 (Kd.R (Kd.int .u8) 5 wc w.heap.size (fun k_ => (w.heap.size ≤ k_)) u13 x13_1) ∧ Aside0 (IsS3 w0 wc g x6000_1) ∧ Aside0 (KeepBut w wc g none) ∧ Aside0 (Below w0.heap.size w0 wc))
        case first =>
         have H := HC38.out
         clear HC38
         by_cases c39 : (x13_1.length : Int) = 0
         ·
          rw [if_pos c39] at H
          have c39b0 : ((x13_1.length : Int) == 0) = true := beq_iff_eq.mpr c39
          have c39b1 : ((x13_1.length : Int) != 0) = false := bne_eq_false_iff_eq.mpr c39
          clear c39
          (first | rw [c39b0] | (simp only [i64_w, i32_w]; rw [c39b0]) | skip)
          by_cases c40 : x14_2 = 48
          ·
           rw [if_pos c40] at H
           have c40b0 : (x14_2 == 48) = true := beq_iff_eq.mpr c40
           have c40b1 : (x14_2 != 48) = false := bne_eq_false_iff_eq.mpr c40
           clear c40
           have H' := Aside0.mk H
           clear H
           obtain ⟨Ao41, co41, eo41⟩ := Kd.R_slice HO_13.out
           subst eo41
           go_wp2
           go_meet
           case rel => exact ⟨_, (!x18_23), (by first | rfl | (simp; done) | (simp [*]; done)), H', ⟨by have := HK1.out; have := HK2.out; have := HJ23.out; first | omega | exact Nat.le_refl _⟩, ⟨by (with_reducible repeat (first | apply Kd.V_alloc | apply Kd.V_drewN | apply Kd.V_drew)); exact HO_0.out⟩, ⟨by (with_reducible repeat (first | apply Kd.V_alloc | apply Kd.V_drewN | apply Kd.V_drew)); exact HO_2.out⟩, ⟨by (with_reducible repeat (first | apply Kd.V_alloc | apply Kd.V_drewN | apply Kd.V_drew)); exact HO_3.out⟩, ⟨by (with_reducible repeat (first | apply Kd.R_alloc | apply Kd.R_drewN | apply Kd.R_drew)); exact HO_13.out⟩, ⟨by repeat (first | (with_reducible first | exact HI5.out | apply IsS3.alloc | apply IsS3.drewN | apply IsS3.drew | apply IsS3.set_0) | exact HI5.out)⟩, ⟨by repeat (first | (with_reducible first | exact HK.out | apply KeepBut.set_ | apply keep_drewN | apply keep_drew | apply keep_alloc) | exact HK.out)⟩, ⟨by repeat (first | (with_reducible first | exact HB.out | apply below_alloc | apply pw_below_drewN | apply below_drew1 | refine below_set ?_ (IsS3.ge HI5.out)) | exact HB.out)⟩⟩
          ·
           rw [if_neg c40] at H
           have c40b0 : (x14_2 == 48) = false := beq_eq_false_iff_ne.mpr c40
           have c40b1 : (x14_2 != 48) = true := bne_iff_ne.mpr c40
           have H' := Aside0.mk H
           clear H
           obtain ⟨Ao42, co42, eo42⟩ := Kd.R_slice HO_13.out
           subst eo42
           go_wp2
           go_meet
           case rel => exact ⟨_, (false), (by first | rfl | (simp; done) | (simp [*]; done)), H', ⟨by have := HK1.out; have := HK2.out; have := HJ23.out; first | omega | exact Nat.le_refl _⟩, ⟨by (with_reducible repeat (first | apply Kd.V_alloc | apply Kd.V_drewN | apply Kd.V_drew)); exact HO_0.out⟩, ⟨by (with_reducible repeat (first | apply Kd.V_alloc | apply Kd.V_drewN | apply Kd.V_drew)); exact HO_2.out⟩, ⟨by (with_reducible repeat (first | apply Kd.V_alloc | apply Kd.V_drewN | apply Kd.V_drew)); exact HO_3.out⟩, ⟨by (with_reducible repeat (first | apply Kd.R_alloc | apply Kd.R_drewN | apply Kd.R_drew)); exact HO_13.out⟩, ⟨by repeat (first | (with_reducible first | exact HI5.out | apply IsS3.alloc | apply IsS3.drewN | apply IsS3.drew | apply IsS3.set_0) | exact HI5.out)⟩, ⟨by repeat (first | (with_reducible first | exact HK.out | apply KeepBut.set_ | apply keep_drewN | apply keep_drew | apply keep_alloc) | exact HK.out)⟩, ⟨by repeat (first | (with_reducible first | exact HB.out | apply below_alloc | apply pw_below_drewN | apply below_drew1 | refine below_set ?_ (IsS3.ge HI5.out)) | exact HB.out)⟩⟩
         ·
          rw [if_neg c39] at H
          have c39b0 : ((x13_1.length : Int) == 0) = false := beq_eq_false_iff_ne.mpr c39
          have c39b1 : ((x13_1.length : Int) != 0) = true := bne_iff_ne.mpr c39
          have c39b2 : ¬ (x13_1 = []) := fun h_ => c39 (by rw [h_]; rfl)
          (first | rw [c39b0] | (simp only [i64_w, i32_w]; rw [c39b0]) | skip)
          have H' := Aside0.mk H
          clear H
          obtain ⟨Ao43, co43, eo43⟩ := Kd.R_slice HO_13.out
          subst eo43
          go_wp2
          go_meet
          case rel => exact ⟨_, (false), (by first | rfl | (simp; done) | (simp [*]; done)), H', ⟨by have := HK1.out; have := HK2.out; have := HJ23.out; first | omega | exact Nat.le_refl _⟩, ⟨by (with_reducible repeat (first | apply Kd.V_alloc | apply Kd.V_drewN | apply Kd.V_drew)); exact HO_0.out⟩, ⟨by (with_reducible repeat (first | apply Kd.V_alloc | apply Kd.V_drewN | apply Kd.V_drew)); exact HO_2.out⟩, ⟨by (with_reducible repeat (first | apply Kd.V_alloc | apply Kd.V_drewN | apply Kd.V_drew)); exact HO_3.out⟩, ⟨by (with_reducible repeat (first | apply Kd.R_alloc | apply Kd.R_drewN | apply Kd.R_drew)); exact HO_13.out⟩, ⟨by repeat (first | (with_reducible first | exact HI5.out | apply IsS3.alloc | apply IsS3.drewN | apply IsS3.drew | apply IsS3.set_0) | exact HI5.out)⟩, ⟨by repeat (first | (with_reducible first | exact HK.out | apply KeepBut.set_ | apply keep_drewN | apply keep_drew | apply keep_alloc) | exact HK.out)⟩, ⟨by repeat (first | (with_reducible first | exact HB.out | apply below_alloc | apply pw_below_drewN | apply below_drew1 | refine below_set ?_ (IsS3.ge HI5.out)) | exact HB.out)⟩⟩
        case rest =>
         clear HC38
         try clear c1
         try clear c2
         try clear p2
         try clear c3
         try clear c4
         try clear c5
         try clear c8
         try clear c17
         try clear c17b0
         try clear c30
         try clear c30b0
         try clear c31
         try clear c31b0
         try clear c32
         try clear c32b0
         try clear c32b1
         try clear c33
         try clear c33b0
         try clear c33b1
         try clear c34
         try clear c34b0
         try clear c35
         try clear c35b0
         try clear c35b1
         try clear c36
         try clear c36b0
         try clear c37
         try clear c37b0
         try clear c37b1
         try clear c39
         try clear c39b0
         try clear c39b1
         try clear c39b2
         try clear c40
         try clear c40b0
         try clear c40b1
         try clear p2
         obtain ⟨kq, x71_37, rfl, HA, HJ37, HO_0, HO_2, HO_3, HO_13, HI5, HK, HB⟩ := hcut
         cases kq with
         | zero => exact absurd HA.out (by simp [num_shortest.j3])
         | succ kj37 =>
          have H := HA.out
          clear HA
          simp only [num_shortest.j3] at H
          by_cases c44 : x71_37 = true
          ·
           subst c44
           have H1 : (num_shortest.l0 kj37 x0_2 l1 t183 t186 a4 x13_1 (wrap64 (x6000_1 - 1))) = some (r1, r2) := by rw [if_pos rfl] at H; exact H
           clear H
           have H := H1
           clear H1
           have H' := Aside0.mk H
           clear H
           obtain ⟨HGz45, hgz45⟩ := HI5.out
           have hcz45_0 := cellS3_0 HGz45
           have hfz45_0 := blk_frozen HGz45 0
           clear HGz45 hgz45
           go_wp2
           go_roundg kj37
           case measure => have := HK1.out; have := HK2.out; have := HJ23.out; have := HJ37.out; omega
           case rel => exact ⟨(x0_2), (t183), (t186), (x13_1), (wrap64 (x6000_1 - 1)), H', ⟨by have := HK1.out; have := HK2.out; have := HJ23.out; have := HJ37.out; omega⟩, ⟨by (with_reducible repeat (first | apply Kd.V_alloc | apply Kd.V_drewN | apply Kd.V_drew)); exact Kd.V_mono (Kd.V_far (p := ⟨g, 0, none⟩) (Kd.V_mono HO_0.out (fun k_ hk => (⟨hk, hk.2.2⟩ : _ ∧ k_ ≠ g))) (fun _ hk => hk.2) (.int .i64 (wrap64 (x6000_1 - 1)))) (fun _ hk => ⟨hk.1.1, ⟨hk.1.2.1, hk.1.2.2⟩⟩)⟩, ⟨by (with_reducible repeat (first | apply Kd.V_alloc | apply Kd.V_drewN | apply Kd.V_drew)); exact Kd.V_mono (Kd.V_far (p := ⟨g, 0, none⟩) (Kd.V_mono HO_2.out (fun k_ hk => (⟨hk, hk.2.2⟩ : _ ∧ k_ ≠ g))) (fun _ hk => hk.2) (.int .i64 (wrap64 (x6000_1 - 1)))) (fun _ hk => ⟨hk.1.1, ⟨hk.1.2.1, hk.1.2.2⟩⟩)⟩, ⟨by (with_reducible repeat (first | apply Kd.V_alloc | apply Kd.V_drewN | apply Kd.V_drew)); exact Kd.V_mono (Kd.V_far (p := ⟨g, 0, none⟩) (Kd.V_mono HO_3.out (fun k_ hk => (⟨hk, hk.2.2⟩ : _ ∧ k_ ≠ g))) (fun _ hk => hk.2) (.int .i64 (wrap64 (x6000_1 - 1)))) (fun _ hk => ⟨hk.1.1, ⟨hk.1.2.1, hk.1.2.2⟩⟩)⟩, ⟨by (with_reducible repeat (first | apply Kd.R_alloc | apply Kd.R_drewN | apply Kd.R_drew)); exact Kd.R_mono (Kd.R_far (p := ⟨g, 0, none⟩) (IsS3.apart HI5.out HO_13.out (by decide)) (fun _ hk => hk.2) (.int .i64 (wrap64 (x6000_1 - 1)))) (fun _ hk => hk.1)⟩, ⟨by repeat (first | (with_reducible first | exact HI5.out | apply IsS3.alloc | apply IsS3.drewN | apply IsS3.drew | apply IsS3.set_0) | exact HI5.out)⟩, ⟨by repeat (first | (with_reducible first | exact HK.out | apply KeepBut.set_ | apply keep_drewN | apply keep_drew | apply keep_alloc) | exact HK.out)⟩, ⟨by repeat (first | (with_reducible first | exact HB.out | apply below_alloc | apply pw_below_drewN | apply below_drew1 | refine below_set ?_ (IsS3.ge HI5.out)) | exact HB.out)⟩⟩
          ·
           replace c44 := Bool.eq_false_iff.mpr c44
           subst c44
           have H1 : (if x17_23 = true then (num_shortest.j4 kj37 x0_2 l1 t183 t186 a4 x13_1 x14_2 x17_23 x18_23 false x6000_1) else (num_shortest.j4 kj37 x0_2 l1 t183 t186 a4 x13_1 x14_2 x17_23 x18_23 (!x18_23) x6000_1)) = some (r1, r2) := by rw [if_neg (show ¬ (false = true) by decide)] at H; exact H
           clear H
           have H := H1
           clear H1
           have HC46 := Aside0.mk H
           clear H
           go_upto_region 11 with (fail)
           go_cut [82] (fun v82 wc => ∃ (kq : Nat) (x82_45 : Bool), v82 = .bool x82_45 ∧ Aside0 (num_shortest.j4 kq x0_2 l1 t183 t186 a4 x13_1 x14_2 x17_23 x18_23 x82_45 x6000_1 = some (r1, r2)) ∧ Aside0 (kq ≤ kj37) ∧ Aside0 (Kd.V (Kd.int .u32) 102 wc w.heap.size (fun k_ => ((P0_ k_ ∨ P2_ k_ ∨ P3_ k_) ∨ w.heap.size ≤ k_) ∧ some k_ ≠ (u13 : Value).ownBlock ∧ k_ ≠ g) (.slice Ao25 x0_2.length co25) x0_2) ∧ Aside0 (Kd.V (Kd.int .u32) 102 wc w.heap.size (fun k_ => ((P0_ k_ ∨ P2_ k_ ∨ P3_ k_) ∨ w.heap.size ≤ k_) ∧ some k_ ≠ (u13 : Value).ownBlock ∧ k_ ≠ g) (.slice Ao26 t183.length co26) t183) ∧ Aside0 (Kd.V (Kd.int .u32) 102 wc w.heap.size (fun k_ => ((P0_ k_ ∨ P2_ k_ ∨ P3_ k_) ∨ w.heap.size ≤ k_) ∧ some k_ ≠ (u13 : Value).ownBlock ∧ k_ ≠ g) (.slice Ao27 t186.length co27) t186) ∧ Aside0 (Kd.R (Kd.int .u8) 5 wc w.heap.size (fun k_ => (w.heap.size ≤ k_)) u13 x13_1) ∧ Aside0 (IsS3 w0 wc g x6000_1) ∧ Aside0 (KeepBut w wc g none) ∧ Aside0 (Below w0.heap.size w0 wc))
           case first =>
            have H := HC46.out
            clear HC46
            by_cases c47 : x17_23 = true
            ·
             subst c47
             have H1 : (num_shortest.j4 kj37 x0_2 l1 t183 t186 a4 x13_1 x14_2 true x18_23 false x6000_1) = some (r1, r2) := by rw [if_pos rfl] at H; exact H
             clear H
             have H := H1
             clear H1
             have H' := Aside0.mk H
             clear H
             go_wp2
             go_meet
             case rel => exact ⟨_, (false), (by first | rfl | (simp; done) | (simp [*]; done)), H', ⟨by have := HK1.out; have := HK2.out; have := HJ23.out; have := HJ37.out; first | omega | exact Nat.le_refl _⟩, ⟨by (with_reducible repeat (first | apply Kd.V_alloc | apply Kd.V_drewN | apply Kd.V_drew)); exact HO_0.out⟩, ⟨by (with_reducible repeat (first | apply Kd.V_alloc | apply Kd.V_drewN | apply Kd.V_drew)); exact HO_2.out⟩, ⟨by (with_reducible repeat (first | apply Kd.V_alloc | apply Kd.V_drewN | apply Kd.V_drew)); exact HO_3.out⟩, ⟨by (with_reducible repeat (first | apply Kd.R_alloc | apply Kd.R_drewN | apply Kd.R_drew)); exact HO_13.out⟩, ⟨by repeat (first | (with_reducible first | exact HI5.out | apply IsS3.alloc | apply IsS3.drewN | apply IsS3.drew | apply IsS3.set_0) | exact HI5.out)⟩, ⟨by repeat (first | (with_reducible first | exact HK.out | apply KeepBut.set_ | apply keep_drewN | apply keep_drew | apply keep_alloc) | exact HK.out)⟩, ⟨by repeat (first | (with_reducible first | exact HB.out | apply below_alloc | apply pw_below_drewN | apply below_drew1 | refine below_set ?_ (IsS3.ge HI5.out)) | exact HB.out)⟩⟩
            ·
             replace c47 := Bool.eq_false_iff.mpr c47
             subst c47
             have H1 : (num_shortest.j4 kj37 x0_2 l1 t183 t186 a4 x13_1 x14_2 false x18_23 (!x18_23) x6000_1) = some (r1, r2) := by rw [if_neg (show ¬ (false = true) by decide)] at H; exact H
             clear H
             have H := H1
             clear H1
             have H' := Aside0.mk H
             clear H
             go_wp2
             go_meet
             case rel => exact ⟨_, (!x18_23), (by first | rfl | (simp; done) | (simp [*]; done)), H', ⟨by have := HK1.out; have := HK2.out; have := HJ23.out; have := HJ37.out; first | omega | exact Nat.le_refl _⟩, ⟨by (with_reducible repeat (first | apply Kd.V_alloc | apply Kd.V_drewN | apply Kd.V_drew)); exact HO_0.out⟩, ⟨by (with_reducible repeat (first | apply Kd.V_alloc | apply Kd.V_drewN | apply Kd.V_drew)); exact HO_2.out⟩, ⟨by (with_reducible repeat (first | apply Kd.V_alloc | apply Kd.V_drewN | apply Kd.V_drew)); exact HO_3.out⟩, ⟨by (with_reducible repeat (first | apply Kd.R_alloc | apply Kd.R_drewN | apply Kd.R_drew)); exact HO_13.out⟩, ⟨by repeat (first | (with_reducible first | exact HI5.out | apply IsS3.alloc | apply IsS3.drewN | apply IsS3.drew | apply IsS3.set_0) | exact HI5.out)⟩, ⟨by repeat (first | (with_reducible first | exact HK.out | apply KeepBut.set_ | apply keep_drewN | apply keep_drew | apply keep_alloc) | exact HK.out)⟩, ⟨by repeat (first | (with_reducible first | exact HB.out | apply below_alloc | apply pw_below_drewN | apply below_drew1 | refine below_set ?_ (IsS3.ge HI5.out)) | exact HB.out)⟩⟩
           case rest =>
            clear HC46
            try clear c1
            try clear c2
            try clear p2
            try clear c3
            try clear c4
            try clear c5
            try clear p6
            try clear c8
            try clear c17
            try clear c17b0
            try clear c30
            try clear c30b0
            try clear c31
            try clear c31b0
            try clear c32
            try clear c32b0
            try clear c32b1
            try clear c33
            try clear c33b0
            try clear c33b1
            try clear c34
            try clear c34b0
            try clear c35
            try clear c35b0
            try clear c35b1
            try clear c36
            try clear c36b0
            try clear c37
            try clear c37b0
            try clear c37b1
            try clear c39
            try clear c39b0
            try clear c39b1
            try clear c39b2
            try clear c40
            try clear c40b0
            try clear c40b1
            try clear c44
            try clear c47
            try clear hcz45_0
            try clear hfz45_0
            try clear p2
            obtain ⟨kq, x82_45, rfl, HA, HJ45, HO_0, HO_2, HO_3, HO_13, HI5, HK, HB⟩ := hcut
            cases kq with
            | zero => exact absurd HA.out (by simp [num_shortest.j4])
            | succ kj45 =>
             have H := HA.out
             clear HA
             simp only [num_shortest.j4] at H
             by_cases c48 : x82_45 = true
             ·
              subst c48
              have H1 : (if x13_1.length < 140737488355328 then (num_shortest.l0 kj45 x0_2 l1 t183 t186 a4 (x13_1 ++ [x14_2]) x6000_1) else (none)) = some (r1, r2) := by rw [if_pos rfl] at H; exact H
              clear H
              have H := H1
              clear H1
              by_cases c49 : x13_1.length < 140737488355328
              ·
               rw [if_pos c49] at H
               have LMc49 := Aside0.mk c49
               clear c49
               obtain ⟨y198, hy198⟩ : ∃ y_ : List Int, y_ = (x13_1 ++ [x14_2]) := ⟨_, rfl⟩
               replace H : (num_shortest.l0 kj45 x0_2 l1 t183 t186 a4 y198 x6000_1) = some (r1, r2) := by first | (rw [hy198]; with_reducible exact H) | (have H2_ := (Option.bind_some _ _).symm.trans H; rw [hy198]; with_reducible exact H2_) | (have H2_ := (Option.bind_some _ _).symm.trans H; with_reducible exact H2_) | with_reducible exact H | (rw [hy198]; exact H) | exact H
               have Ny198 := Aside0.mk hy198
               clear hy198
               have H' := Aside0.mk H
               clear H
               go_wp2_with (first | ((with_reducible refine gate_builtin (b := .append) (xs := #[.tmp 83, .tmp 85]) rfl ?_); at_builtin; refine Kd.R_append (Kd.int .u8) w.heap.size rfl (.tmp 83) (.tmp 85) 43 5 (.int .u8 0) 1 rfl Tryd.underlying43 info5 rfl (by decide) (by omega) u13 x13_1 x14_2 [.int .u8 x14_2] (fun k_ => (w.heap.size ≤ k_)) (fun _ => False) rfl rfl ?aP (fun _ hk => hk.elim) ?aF ?aO (Below.refl _ _) ?aS ?aL ?_; (case aP => exact rfl); (case aF => exact (fun k_ hk => (Nat.le_trans (keep_size (kk HK)) hk))); (case aO => exact (rk HO_13)); (case aS => exact (keep_size (kk HK))); (case aL => have := LMc49.out; omega); intro v199 w50 ho hb hg hat; rw [← Ny198.out] at ho; have n0_ := Aside0.mk (Kd.V_afterv (ok := (fun k_ => ((P0_ k_ ∨ P2_ k_ ∨ P3_ k_) ∨ w.heap.size ≤ k_) ∧ k_ ≠ g)) (by (with_reducible repeat (first | apply Kd.V_alloc | apply Kd.V_drewN | apply Kd.V_drew)); exact Kd.V_mono HO_0.out (fun _ hk => ⟨⟨hk.1, hk.2.2⟩, hk.2.1⟩)) hg hat); have n1_ := Aside0.mk (Kd.V_afterv (ok := (fun k_ => ((P0_ k_ ∨ P2_ k_ ∨ P3_ k_) ∨ w.heap.size ≤ k_) ∧ k_ ≠ g)) (by (with_reducible repeat (first | apply Kd.V_alloc | apply Kd.V_drewN | apply Kd.V_drew)); exact Kd.V_mono HO_2.out (fun _ hk => ⟨⟨hk.1, hk.2.2⟩, hk.2.1⟩)) hg hat); have n2_ := Aside0.mk (Kd.V_afterv (ok := (fun k_ => ((P0_ k_ ∨ P2_ k_ ∨ P3_ k_) ∨ w.heap.size ≤ k_) ∧ k_ ≠ g)) (by (with_reducible repeat (first | apply Kd.V_alloc | apply Kd.V_drewN | apply Kd.V_drew)); exact Kd.V_mono HO_3.out (fun _ hk => ⟨⟨hk.1, hk.2.2⟩, hk.2.1⟩)) hg hat); have n3_ := Aside0.mk (IsS3.grown (by repeat (first | (with_reducible first | exact HI5.out | apply IsS3.alloc | apply IsS3.drewN | apply IsS3.drew | apply IsS3.set_0) | exact HI5.out)) hg (IsS3.own_ne HI5.out HO_13.out (by decide))); have n4_ := Aside0.mk (below_weaken (by repeat (first | (with_reducible first | exact HB.out | apply below_alloc | apply pw_below_drewN | apply below_drew1 | refine below_set ?_ (IsS3.ge HI5.out)) | exact HB.out)) HL.out hb); have n5_ := Aside0.mk (KeepBut.trans (kk HK) (KeepBut.of_grown hg g) (Kd.R_base2 HO_13.out)); have n6_ := Aside0.mk (ho); clear HO_0 HO_2 HO_3 HI5 HB HK HO_13; have HO_0 := n0_; have HO_2 := n1_; have HO_3 := n2_; have HI5 := n3_; have HB := n4_; have HK := n5_; have HO200 := n6_; clear n0_ n1_ n2_ n3_ n4_ n5_ n6_ ho hb hg hat))
               go_roundg kj45
               case measure => have := HK1.out; have := HK2.out; have := HJ23.out; have := HJ37.out; have := HJ45.out; omega
               case rel => exact ⟨(x0_2), (t183), (t186), (y198), (x6000_1), H', ⟨by have := HK1.out; have := HK2.out; have := HJ23.out; have := HJ37.out; have := HJ45.out; omega⟩, ⟨by (with_reducible repeat (first | apply Kd.V_alloc | apply Kd.V_drewN | apply Kd.V_drew)); exact Kd.V_mono HO_0.out (fun _ hk => ⟨hk.1.1, ⟨hk.2, hk.1.2⟩⟩)⟩, ⟨by (with_reducible repeat (first | apply Kd.V_alloc | apply Kd.V_drewN | apply Kd.V_drew)); exact Kd.V_mono HO_2.out (fun _ hk => ⟨hk.1.1, ⟨hk.2, hk.1.2⟩⟩)⟩, ⟨by (with_reducible repeat (first | apply Kd.V_alloc | apply Kd.V_drewN | apply Kd.V_drew)); exact Kd.V_mono HO_3.out (fun _ hk => ⟨hk.1.1, ⟨hk.2, hk.1.2⟩⟩)⟩, ⟨by (with_reducible repeat (first | apply Kd.R_alloc | apply Kd.R_drewN | apply Kd.R_drew)); exact HO200.out⟩, ⟨by repeat (first | (with_reducible first | exact HI5.out | apply IsS3.alloc | apply IsS3.drewN | apply IsS3.drew | apply IsS3.set_0) | exact HI5.out)⟩, ⟨by repeat (first | (with_reducible first | exact HK.out | apply KeepBut.set_ | apply keep_drewN | apply keep_drew | apply keep_alloc) | exact HK.out)⟩, ⟨by repeat (first | (with_reducible first | exact HB.out | apply below_alloc | apply pw_below_drewN | apply below_drew1 | refine below_set ?_ (IsS3.ge HI5.out)) | exact HB.out)⟩⟩
              ·
               rw [if_neg c49] at H
               exact absurd H (by simp)
             ·
              replace c48 := Bool.eq_false_iff.mpr c48
              subst c48
              have H1 : ((num_nat_up.f kj45 x0_2 1).bind fun t201 => ((num_nat_against.f kj45 t201 l1).bind fun t204 => (if x18_23 = true then (if x17_23 = true then (if t204 > 0 then (if x13_1.length < 140737488355328 then (some ((x13_1 ++ [(x14_2 + 1) % 256]), x6000_1)) else (none)) else (if t204 = 0 then (if (Int.tmod x14_2 2) = 1 then (if x13_1.length < 140737488355328 then (some ((x13_1 ++ [(x14_2 + 1) % 256]), x6000_1)) else (none)) else (if x13_1.length < 140737488355328 then (some ((x13_1 ++ [x14_2]), x6000_1)) else (none))) else (if x13_1.length < 140737488355328 then (some ((x13_1 ++ [x14_2]), x6000_1)) else (none)))) else (if x13_1.length < 140737488355328 then (some ((x13_1 ++ [(x14_2 + 1) % 256]), x6000_1)) else (none))) else (if x13_1.length < 140737488355328 then (some ((x13_1 ++ [x14_2]), x6000_1)) else (none))))) = some (r1, r2) := by rw [if_neg (show ¬ (false = true) by decide)] at H; exact H
              clear H
              have H := H1
              clear H1
              replace H := Option.bind_eq_some_iff.mp H
              obtain ⟨t201, A510, H⟩ := H
              replace H : ((num_nat_against.f kj45 t201 l1).bind fun t204 => (if x18_23 = true then (if x17_23 = true then (if t204 > 0 then (if x13_1.length < 140737488355328 then (some ((x13_1 ++ [(x14_2 + 1) % 256]), x6000_1)) else (none)) else (if t204 = 0 then (if (Int.tmod x14_2 2) = 1 then (if x13_1.length < 140737488355328 then (some ((x13_1 ++ [(x14_2 + 1) % 256]), x6000_1)) else (none)) else (if x13_1.length < 140737488355328 then (some ((x13_1 ++ [x14_2]), x6000_1)) else (none))) else (if x13_1.length < 140737488355328 then (some ((x13_1 ++ [x14_2]), x6000_1)) else (none)))) else (if x13_1.length < 140737488355328 then (some ((x13_1 ++ [(x14_2 + 1) % 256]), x6000_1)) else (none))) else (if x13_1.length < 140737488355328 then (some ((x13_1 ++ [x14_2]), x6000_1)) else (none)))) = some (r1, r2) := H
              have A51 := Aside0.mk A510
              clear A510
              replace H := Option.bind_eq_some_iff.mp H
              obtain ⟨t204, A520, H⟩ := H
              replace H : (if x18_23 = true then (if x17_23 = true then (if t204 > 0 then (if x13_1.length < 140737488355328 then (some ((x13_1 ++ [(x14_2 + 1) % 256]), x6000_1)) else (none)) else (if t204 = 0 then (if (Int.tmod x14_2 2) = 1 then (if x13_1.length < 140737488355328 then (some ((x13_1 ++ [(x14_2 + 1) % 256]), x6000_1)) else (none)) else (if x13_1.length < 140737488355328 then (some ((x13_1 ++ [x14_2]), x6000_1)) else (none))) else (if x13_1.length < 140737488355328 then (some ((x13_1 ++ [x14_2]), x6000_1)) else (none)))) else (if x13_1.length < 140737488355328 then (some ((x13_1 ++ [(x14_2 + 1) % 256]), x6000_1)) else (none))) else (if x13_1.length < 140737488355328 then (some ((x13_1 ++ [x14_2]), x6000_1)) else (none))) = some (r1, r2) := H
              have A52 := Aside0.mk A520
              clear A520
              by_cases c53 : x18_23 = true
              ·
               subst c53
               have H1 : (if x17_23 = true then (if t204 > 0 then (if x13_1.length < 140737488355328 then (some ((x13_1 ++ [(x14_2 + 1) % 256]), x6000_1)) else (none)) else (if t204 = 0 then (if (Int.tmod x14_2 2) = 1 then (if x13_1.length < 140737488355328 then (some ((x13_1 ++ [(x14_2 + 1) % 256]), x6000_1)) else (none)) else (if x13_1.length < 140737488355328 then (some ((x13_1 ++ [x14_2]), x6000_1)) else (none))) else (if x13_1.length < 140737488355328 then (some ((x13_1 ++ [x14_2]), x6000_1)) else (none)))) else (if x13_1.length < 140737488355328 then (some ((x13_1 ++ [(x14_2 + 1) % 256]), x6000_1)) else (none))) = some (r1, r2) := by rw [if_pos rfl] at H; exact H
               clear H
               have H := H1
               clear H1
               by_cases c54 : x17_23 = true
               ·
                subst c54
                have H1 : (if t204 > 0 then (if x13_1.length < 140737488355328 then (some ((x13_1 ++ [(x14_2 + 1) % 256]), x6000_1)) else (none)) else (if t204 = 0 then (if (Int.tmod x14_2 2) = 1 then (if x13_1.length < 140737488355328 then (some ((x13_1 ++ [(x14_2 + 1) % 256]), x6000_1)) else (none)) else (if x13_1.length < 140737488355328 then (some ((x13_1 ++ [x14_2]), x6000_1)) else (none))) else (if x13_1.length < 140737488355328 then (some ((x13_1 ++ [x14_2]), x6000_1)) else (none)))) = some (r1, r2) := by rw [if_pos rfl] at H; exact H
                clear H
                have H := H1
                clear H1
                by_cases c55 : t204 > 0
                ·
                 rw [if_pos c55] at H
                 have c55b0 : decide (0 < t204) = true := decide_eq_true c55
                 clear c55
                 by_cases c56 : x13_1.length < 140737488355328
                 ·
                  rw [if_pos c56] at H
                  have LMc56 := Aside0.mk c56
                  clear c56
                  obtain ⟨y205, hy205⟩ : ∃ y_ : List Int, y_ = (x13_1 ++ [(x14_2 + 1) % 256]) := ⟨_, rfl⟩
                  replace H : (some (y205, x6000_1)) = some (r1, r2) := by first | (rw [hy205]; with_reducible exact H) | (have H2_ := (Option.bind_some _ _).symm.trans H; rw [hy205]; with_reducible exact H2_) | (have H2_ := (Option.bind_some _ _).symm.trans H; with_reducible exact H2_) | with_reducible exact H | (rw [hy205]; exact H) | exact H
                  have Ny205 := Aside0.mk hy205
                  clear hy205
                  simp only [Option.some.injEq, Prod.mk.injEq] at H
                  obtain ⟨rfl, rfl⟩ := H
                  go_wp2_with (first | ((with_reducible refine gate_callee (f := 46) rfl ?_); refine gL (some 88) Tryd.func46 #[.slice Ao25 x0_2.length co25, .int .i64 1] ?_; (with_reducible refine (num_nat_up.calls kj45 _ _ x0_2 1 t201 _ ?side1 ?side2 A51.out).mono ?_); (case side1 => exact ck (Kd.V_reads' HO_0.out).2.2); (case side2 => exact (Kd.V_reads' HO_0.out).2.1); rintro e w57 ⟨v202, rfl, ho0, hb⟩; refine ⟨_, rfl, ?_⟩; have n0_ := vb HO_0 hb; have n1_ := vb HO_2 hb; have n2_ := vb HO_3 hb; have n3_ := Aside0.mk (Kd.R_below (rk HO_13) hb); have n4_ := Aside0.mk (Kd.V_lower (Kd.V_mono (ok' := fun k_ => ((P0_ k_ ∨ P2_ k_ ∨ P3_ k_) ∨ w.heap.size ≤ k_) ∧ some k_ ≠ (u13 : Value).ownBlock ∧ k_ ≠ g) ho0 (fun k_ hk_ => ⟨(.inr (Nat.le_trans (keep_size (kk HK)) hk_)), (Kd.fresh' (Kd.R_lt (rk HO_13)) k_ hk_), (IsS3.fresh (by repeat (first | (with_reducible first | exact HI5.out | apply IsS3.alloc | apply IsS3.drewN | apply IsS3.drew | apply IsS3.set_0) | exact HI5.out)) k_ hk_)⟩)) (keep_size (kk HK))); have n5_ := Aside0.mk (IsS3.below (by repeat (first | (with_reducible first | exact HI5.out | apply IsS3.alloc | apply IsS3.drewN | apply IsS3.drew | apply IsS3.set_0) | exact HI5.out)) hb); have n6_ := Aside0.mk (KeepBut.trans (kk HK) (KeepBut.of_below hb g none) (.inl rfl)); have n7_ := Aside0.mk (below_step (by repeat (first | (with_reducible first | exact HB.out | apply below_alloc | apply pw_below_drewN | apply below_drew1 | refine below_set ?_ (IsS3.ge HI5.out)) | exact HB.out)) hb); clear HO_0 HO_2 HO_3 HO_13 HI5 HK HB; have HO_0 := n0_; have HO_2 := n1_; have HO_3 := n2_; have HO_13 := n3_; have HO203 := n4_; have HI5 := n5_; have HK := n6_; have HB := n7_; clear n0_ n1_ n2_ n3_ n4_ n5_ n6_ n7_; (try clear hb); (try clear hb2); (try clear hk); (try clear hi); (try clear ho0); obtain ⟨Ao58, co58, eo58⟩ := Kd.V_slice HO203.out; subst eo58) | ((with_reducible refine gate_callee (f := 49) rfl ?_); refine gL (some 90) Tryd.func49 #[.slice Ao58 t201.length co58, .slice A1 l1.length c1] ?_; (with_reducible refine (num_nat_against.calls kj45 _ _ t201 _ _ l1 t204 _ ?side1 ?side2 ?side3 ?side4 A52.out).mono ?_); (case side1 => exact ck (Kd.V_reads' HO203.out).2.2); (case side2 => exact (Kd.V_reads' HO203.out).2.1); (case side3 => exact Kd.C_keep 0 HR1.out (kk HK) hf1); (case side4 => exact HC1.out); rintro e w' ⟨rfl, ⟨nd, rfl⟩⟩; refine ⟨_, rfl, ?_⟩) | ((with_reducible refine gate_builtin (b := .append) (xs := #[.tmp 111, .tmp 113]) rfl ?_); at_builtin; refine Kd.R_append (Kd.int .u8) w.heap.size rfl (.tmp 111) (.tmp 113) 43 5 (.int .u8 0) 1 rfl Tryd.underlying43 info5 rfl (by decide) (by omega) u13 x13_1 ((x14_2 + 1) % 256) [.int .u8 ((x14_2 + 1) % 256)] (fun k_ => (w.heap.size ≤ k_)) (fun _ => False) rfl rfl ?aP (fun _ hk => hk.elim) ?aF ?aO (Below.refl _ _) ?aS ?aL ?_; (case aP => exact rfl); (case aF => exact (fun k_ hk => (Nat.le_trans (keep_size (kk HK)) hk))); (case aO => exact (rk HO_13)); (case aS => exact (keep_size (kk HK))); (case aL => have := LMc56.out; omega); intro v206 w59 ho hb hg hat; rw [← Ny205.out] at ho; have n0_ := Aside0.mk (Kd.V_afterv (ok := (fun k_ => ((P0_ k_ ∨ P2_ k_ ∨ P3_ k_) ∨ w.heap.size ≤ k_) ∧ k_ ≠ g)) (by (with_reducible repeat (first | apply Kd.V_alloc | apply Kd.V_drewN | apply Kd.V_drew)); exact Kd.V_mono HO_0.out (fun _ hk => ⟨⟨hk.1, hk.2.2⟩, hk.2.1⟩)) hg hat); have n1_ := Aside0.mk (Kd.V_afterv (ok := (fun k_ => ((P0_ k_ ∨ P2_ k_ ∨ P3_ k_) ∨ w.heap.size ≤ k_) ∧ k_ ≠ g)) (by (with_reducible repeat (first | apply Kd.V_alloc | apply Kd.V_drewN | apply Kd.V_drew)); exact Kd.V_mono HO_2.out (fun _ hk => ⟨⟨hk.1, hk.2.2⟩, hk.2.1⟩)) hg hat); have n2_ := Aside0.mk (Kd.V_afterv (ok := (fun k_ => ((P0_ k_ ∨ P2_ k_ ∨ P3_ k_) ∨ w.heap.size ≤ k_) ∧ k_ ≠ g)) (by (with_reducible repeat (first | apply Kd.V_alloc | apply Kd.V_drewN | apply Kd.V_drew)); exact Kd.V_mono HO_3.out (fun _ hk => ⟨⟨hk.1, hk.2.2⟩, hk.2.1⟩)) hg hat); have n3_ := Aside0.mk (IsS3.grown (by repeat (first | (with_reducible first | exact HI5.out | apply IsS3.alloc | apply IsS3.drewN | apply IsS3.drew | apply IsS3.set_0) | exact HI5.out)) hg (IsS3.own_ne HI5.out HO_13.out (by decide))); have n4_ := Aside0.mk (Kd.V_afterv (ok := (fun k_ => ((P0_ k_ ∨ P2_ k_ ∨ P3_ k_) ∨ w.heap.size ≤ k_) ∧ k_ ≠ g)) (by (with_reducible repeat (first | apply Kd.V_alloc | apply Kd.V_drewN | apply Kd.V_drew)); exact Kd.V_mono HO203.out (fun _ hk => ⟨⟨hk.1, hk.2.2⟩, hk.2.1⟩)) hg hat); have n5_ := Aside0.mk (below_weaken (by repeat (first | (with_reducible first | exact HB.out | apply below_alloc | apply pw_below_drewN | apply below_drew1 | refine below_set ?_ (IsS3.ge HI5.out)) | exact HB.out)) HL.out hb); have n6_ := Aside0.mk (KeepBut.trans (kk HK) (KeepBut.of_grown hg g) (Kd.R_base2 HO_13.out)); have n7_ := Aside0.mk (ho); clear HO_0 HO_2 HO_3 HI5 HO203 HB HK HO_13; have HO_0 := n0_; have HO_2 := n1_; have HO_3 := n2_; have HI5 := n3_; have HO203 := n4_; have HB := n5_; have HK := n6_; have HO207 := n7_; clear n0_ n1_ n2_ n3_ n4_ n5_ n6_ n7_ ho hb hg hat))
                  go_ret
                  exact ⟨_, by first | rfl | (simp [errW_none, errW_some] <;> rfl) | (simp [*, errW_none, errW_some] <;> rfl), by (with_reducible repeat (first | apply Kd.R_alloc | apply Kd.R_drewN | apply Kd.R_drew)); exact HO207.out, by repeat (first | (with_reducible first | exact HI5.out | apply IsS3.alloc | apply IsS3.drewN | apply IsS3.drew | apply IsS3.set_0) | exact HI5.out), by repeat (first | (with_reducible first | exact HB.out | apply below_alloc | apply pw_below_drewN | apply below_drew1 | refine below_set ?_ (IsS3.ge HI5.out)) | exact HB.out), by repeat (first | (with_reducible first | exact HK.out | apply KeepBut.set_ | apply keep_drewN | apply keep_drew | apply keep_alloc) | exact HK.out)⟩
                 ·
                  rw [if_neg c56] at H
                  exact absurd H (by simp)
                ·
                 rw [if_neg c55] at H
                 have c55b0 : decide (0 < t204) = false := decide_eq_false c55
                 clear c55
                 by_cases c60 : t204 = 0
                 ·
                  rw [if_pos c60] at H
                  have c60b0 : (t204 == 0) = true := beq_iff_eq.mpr c60
                  have c60b1 : (t204 != 0) = false := bne_eq_false_iff_eq.mpr c60
                  clear c60
                  by_cases c61 : (Int.tmod x14_2 2) = 1
                  ·
                   rw [if_pos c61] at H
                   have c61b0 : ((Int.tmod x14_2 2) == 1) = true := beq_iff_eq.mpr c61
                   have c61b1 : ((Int.tmod x14_2 2) != 1) = false := bne_eq_false_iff_eq.mpr c61
                   clear c61
                   by_cases c62 : x13_1.length < 140737488355328
                   ·
                    rw [if_pos c62] at H
                    have LMc62 := Aside0.mk c62
                    clear c62
                    obtain ⟨y208, hy208⟩ : ∃ y_ : List Int, y_ = (x13_1 ++ [(x14_2 + 1) % 256]) := ⟨_, rfl⟩
                    replace H : (some (y208, x6000_1)) = some (r1, r2) := by first | (rw [hy208]; with_reducible exact H) | (have H2_ := (Option.bind_some _ _).symm.trans H; rw [hy208]; with_reducible exact H2_) | (have H2_ := (Option.bind_some _ _).symm.trans H; with_reducible exact H2_) | with_reducible exact H | (rw [hy208]; exact H) | exact H
                    have Ny208 := Aside0.mk hy208
                    clear hy208
                    simp only [Option.some.injEq, Prod.mk.injEq] at H
                    obtain ⟨rfl, rfl⟩ := H
                    go_wp2_with (first | ((with_reducible refine gate_callee (f := 46) rfl ?_); refine gL (some 88) Tryd.func46 #[.slice Ao25 x0_2.length co25, .int .i64 1] ?_; (with_reducible refine (num_nat_up.calls kj45 _ _ x0_2 1 t201 _ ?side1 ?side2 A51.out).mono ?_); (case side1 => exact ck (Kd.V_reads' HO_0.out).2.2); (case side2 => exact (Kd.V_reads' HO_0.out).2.1); rintro e w63 ⟨v202, rfl, ho0, hb⟩; refine ⟨_, rfl, ?_⟩; have n0_ := vb HO_0 hb; have n1_ := vb HO_2 hb; have n2_ := vb HO_3 hb; have n3_ := Aside0.mk (Kd.R_below (rk HO_13) hb); have n4_ := Aside0.mk (Kd.V_lower (Kd.V_mono (ok' := fun k_ => ((P0_ k_ ∨ P2_ k_ ∨ P3_ k_) ∨ w.heap.size ≤ k_) ∧ some k_ ≠ (u13 : Value).ownBlock ∧ k_ ≠ g) ho0 (fun k_ hk_ => ⟨(.inr (Nat.le_trans (keep_size (kk HK)) hk_)), (Kd.fresh' (Kd.R_lt (rk HO_13)) k_ hk_), (IsS3.fresh (by repeat (first | (with_reducible first | exact HI5.out | apply IsS3.alloc | apply IsS3.drewN | apply IsS3.drew | apply IsS3.set_0) | exact HI5.out)) k_ hk_)⟩)) (keep_size (kk HK))); have n5_ := Aside0.mk (IsS3.below (by repeat (first | (with_reducible first | exact HI5.out | apply IsS3.alloc | apply IsS3.drewN | apply IsS3.drew | apply IsS3.set_0) | exact HI5.out)) hb); have n6_ := Aside0.mk (KeepBut.trans (kk HK) (KeepBut.of_below hb g none) (.inl rfl)); have n7_ := Aside0.mk (below_step (by repeat (first | (with_reducible first | exact HB.out | apply below_alloc | apply pw_below_drewN | apply below_drew1 | refine below_set ?_ (IsS3.ge HI5.out)) | exact HB.out)) hb); clear HO_0 HO_2 HO_3 HO_13 HI5 HK HB; have HO_0 := n0_; have HO_2 := n1_; have HO_3 := n2_; have HO_13 := n3_; have HO203 := n4_; have HI5 := n5_; have HK := n6_; have HB := n7_; clear n0_ n1_ n2_ n3_ n4_ n5_ n6_ n7_; (try clear hb); (try clear hb2); (try clear hk); (try clear hi); (try clear ho0); obtain ⟨Ao64, co64, eo64⟩ := Kd.V_slice HO203.out; subst eo64) | ((with_reducible refine gate_callee (f := 49) rfl ?_); refine gL (some 90) Tryd.func49 #[.slice Ao64 t201.length co64, .slice A1 l1.length c1] ?_; (with_reducible refine (num_nat_against.calls kj45 _ _ t201 _ _ l1 t204 _ ?side1 ?side2 ?side3 ?side4 A52.out).mono ?_); (case side1 => exact ck (Kd.V_reads' HO203.out).2.2); (case side2 => exact (Kd.V_reads' HO203.out).2.1); (case side3 => exact Kd.C_keep 0 HR1.out (kk HK) hf1); (case side4 => exact HC1.out); rintro e w' ⟨rfl, ⟨nd, rfl⟩⟩; refine ⟨_, rfl, ?_⟩) | ((with_reducible refine gate_builtin (b := .append) (xs := #[.tmp 111, .tmp 113]) rfl ?_); at_builtin; refine Kd.R_append (Kd.int .u8) w.heap.size rfl (.tmp 111) (.tmp 113) 43 5 (.int .u8 0) 1 rfl Tryd.underlying43 info5 rfl (by decide) (by omega) u13 x13_1 ((x14_2 + 1) % 256) [.int .u8 ((x14_2 + 1) % 256)] (fun k_ => (w.heap.size ≤ k_)) (fun _ => False) rfl rfl ?aP (fun _ hk => hk.elim) ?aF ?aO (Below.refl _ _) ?aS ?aL ?_; (case aP => exact rfl); (case aF => exact (fun k_ hk => (Nat.le_trans (keep_size (kk HK)) hk))); (case aO => exact (rk HO_13)); (case aS => exact (keep_size (kk HK))); (case aL => have := LMc62.out; omega); intro v209 w65 ho hb hg hat; rw [← Ny208.out] at ho; have n0_ := Aside0.mk (Kd.V_afterv (ok := (fun k_ => ((P0_ k_ ∨ P2_ k_ ∨ P3_ k_) ∨ w.heap.size ≤ k_) ∧ k_ ≠ g)) (by (with_reducible repeat (first | apply Kd.V_alloc | apply Kd.V_drewN | apply Kd.V_drew)); exact Kd.V_mono HO_0.out (fun _ hk => ⟨⟨hk.1, hk.2.2⟩, hk.2.1⟩)) hg hat); have n1_ := Aside0.mk (Kd.V_afterv (ok := (fun k_ => ((P0_ k_ ∨ P2_ k_ ∨ P3_ k_) ∨ w.heap.size ≤ k_) ∧ k_ ≠ g)) (by (with_reducible repeat (first | apply Kd.V_alloc | apply Kd.V_drewN | apply Kd.V_drew)); exact Kd.V_mono HO_2.out (fun _ hk => ⟨⟨hk.1, hk.2.2⟩, hk.2.1⟩)) hg hat); have n2_ := Aside0.mk (Kd.V_afterv (ok := (fun k_ => ((P0_ k_ ∨ P2_ k_ ∨ P3_ k_) ∨ w.heap.size ≤ k_) ∧ k_ ≠ g)) (by (with_reducible repeat (first | apply Kd.V_alloc | apply Kd.V_drewN | apply Kd.V_drew)); exact Kd.V_mono HO_3.out (fun _ hk => ⟨⟨hk.1, hk.2.2⟩, hk.2.1⟩)) hg hat); have n3_ := Aside0.mk (IsS3.grown (by repeat (first | (with_reducible first | exact HI5.out | apply IsS3.alloc | apply IsS3.drewN | apply IsS3.drew | apply IsS3.set_0) | exact HI5.out)) hg (IsS3.own_ne HI5.out HO_13.out (by decide))); have n4_ := Aside0.mk (Kd.V_afterv (ok := (fun k_ => ((P0_ k_ ∨ P2_ k_ ∨ P3_ k_) ∨ w.heap.size ≤ k_) ∧ k_ ≠ g)) (by (with_reducible repeat (first | apply Kd.V_alloc | apply Kd.V_drewN | apply Kd.V_drew)); exact Kd.V_mono HO203.out (fun _ hk => ⟨⟨hk.1, hk.2.2⟩, hk.2.1⟩)) hg hat); have n5_ := Aside0.mk (below_weaken (by repeat (first | (with_reducible first | exact HB.out | apply below_alloc | apply pw_below_drewN | apply below_drew1 | refine below_set ?_ (IsS3.ge HI5.out)) | exact HB.out)) HL.out hb); have n6_ := Aside0.mk (KeepBut.trans (kk HK) (KeepBut.of_grown hg g) (Kd.R_base2 HO_13.out)); have n7_ := Aside0.mk (ho); clear HO_0 HO_2 HO_3 HI5 HO203 HB HK HO_13; have HO_0 := n0_; have HO_2 := n1_; have HO_3 := n2_; have HI5 := n3_; have HO203 := n4_; have HB := n5_; have HK := n6_; have HO210 := n7_; clear n0_ n1_ n2_ n3_ n4_ n5_ n6_ n7_ ho hb hg hat))
                    go_ret
                    exact ⟨_, by first | rfl | (simp [errW_none, errW_some] <;> rfl) | (simp [*, errW_none, errW_some] <;> rfl), by (with_reducible repeat (first | apply Kd.R_alloc | apply Kd.R_drewN | apply Kd.R_drew)); exact HO210.out, by repeat (first | (with_reducible first | exact HI5.out | apply IsS3.alloc | apply IsS3.drewN | apply IsS3.drew | apply IsS3.set_0) | exact HI5.out), by repeat (first | (with_reducible first | exact HB.out | apply below_alloc | apply pw_below_drewN | apply below_drew1 | refine below_set ?_ (IsS3.ge HI5.out)) | exact HB.out), by repeat (first | (with_reducible first | exact HK.out | apply KeepBut.set_ | apply keep_drewN | apply keep_drew | apply keep_alloc) | exact HK.out)⟩
                   ·
                    rw [if_neg c62] at H
                    exact absurd H (by simp)
                  ·
                   rw [if_neg c61] at H
                   have c61b0 : ((Int.tmod x14_2 2) == 1) = false := beq_eq_false_iff_ne.mpr c61
                   have c61b1 : ((Int.tmod x14_2 2) != 1) = true := bne_iff_ne.mpr c61
                   by_cases c66 : x13_1.length < 140737488355328
                   ·
                    rw [if_pos c66] at H
                    have LMc66 := Aside0.mk c66
                    clear c66
                    obtain ⟨y211, hy211⟩ : ∃ y_ : List Int, y_ = (x13_1 ++ [x14_2]) := ⟨_, rfl⟩
                    replace H : (some (y211, x6000_1)) = some (r1, r2) := by first | (rw [hy211]; with_reducible exact H) | (have H2_ := (Option.bind_some _ _).symm.trans H; rw [hy211]; with_reducible exact H2_) | (have H2_ := (Option.bind_some _ _).symm.trans H; with_reducible exact H2_) | with_reducible exact H | (rw [hy211]; exact H) | exact H
                    have Ny211 := Aside0.mk hy211
                    clear hy211
                    simp only [Option.some.injEq, Prod.mk.injEq] at H
                    obtain ⟨rfl, rfl⟩ := H
                    go_wp2_with (first | ((with_reducible refine gate_callee (f := 46) rfl ?_); refine gL (some 88) Tryd.func46 #[.slice Ao25 x0_2.length co25, .int .i64 1] ?_; (with_reducible refine (num_nat_up.calls kj45 _ _ x0_2 1 t201 _ ?side1 ?side2 A51.out).mono ?_); (case side1 => exact ck (Kd.V_reads' HO_0.out).2.2); (case side2 => exact (Kd.V_reads' HO_0.out).2.1); rintro e w67 ⟨v202, rfl, ho0, hb⟩; refine ⟨_, rfl, ?_⟩; have n0_ := vb HO_0 hb; have n1_ := vb HO_2 hb; have n2_ := vb HO_3 hb; have n3_ := Aside0.mk (Kd.R_below (rk HO_13) hb); have n4_ := Aside0.mk (Kd.V_lower (Kd.V_mono (ok' := fun k_ => ((P0_ k_ ∨ P2_ k_ ∨ P3_ k_) ∨ w.heap.size ≤ k_) ∧ some k_ ≠ (u13 : Value).ownBlock ∧ k_ ≠ g) ho0 (fun k_ hk_ => ⟨(.inr (Nat.le_trans (keep_size (kk HK)) hk_)), (Kd.fresh' (Kd.R_lt (rk HO_13)) k_ hk_), (IsS3.fresh (by repeat (first | (with_reducible first | exact HI5.out | apply IsS3.alloc | apply IsS3.drewN | apply IsS3.drew | apply IsS3.set_0) | exact HI5.out)) k_ hk_)⟩)) (keep_size (kk HK))); have n5_ := Aside0.mk (IsS3.below (by repeat (first | (with_reducible first | exact HI5.out | apply IsS3.alloc | apply IsS3.drewN | apply IsS3.drew | apply IsS3.set_0) | exact HI5.out)) hb); have n6_ := Aside0.mk (KeepBut.trans (kk HK) (KeepBut.of_below hb g none) (.inl rfl)); have n7_ := Aside0.mk (below_step (by repeat (first | (with_reducible first | exact HB.out | apply below_alloc | apply pw_below_drewN | apply below_drew1 | refine below_set ?_ (IsS3.ge HI5.out)) | exact HB.out)) hb); clear HO_0 HO_2 HO_3 HO_13 HI5 HK HB; have HO_0 := n0_; have HO_2 := n1_; have HO_3 := n2_; have HO_13 := n3_; have HO203 := n4_; have HI5 := n5_; have HK := n6_; have HB := n7_; clear n0_ n1_ n2_ n3_ n4_ n5_ n6_ n7_; (try clear hb); (try clear hb2); (try clear hk); (try clear hi); (try clear ho0); obtain ⟨Ao68, co68, eo68⟩ := Kd.V_slice HO203.out; subst eo68) | ((with_reducible refine gate_callee (f := 49) rfl ?_); refine gL (some 90) Tryd.func49 #[.slice Ao68 t201.length co68, .slice A1 l1.length c1] ?_; (with_reducible refine (num_nat_against.calls kj45 _ _ t201 _ _ l1 t204 _ ?side1 ?side2 ?side3 ?side4 A52.out).mono ?_); (case side1 => exact ck (Kd.V_reads' HO203.out).2.2); (case side2 => exact (Kd.V_reads' HO203.out).2.1); (case side3 => exact Kd.C_keep 0 HR1.out (kk HK) hf1); (case side4 => exact HC1.out); rintro e w' ⟨rfl, ⟨nd, rfl⟩⟩; refine ⟨_, rfl, ?_⟩) | ((with_reducible refine gate_builtin (b := .append) (xs := #[.tmp 111, .tmp 113]) rfl ?_); at_builtin; refine Kd.R_append (Kd.int .u8) w.heap.size rfl (.tmp 111) (.tmp 113) 43 5 (.int .u8 0) 1 rfl Tryd.underlying43 info5 rfl (by decide) (by omega) u13 x13_1 x14_2 [.int .u8 x14_2] (fun k_ => (w.heap.size ≤ k_)) (fun _ => False) rfl rfl ?aP (fun _ hk => hk.elim) ?aF ?aO (Below.refl _ _) ?aS ?aL ?_; (case aP => exact rfl); (case aF => exact (fun k_ hk => (Nat.le_trans (keep_size (kk HK)) hk))); (case aO => exact (rk HO_13)); (case aS => exact (keep_size (kk HK))); (case aL => have := LMc66.out; omega); intro v212 w69 ho hb hg hat; rw [← Ny211.out] at ho; have n0_ := Aside0.mk (Kd.V_afterv (ok := (fun k_ => ((P0_ k_ ∨ P2_ k_ ∨ P3_ k_) ∨ w.heap.size ≤ k_) ∧ k_ ≠ g)) (by (with_reducible repeat (first | apply Kd.V_alloc | apply Kd.V_drewN | apply Kd.V_drew)); exact Kd.V_mono HO_0.out (fun _ hk => ⟨⟨hk.1, hk.2.2⟩, hk.2.1⟩)) hg hat); have n1_ := Aside0.mk (Kd.V_afterv (ok := (fun k_ => ((P0_ k_ ∨ P2_ k_ ∨ P3_ k_) ∨ w.heap.size ≤ k_) ∧ k_ ≠ g)) (by (with_reducible repeat (first | apply Kd.V_alloc | apply Kd.V_drewN | apply Kd.V_drew)); exact Kd.V_mono HO_2.out (fun _ hk => ⟨⟨hk.1, hk.2.2⟩, hk.2.1⟩)) hg hat); have n2_ := Aside0.mk (Kd.V_afterv (ok := (fun k_ => ((P0_ k_ ∨ P2_ k_ ∨ P3_ k_) ∨ w.heap.size ≤ k_) ∧ k_ ≠ g)) (by (with_reducible repeat (first | apply Kd.V_alloc | apply Kd.V_drewN | apply Kd.V_drew)); exact Kd.V_mono HO_3.out (fun _ hk => ⟨⟨hk.1, hk.2.2⟩, hk.2.1⟩)) hg hat); have n3_ := Aside0.mk (IsS3.grown (by repeat (first | (with_reducible first | exact HI5.out | apply IsS3.alloc | apply IsS3.drewN | apply IsS3.drew | apply IsS3.set_0) | exact HI5.out)) hg (IsS3.own_ne HI5.out HO_13.out (by decide))); have n4_ := Aside0.mk (Kd.V_afterv (ok := (fun k_ => ((P0_ k_ ∨ P2_ k_ ∨ P3_ k_) ∨ w.heap.size ≤ k_) ∧ k_ ≠ g)) (by (with_reducible repeat (first | apply Kd.V_alloc | apply Kd.V_drewN | apply Kd.V_drew)); exact Kd.V_mono HO203.out (fun _ hk => ⟨⟨hk.1, hk.2.2⟩, hk.2.1⟩)) hg hat); have n5_ := Aside0.mk (below_weaken (by repeat (first | (with_reducible first | exact HB.out | apply below_alloc | apply pw_below_drewN | apply below_drew1 | refine below_set ?_ (IsS3.ge HI5.out)) | exact HB.out)) HL.out hb); have n6_ := Aside0.mk (KeepBut.trans (kk HK) (KeepBut.of_grown hg g) (Kd.R_base2 HO_13.out)); have n7_ := Aside0.mk (ho); clear HO_0 HO_2 HO_3 HI5 HO203 HB HK HO_13; have HO_0 := n0_; have HO_2 := n1_; have HO_3 := n2_; have HI5 := n3_; have HO203 := n4_; have HB := n5_; have HK := n6_; have HO213 := n7_; clear n0_ n1_ n2_ n3_ n4_ n5_ n6_ n7_ ho hb hg hat))
                    go_ret
                    exact ⟨_, by first | rfl | (simp [errW_none, errW_some] <;> rfl) | (simp [*, errW_none, errW_some] <;> rfl), by (with_reducible repeat (first | apply Kd.R_alloc | apply Kd.R_drewN | apply Kd.R_drew)); exact HO213.out, by repeat (first | (with_reducible first | exact HI5.out | apply IsS3.alloc | apply IsS3.drewN | apply IsS3.drew | apply IsS3.set_0) | exact HI5.out), by repeat (first | (with_reducible first | exact HB.out | apply below_alloc | apply pw_below_drewN | apply below_drew1 | refine below_set ?_ (IsS3.ge HI5.out)) | exact HB.out), by repeat (first | (with_reducible first | exact HK.out | apply KeepBut.set_ | apply keep_drewN | apply keep_drew | apply keep_alloc) | exact HK.out)⟩
                   ·
                    rw [if_neg c66] at H
                    exact absurd H (by simp)
                 ·
                  rw [if_neg c60] at H
                  have c60b0 : (t204 == 0) = false := beq_eq_false_iff_ne.mpr c60
                  have c60b1 : (t204 != 0) = true := bne_iff_ne.mpr c60
                  by_cases c70 : x13_1.length < 140737488355328
                  ·
                   rw [if_pos c70] at H
                   have LMc70 := Aside0.mk c70
                   clear c70
                   obtain ⟨y214, hy214⟩ : ∃ y_ : List Int, y_ = (x13_1 ++ [x14_2]) := ⟨_, rfl⟩
                   replace H : (some (y214, x6000_1)) = some (r1, r2) := by first | (rw [hy214]; with_reducible exact H) | (have H2_ := (Option.bind_some _ _).symm.trans H; rw [hy214]; with_reducible exact H2_) | (have H2_ := (Option.bind_some _ _).symm.trans H; with_reducible exact H2_) | with_reducible exact H | (rw [hy214]; exact H) | exact H
                   have Ny214 := Aside0.mk hy214
                   clear hy214
                   simp only [Option.some.injEq, Prod.mk.injEq] at H
                   obtain ⟨rfl, rfl⟩ := H
                   go_wp2_with (first | ((with_reducible refine gate_callee (f := 46) rfl ?_); refine gL (some 88) Tryd.func46 #[.slice Ao25 x0_2.length co25, .int .i64 1] ?_; (with_reducible refine (num_nat_up.calls kj45 _ _ x0_2 1 t201 _ ?side1 ?side2 A51.out).mono ?_); (case side1 => exact ck (Kd.V_reads' HO_0.out).2.2); (case side2 => exact (Kd.V_reads' HO_0.out).2.1); rintro e w71 ⟨v202, rfl, ho0, hb⟩; refine ⟨_, rfl, ?_⟩; have n0_ := vb HO_0 hb; have n1_ := vb HO_2 hb; have n2_ := vb HO_3 hb; have n3_ := Aside0.mk (Kd.R_below (rk HO_13) hb); have n4_ := Aside0.mk (Kd.V_lower (Kd.V_mono (ok' := fun k_ => ((P0_ k_ ∨ P2_ k_ ∨ P3_ k_) ∨ w.heap.size ≤ k_) ∧ some k_ ≠ (u13 : Value).ownBlock ∧ k_ ≠ g) ho0 (fun k_ hk_ => ⟨(.inr (Nat.le_trans (keep_size (kk HK)) hk_)), (Kd.fresh' (Kd.R_lt (rk HO_13)) k_ hk_), (IsS3.fresh (by repeat (first | (with_reducible first | exact HI5.out | apply IsS3.alloc | apply IsS3.drewN | apply IsS3.drew | apply IsS3.set_0) | exact HI5.out)) k_ hk_)⟩)) (keep_size (kk HK))); have n5_ := Aside0.mk (IsS3.below (by repeat (first | (with_reducible first | exact HI5.out | apply IsS3.alloc | apply IsS3.drewN | apply IsS3.drew | apply IsS3.set_0) | exact HI5.out)) hb); have n6_ := Aside0.mk (KeepBut.trans (kk HK) (KeepBut.of_below hb g none) (.inl rfl)); have n7_ := Aside0.mk (below_step (by repeat (first | (with_reducible first | exact HB.out | apply below_alloc | apply pw_below_drewN | apply below_drew1 | refine below_set ?_ (IsS3.ge HI5.out)) | exact HB.out)) hb); clear HO_0 HO_2 HO_3 HO_13 HI5 HK HB; have HO_0 := n0_; have HO_2 := n1_; have HO_3 := n2_; have HO_13 := n3_; have HO203 := n4_; have HI5 := n5_; have HK := n6_; have HB := n7_; clear n0_ n1_ n2_ n3_ n4_ n5_ n6_ n7_; (try clear hb); (try clear hb2); (try clear hk); (try clear hi); (try clear ho0); obtain ⟨Ao72, co72, eo72⟩ := Kd.V_slice HO203.out; subst eo72) | ((with_reducible refine gate_callee (f := 49) rfl ?_); refine gL (some 90) Tryd.func49 #[.slice Ao72 t201.length co72, .slice A1 l1.length c1] ?_; (with_reducible refine (num_nat_against.calls kj45 _ _ t201 _ _ l1 t204 _ ?side1 ?side2 ?side3 ?side4 A52.out).mono ?_); (case side1 => exact ck (Kd.V_reads' HO203.out).2.2); (case side2 => exact (Kd.V_reads' HO203.out).2.1); (case side3 => exact Kd.C_keep 0 HR1.out (kk HK) hf1); (case side4 => exact HC1.out); rintro e w' ⟨rfl, ⟨nd, rfl⟩⟩; refine ⟨_, rfl, ?_⟩) | ((with_reducible refine gate_builtin (b := .append) (xs := #[.tmp 111, .tmp 113]) rfl ?_); at_builtin; refine Kd.R_append (Kd.int .u8) w.heap.size rfl (.tmp 111) (.tmp 113) 43 5 (.int .u8 0) 1 rfl Tryd.underlying43 info5 rfl (by decide) (by omega) u13 x13_1 x14_2 [.int .u8 x14_2] (fun k_ => (w.heap.size ≤ k_)) (fun _ => False) rfl rfl ?aP (fun _ hk => hk.elim) ?aF ?aO (Below.refl _ _) ?aS ?aL ?_; (case aP => exact rfl); (case aF => exact (fun k_ hk => (Nat.le_trans (keep_size (kk HK)) hk))); (case aO => exact (rk HO_13)); (case aS => exact (keep_size (kk HK))); (case aL => have := LMc70.out; omega); intro v215 w73 ho hb hg hat; rw [← Ny214.out] at ho; have n0_ := Aside0.mk (Kd.V_afterv (ok := (fun k_ => ((P0_ k_ ∨ P2_ k_ ∨ P3_ k_) ∨ w.heap.size ≤ k_) ∧ k_ ≠ g)) (by (with_reducible repeat (first | apply Kd.V_alloc | apply Kd.V_drewN | apply Kd.V_drew)); exact Kd.V_mono HO_0.out (fun _ hk => ⟨⟨hk.1, hk.2.2⟩, hk.2.1⟩)) hg hat); have n1_ := Aside0.mk (Kd.V_afterv (ok := (fun k_ => ((P0_ k_ ∨ P2_ k_ ∨ P3_ k_) ∨ w.heap.size ≤ k_) ∧ k_ ≠ g)) (by (with_reducible repeat (first | apply Kd.V_alloc | apply Kd.V_drewN | apply Kd.V_drew)); exact Kd.V_mono HO_2.out (fun _ hk => ⟨⟨hk.1, hk.2.2⟩, hk.2.1⟩)) hg hat); have n2_ := Aside0.mk (Kd.V_afterv (ok := (fun k_ => ((P0_ k_ ∨ P2_ k_ ∨ P3_ k_) ∨ w.heap.size ≤ k_) ∧ k_ ≠ g)) (by (with_reducible repeat (first | apply Kd.V_alloc | apply Kd.V_drewN | apply Kd.V_drew)); exact Kd.V_mono HO_3.out (fun _ hk => ⟨⟨hk.1, hk.2.2⟩, hk.2.1⟩)) hg hat); have n3_ := Aside0.mk (IsS3.grown (by repeat (first | (with_reducible first | exact HI5.out | apply IsS3.alloc | apply IsS3.drewN | apply IsS3.drew | apply IsS3.set_0) | exact HI5.out)) hg (IsS3.own_ne HI5.out HO_13.out (by decide))); have n4_ := Aside0.mk (Kd.V_afterv (ok := (fun k_ => ((P0_ k_ ∨ P2_ k_ ∨ P3_ k_) ∨ w.heap.size ≤ k_) ∧ k_ ≠ g)) (by (with_reducible repeat (first | apply Kd.V_alloc | apply Kd.V_drewN | apply Kd.V_drew)); exact Kd.V_mono HO203.out (fun _ hk => ⟨⟨hk.1, hk.2.2⟩, hk.2.1⟩)) hg hat); have n5_ := Aside0.mk (below_weaken (by repeat (first | (with_reducible first | exact HB.out | apply below_alloc | apply pw_below_drewN | apply below_drew1 | refine below_set ?_ (IsS3.ge HI5.out)) | exact HB.out)) HL.out hb); have n6_ := Aside0.mk (KeepBut.trans (kk HK) (KeepBut.of_grown hg g) (Kd.R_base2 HO_13.out)); have n7_ := Aside0.mk (ho); clear HO_0 HO_2 HO_3 HI5 HO203 HB HK HO_13; have HO_0 := n0_; have HO_2 := n1_; have HO_3 := n2_; have HI5 := n3_; have HO203 := n4_; have HB := n5_; have HK := n6_; have HO216 := n7_; clear n0_ n1_ n2_ n3_ n4_ n5_ n6_ n7_ ho hb hg hat))
                   go_ret
                   exact ⟨_, by first | rfl | (simp [errW_none, errW_some] <;> rfl) | (simp [*, errW_none, errW_some] <;> rfl), by (with_reducible repeat (first | apply Kd.R_alloc | apply Kd.R_drewN | apply Kd.R_drew)); exact HO216.out, by repeat (first | (with_reducible first | exact HI5.out | apply IsS3.alloc | apply IsS3.drewN | apply IsS3.drew | apply IsS3.set_0) | exact HI5.out), by repeat (first | (with_reducible first | exact HB.out | apply below_alloc | apply pw_below_drewN | apply below_drew1 | refine below_set ?_ (IsS3.ge HI5.out)) | exact HB.out), by repeat (first | (with_reducible first | exact HK.out | apply KeepBut.set_ | apply keep_drewN | apply keep_drew | apply keep_alloc) | exact HK.out)⟩
                  ·
                   rw [if_neg c70] at H
                   exact absurd H (by simp)
               ·
                replace c54 := Bool.eq_false_iff.mpr c54
                subst c54
                have H1 : (if x13_1.length < 140737488355328 then (some ((x13_1 ++ [(x14_2 + 1) % 256]), x6000_1)) else (none)) = some (r1, r2) := by rw [if_neg (show ¬ (false = true) by decide)] at H; exact H
                clear H
                have H := H1
                clear H1
                by_cases c74 : x13_1.length < 140737488355328
                ·
                 rw [if_pos c74] at H
                 have LMc74 := Aside0.mk c74
                 clear c74
                 obtain ⟨y217, hy217⟩ : ∃ y_ : List Int, y_ = (x13_1 ++ [(x14_2 + 1) % 256]) := ⟨_, rfl⟩
                 replace H : (some (y217, x6000_1)) = some (r1, r2) := by first | (rw [hy217]; with_reducible exact H) | (have H2_ := (Option.bind_some _ _).symm.trans H; rw [hy217]; with_reducible exact H2_) | (have H2_ := (Option.bind_some _ _).symm.trans H; with_reducible exact H2_) | with_reducible exact H | (rw [hy217]; exact H) | exact H
                 have Ny217 := Aside0.mk hy217
                 clear hy217
                 simp only [Option.some.injEq, Prod.mk.injEq] at H
                 obtain ⟨rfl, rfl⟩ := H
                 go_wp2_with (first | ((with_reducible refine gate_callee (f := 46) rfl ?_); refine gL (some 88) Tryd.func46 #[.slice Ao25 x0_2.length co25, .int .i64 1] ?_; (with_reducible refine (num_nat_up.calls kj45 _ _ x0_2 1 t201 _ ?side1 ?side2 A51.out).mono ?_); (case side1 => exact ck (Kd.V_reads' HO_0.out).2.2); (case side2 => exact (Kd.V_reads' HO_0.out).2.1); rintro e w75 ⟨v202, rfl, ho0, hb⟩; refine ⟨_, rfl, ?_⟩; have n0_ := vb HO_0 hb; have n1_ := vb HO_2 hb; have n2_ := vb HO_3 hb; have n3_ := Aside0.mk (Kd.R_below (rk HO_13) hb); have n4_ := Aside0.mk (Kd.V_lower (Kd.V_mono (ok' := fun k_ => ((P0_ k_ ∨ P2_ k_ ∨ P3_ k_) ∨ w.heap.size ≤ k_) ∧ some k_ ≠ (u13 : Value).ownBlock ∧ k_ ≠ g) ho0 (fun k_ hk_ => ⟨(.inr (Nat.le_trans (keep_size (kk HK)) hk_)), (Kd.fresh' (Kd.R_lt (rk HO_13)) k_ hk_), (IsS3.fresh (by repeat (first | (with_reducible first | exact HI5.out | apply IsS3.alloc | apply IsS3.drewN | apply IsS3.drew | apply IsS3.set_0) | exact HI5.out)) k_ hk_)⟩)) (keep_size (kk HK))); have n5_ := Aside0.mk (IsS3.below (by repeat (first | (with_reducible first | exact HI5.out | apply IsS3.alloc | apply IsS3.drewN | apply IsS3.drew | apply IsS3.set_0) | exact HI5.out)) hb); have n6_ := Aside0.mk (KeepBut.trans (kk HK) (KeepBut.of_below hb g none) (.inl rfl)); have n7_ := Aside0.mk (below_step (by repeat (first | (with_reducible first | exact HB.out | apply below_alloc | apply pw_below_drewN | apply below_drew1 | refine below_set ?_ (IsS3.ge HI5.out)) | exact HB.out)) hb); clear HO_0 HO_2 HO_3 HO_13 HI5 HK HB; have HO_0 := n0_; have HO_2 := n1_; have HO_3 := n2_; have HO_13 := n3_; have HO203 := n4_; have HI5 := n5_; have HK := n6_; have HB := n7_; clear n0_ n1_ n2_ n3_ n4_ n5_ n6_ n7_; (try clear hb); (try clear hb2); (try clear hk); (try clear hi); (try clear ho0); obtain ⟨Ao76, co76, eo76⟩ := Kd.V_slice HO203.out; subst eo76) | ((with_reducible refine gate_callee (f := 49) rfl ?_); refine gL (some 90) Tryd.func49 #[.slice Ao76 t201.length co76, .slice A1 l1.length c1] ?_; (with_reducible refine (num_nat_against.calls kj45 _ _ t201 _ _ l1 t204 _ ?side1 ?side2 ?side3 ?side4 A52.out).mono ?_); (case side1 => exact ck (Kd.V_reads' HO203.out).2.2); (case side2 => exact (Kd.V_reads' HO203.out).2.1); (case side3 => exact Kd.C_keep 0 HR1.out (kk HK) hf1); (case side4 => exact HC1.out); rintro e w' ⟨rfl, ⟨nd, rfl⟩⟩; refine ⟨_, rfl, ?_⟩) | ((with_reducible refine gate_builtin (b := .append) (xs := #[.tmp 111, .tmp 113]) rfl ?_); at_builtin; refine Kd.R_append (Kd.int .u8) w.heap.size rfl (.tmp 111) (.tmp 113) 43 5 (.int .u8 0) 1 rfl Tryd.underlying43 info5 rfl (by decide) (by omega) u13 x13_1 ((x14_2 + 1) % 256) [.int .u8 ((x14_2 + 1) % 256)] (fun k_ => (w.heap.size ≤ k_)) (fun _ => False) rfl rfl ?aP (fun _ hk => hk.elim) ?aF ?aO (Below.refl _ _) ?aS ?aL ?_; (case aP => exact rfl); (case aF => exact (fun k_ hk => (Nat.le_trans (keep_size (kk HK)) hk))); (case aO => exact (rk HO_13)); (case aS => exact (keep_size (kk HK))); (case aL => have := LMc74.out; omega); intro v218 w77 ho hb hg hat; rw [← Ny217.out] at ho; have n0_ := Aside0.mk (Kd.V_afterv (ok := (fun k_ => ((P0_ k_ ∨ P2_ k_ ∨ P3_ k_) ∨ w.heap.size ≤ k_) ∧ k_ ≠ g)) (by (with_reducible repeat (first | apply Kd.V_alloc | apply Kd.V_drewN | apply Kd.V_drew)); exact Kd.V_mono HO_0.out (fun _ hk => ⟨⟨hk.1, hk.2.2⟩, hk.2.1⟩)) hg hat); have n1_ := Aside0.mk (Kd.V_afterv (ok := (fun k_ => ((P0_ k_ ∨ P2_ k_ ∨ P3_ k_) ∨ w.heap.size ≤ k_) ∧ k_ ≠ g)) (by (with_reducible repeat (first | apply Kd.V_alloc | apply Kd.V_drewN | apply Kd.V_drew)); exact Kd.V_mono HO_2.out (fun _ hk => ⟨⟨hk.1, hk.2.2⟩, hk.2.1⟩)) hg hat); have n2_ := Aside0.mk (Kd.V_afterv (ok := (fun k_ => ((P0_ k_ ∨ P2_ k_ ∨ P3_ k_) ∨ w.heap.size ≤ k_) ∧ k_ ≠ g)) (by (with_reducible repeat (first | apply Kd.V_alloc | apply Kd.V_drewN | apply Kd.V_drew)); exact Kd.V_mono HO_3.out (fun _ hk => ⟨⟨hk.1, hk.2.2⟩, hk.2.1⟩)) hg hat); have n3_ := Aside0.mk (IsS3.grown (by repeat (first | (with_reducible first | exact HI5.out | apply IsS3.alloc | apply IsS3.drewN | apply IsS3.drew | apply IsS3.set_0) | exact HI5.out)) hg (IsS3.own_ne HI5.out HO_13.out (by decide))); have n4_ := Aside0.mk (Kd.V_afterv (ok := (fun k_ => ((P0_ k_ ∨ P2_ k_ ∨ P3_ k_) ∨ w.heap.size ≤ k_) ∧ k_ ≠ g)) (by (with_reducible repeat (first | apply Kd.V_alloc | apply Kd.V_drewN | apply Kd.V_drew)); exact Kd.V_mono HO203.out (fun _ hk => ⟨⟨hk.1, hk.2.2⟩, hk.2.1⟩)) hg hat); have n5_ := Aside0.mk (below_weaken (by repeat (first | (with_reducible first | exact HB.out | apply below_alloc | apply pw_below_drewN | apply below_drew1 | refine below_set ?_ (IsS3.ge HI5.out)) | exact HB.out)) HL.out hb); have n6_ := Aside0.mk (KeepBut.trans (kk HK) (KeepBut.of_grown hg g) (Kd.R_base2 HO_13.out)); have n7_ := Aside0.mk (ho); clear HO_0 HO_2 HO_3 HI5 HO203 HB HK HO_13; have HO_0 := n0_; have HO_2 := n1_; have HO_3 := n2_; have HI5 := n3_; have HO203 := n4_; have HB := n5_; have HK := n6_; have HO219 := n7_; clear n0_ n1_ n2_ n3_ n4_ n5_ n6_ n7_ ho hb hg hat))
                 go_ret
                 exact ⟨_, by first | rfl | (simp [errW_none, errW_some] <;> rfl) | (simp [*, errW_none, errW_some] <;> rfl), by (with_reducible repeat (first | apply Kd.R_alloc | apply Kd.R_drewN | apply Kd.R_drew)); exact HO219.out, by repeat (first | (with_reducible first | exact HI5.out | apply IsS3.alloc | apply IsS3.drewN | apply IsS3.drew | apply IsS3.set_0) | exact HI5.out), by repeat (first | (with_reducible first | exact HB.out | apply below_alloc | apply pw_below_drewN | apply below_drew1 | refine below_set ?_ (IsS3.ge HI5.out)) | exact HB.out), by repeat (first | (with_reducible first | exact HK.out | apply KeepBut.set_ | apply keep_drewN | apply keep_drew | apply keep_alloc) | exact HK.out)⟩
                ·
                 rw [if_neg c74] at H
                 exact absurd H (by simp)
              ·
               replace c53 := Bool.eq_false_iff.mpr c53
               subst c53
               have H1 : (if x13_1.length < 140737488355328 then (some ((x13_1 ++ [x14_2]), x6000_1)) else (none)) = some (r1, r2) := by rw [if_neg (show ¬ (false = true) by decide)] at H; exact H
               clear H
               have H := H1
               clear H1
               by_cases c78 : x13_1.length < 140737488355328
               ·
                rw [if_pos c78] at H
                have LMc78 := Aside0.mk c78
                clear c78
                obtain ⟨y220, hy220⟩ : ∃ y_ : List Int, y_ = (x13_1 ++ [x14_2]) := ⟨_, rfl⟩
                replace H : (some (y220, x6000_1)) = some (r1, r2) := by first | (rw [hy220]; with_reducible exact H) | (have H2_ := (Option.bind_some _ _).symm.trans H; rw [hy220]; with_reducible exact H2_) | (have H2_ := (Option.bind_some _ _).symm.trans H; with_reducible exact H2_) | with_reducible exact H | (rw [hy220]; exact H) | exact H
                have Ny220 := Aside0.mk hy220
                clear hy220
                simp only [Option.some.injEq, Prod.mk.injEq] at H
                obtain ⟨rfl, rfl⟩ := H
                go_wp2_with (first | ((with_reducible refine gate_callee (f := 46) rfl ?_); refine gL (some 88) Tryd.func46 #[.slice Ao25 x0_2.length co25, .int .i64 1] ?_; (with_reducible refine (num_nat_up.calls kj45 _ _ x0_2 1 t201 _ ?side1 ?side2 A51.out).mono ?_); (case side1 => exact ck (Kd.V_reads' HO_0.out).2.2); (case side2 => exact (Kd.V_reads' HO_0.out).2.1); rintro e w79 ⟨v202, rfl, ho0, hb⟩; refine ⟨_, rfl, ?_⟩; have n0_ := vb HO_0 hb; have n1_ := vb HO_2 hb; have n2_ := vb HO_3 hb; have n3_ := Aside0.mk (Kd.R_below (rk HO_13) hb); have n4_ := Aside0.mk (Kd.V_lower (Kd.V_mono (ok' := fun k_ => ((P0_ k_ ∨ P2_ k_ ∨ P3_ k_) ∨ w.heap.size ≤ k_) ∧ some k_ ≠ (u13 : Value).ownBlock ∧ k_ ≠ g) ho0 (fun k_ hk_ => ⟨(.inr (Nat.le_trans (keep_size (kk HK)) hk_)), (Kd.fresh' (Kd.R_lt (rk HO_13)) k_ hk_), (IsS3.fresh (by repeat (first | (with_reducible first | exact HI5.out | apply IsS3.alloc | apply IsS3.drewN | apply IsS3.drew | apply IsS3.set_0) | exact HI5.out)) k_ hk_)⟩)) (keep_size (kk HK))); have n5_ := Aside0.mk (IsS3.below (by repeat (first | (with_reducible first | exact HI5.out | apply IsS3.alloc | apply IsS3.drewN | apply IsS3.drew | apply IsS3.set_0) | exact HI5.out)) hb); have n6_ := Aside0.mk (KeepBut.trans (kk HK) (KeepBut.of_below hb g none) (.inl rfl)); have n7_ := Aside0.mk (below_step (by repeat (first | (with_reducible first | exact HB.out | apply below_alloc | apply pw_below_drewN | apply below_drew1 | refine below_set ?_ (IsS3.ge HI5.out)) | exact HB.out)) hb); clear HO_0 HO_2 HO_3 HO_13 HI5 HK HB; have HO_0 := n0_; have HO_2 := n1_; have HO_3 := n2_; have HO_13 := n3_; have HO203 := n4_; have HI5 := n5_; have HK := n6_; have HB := n7_; clear n0_ n1_ n2_ n3_ n4_ n5_ n6_ n7_; (try clear hb); (try clear hb2); (try clear hk); (try clear hi); (try clear ho0); obtain ⟨Ao80, co80, eo80⟩ := Kd.V_slice HO203.out; subst eo80) | ((with_reducible refine gate_callee (f := 49) rfl ?_); refine gL (some 90) Tryd.func49 #[.slice Ao80 t201.length co80, .slice A1 l1.length c1] ?_; (with_reducible refine (num_nat_against.calls kj45 _ _ t201 _ _ l1 t204 _ ?side1 ?side2 ?side3 ?side4 A52.out).mono ?_); (case side1 => exact ck (Kd.V_reads' HO203.out).2.2); (case side2 => exact (Kd.V_reads' HO203.out).2.1); (case side3 => exact Kd.C_keep 0 HR1.out (kk HK) hf1); (case side4 => exact HC1.out); rintro e w' ⟨rfl, ⟨nd, rfl⟩⟩; refine ⟨_, rfl, ?_⟩) | ((with_reducible refine gate_builtin (b := .append) (xs := #[.tmp 111, .tmp 113]) rfl ?_); at_builtin; refine Kd.R_append (Kd.int .u8) w.heap.size rfl (.tmp 111) (.tmp 113) 43 5 (.int .u8 0) 1 rfl Tryd.underlying43 info5 rfl (by decide) (by omega) u13 x13_1 x14_2 [.int .u8 x14_2] (fun k_ => (w.heap.size ≤ k_)) (fun _ => False) rfl rfl ?aP (fun _ hk => hk.elim) ?aF ?aO (Below.refl _ _) ?aS ?aL ?_; (case aP => exact rfl); (case aF => exact (fun k_ hk => (Nat.le_trans (keep_size (kk HK)) hk))); (case aO => exact (rk HO_13)); (case aS => exact (keep_size (kk HK))); (case aL => have := LMc78.out; omega); intro v221 w81 ho hb hg hat; rw [← Ny220.out] at ho; have n0_ := Aside0.mk (Kd.V_afterv (ok := (fun k_ => ((P0_ k_ ∨ P2_ k_ ∨ P3_ k_) ∨ w.heap.size ≤ k_) ∧ k_ ≠ g)) (by (with_reducible repeat (first | apply Kd.V_alloc | apply Kd.V_drewN | apply Kd.V_drew)); exact Kd.V_mono HO_0.out (fun _ hk => ⟨⟨hk.1, hk.2.2⟩, hk.2.1⟩)) hg hat); have n1_ := Aside0.mk (Kd.V_afterv (ok := (fun k_ => ((P0_ k_ ∨ P2_ k_ ∨ P3_ k_) ∨ w.heap.size ≤ k_) ∧ k_ ≠ g)) (by (with_reducible repeat (first | apply Kd.V_alloc | apply Kd.V_drewN | apply Kd.V_drew)); exact Kd.V_mono HO_2.out (fun _ hk => ⟨⟨hk.1, hk.2.2⟩, hk.2.1⟩)) hg hat); have n2_ := Aside0.mk (Kd.V_afterv (ok := (fun k_ => ((P0_ k_ ∨ P2_ k_ ∨ P3_ k_) ∨ w.heap.size ≤ k_) ∧ k_ ≠ g)) (by (with_reducible repeat (first | apply Kd.V_alloc | apply Kd.V_drewN | apply Kd.V_drew)); exact Kd.V_mono HO_3.out (fun _ hk => ⟨⟨hk.1, hk.2.2⟩, hk.2.1⟩)) hg hat); have n3_ := Aside0.mk (IsS3.grown (by repeat (first | (with_reducible first | exact HI5.out | apply IsS3.alloc | apply IsS3.drewN | apply IsS3.drew | apply IsS3.set_0) | exact HI5.out)) hg (IsS3.own_ne HI5.out HO_13.out (by decide))); have n4_ := Aside0.mk (Kd.V_afterv (ok := (fun k_ => ((P0_ k_ ∨ P2_ k_ ∨ P3_ k_) ∨ w.heap.size ≤ k_) ∧ k_ ≠ g)) (by (with_reducible repeat (first | apply Kd.V_alloc | apply Kd.V_drewN | apply Kd.V_drew)); exact Kd.V_mono HO203.out (fun _ hk => ⟨⟨hk.1, hk.2.2⟩, hk.2.1⟩)) hg hat); have n5_ := Aside0.mk (below_weaken (by repeat (first | (with_reducible first | exact HB.out | apply below_alloc | apply pw_below_drewN | apply below_drew1 | refine below_set ?_ (IsS3.ge HI5.out)) | exact HB.out)) HL.out hb); have n6_ := Aside0.mk (KeepBut.trans (kk HK) (KeepBut.of_grown hg g) (Kd.R_base2 HO_13.out)); have n7_ := Aside0.mk (ho); clear HO_0 HO_2 HO_3 HI5 HO203 HB HK HO_13; have HO_0 := n0_; have HO_2 := n1_; have HO_3 := n2_; have HI5 := n3_; have HO203 := n4_; have HB := n5_; have HK := n6_; have HO222 := n7_; clear n0_ n1_ n2_ n3_ n4_ n5_ n6_ n7_ ho hb hg hat))
                go_ret
                exact ⟨_, by first | rfl | (simp [errW_none, errW_some] <;> rfl) | (simp [*, errW_none, errW_some] <;> rfl), by (with_reducible repeat (first | apply Kd.R_alloc | apply Kd.R_drewN | apply Kd.R_drew)); exact HO222.out, by repeat (first | (with_reducible first | exact HI5.out | apply IsS3.alloc | apply IsS3.drewN | apply IsS3.drew | apply IsS3.set_0) | exact HI5.out), by repeat (first | (with_reducible first | exact HB.out | apply below_alloc | apply pw_below_drewN | apply below_drew1 | refine below_set ?_ (IsS3.ge HI5.out)) | exact HB.out), by repeat (first | (with_reducible first | exact HK.out | apply KeepBut.set_ | apply keep_drewN | apply keep_drew | apply keep_alloc) | exact HK.out)⟩
               ·
                rw [if_neg c78] at H
                exact absurd H (by simp)

end Go.Proofs.YtjlnfnfdibfniaaDoor.F

/- num.Digits' inner function 'top' over the four variables that it has captured. -/
namespace Go.Proofs.YtjlnfnfdibfniaaDoor.Hd
open Go.RowKit Go.Proofs.YtjlnfnfdibfniaaDoorW.PrintWords Go.Proofs.YtjlnfnfdibfniaaDoorW.PrintLast Go.Proofs.YtjlnfnfdibfniaaDoorW.PrintMore
set_option linter.unusedVariables false
set_option linter.unusedSimpArgs false

def num_Digits_1.f (k : Nat) (l0 l1 l2 : List Int) (a3 : Bool) : Option Bool :=
  (F.num_nat_plus.f k l0 l1).bind fun p => (F.num_nat_against.f k p l2).bind fun c => some (if c > 0 then true else if (c == 0) = true then a3 else false)
theorem num_Digits_1.mono : ∀ a0 a1 a2 a3 k, LeO (num_Digits_1.f k a0 a1 a2 a3) (num_Digits_1.f (k + 1) a0 a1 a2 a3) := by
  intro a0 a1 a2 a3 k r h
  unfold num_Digits_1.f at h ⊢
  obtain ⟨p, hp, h⟩ := Option.bind_eq_some_iff.mp h
  obtain ⟨c, hc, h⟩ := Option.bind_eq_some_iff.mp h
  rw [F.num_nat_plus.mono _ _ _ _ hp, Option.bind_some, F.num_nat_against.mono _ _ _ _ hc, Option.bind_some, h]
def T47 : Bool × List (List Nat × List Nat) := (true, [([], []), ([], []), ([0, 1], [0, 1]), ([], []), ([2, 3, 2], [2, 3]), ([4, 4, 0, 1, 2, 3, 4], [4])])
def B47 : List Nat := [0, 0, 3, 0, 15, 31]
theorem tab47 : rtab .any (opsOf Tryd.f47 1) = T47 := by kernel_rfl
theorem bits47 : waitsOk T47.2 B47 = true := by kernel_rfl
set_option maxRecDepth 100000 in
theorem num_Digits_1.calls (k : Nat) (g0 g1 g2 g3 : Nat) (A0 : Option Addr) (c0 : Nat) (l0 : List Int) (A1 : Option Addr) (c1 : Nat) (l1 : List Int) (A2 : Option Addr) (c2 : Nat) (l2 : List Int) (a3 : Bool) (r : Bool) (w : World)
    (hb0 : w.heap[g0]? = some (.cells #[.slice A0 l0.length c0] 56 (0, 0))) (hb1 : w.heap[g1]? = some (.cells #[.slice A1 l1.length c1] 56 (0, 0))) (hb2 : w.heap[g2]? = some (.cells #[.slice A2 l2.length c2] 56 (0, 0))) (hb3 : w.heap[g3]? = some (.cells #[.bool a3] 4 (0, 0)))
    (hr0 : Kd.C (Kd.int .u32) w A0 l0.length l0) (hc0 : l0.length ≤ c0) (hr1 : Kd.C (Kd.int .u32) w A1 l1.length l1) (hc1 : l1.length ≤ c1) (hr2 : Kd.C (Kd.int .u32) w A2 l2.length l2) (hc2 : l2.length ≤ c2) (h : num_Digits_1.f k l0 l1 l2 a3 = some r) :
    Calls Tryd.prog 47 #[.pointer (some ⟨g0, 0, none⟩), .pointer (some ⟨g1, 0, none⟩), .pointer (some ⟨g2, 0, none⟩), .pointer (some ⟨g3, 0, none⟩)] w fun e w' => e = .returned (.bool r) ∧ Below w.heap.size w w' := by
  unfold num_Digits_1.f at h
  obtain ⟨p, hp, h⟩ := Option.bind_eq_some_iff.mp h
  obtain ⟨c, hc, h⟩ := Option.bind_eq_some_iff.mp h
  have hp := Aside0.mk hp
  have hc := Aside0.mk hc
  have hz := Aside0.mk (Option.some.inj h)
  clear h
  have HB := Aside0.mk (Below.refl w.heap.size w)
  have HR0 := Aside0.mk hr0
  have HR1 := Aside0.mk hr1
  have HR2 := Aside0.mk hr2
  have BK0 := Aside0.mk hb0
  have BK1 := Aside0.mk hb1
  have BK2 := Aside0.mk hb2
  have BK3 := Aside0.mk hb3
  clear hr0 hr1 hr2 hb0 hb1 hb2 hb3
  go_enter Tryd.func47, Tryd.ntmps47
  go_wp2
  refine start_ (n := 6) (S := fun w' => w'.cell? ⟨g0, 0, none⟩ = some (.slice A0 l0.length c0) ∧ w'.cell? ⟨g1, 0, none⟩ = some (.slice A1 l1.length c1) ∧ w'.cell? ⟨g2, 0, none⟩ = some (.slice A2 l2.length c2)) (ds := []) #[false, false, false, false, false, false] (by kernel_rfl) rfl rfl ⟨(blk_cell BK0.out 0).trans rfl, (blk_cell BK1.out 0).trans rfl, (blk_cell BK2.out 0).trans rfl⟩ (fun hHeld => ?_); refine with_tabW tab47 bits47 (fun HT_ HW_ => ?_)
  have HB := Aside0.mk (below_drew1 HB.out)
  have HR0 := Aside0.mk (Kd.C_drew HR0.out)
  have HR1 := Aside0.mk (Kd.C_drew HR1.out)
  have HR2 := Aside0.mk (Kd.C_drew HR2.out)
  have BK0 := Aside0.mk (blk_drew BK0.out)
  have BK1 := Aside0.mk (blk_drew BK1.out)
  have BK2 := Aside0.mk (blk_drew BK2.out)
  have BK3 := Aside0.mk (blk_drew BK3.out)
  generalize w.drew = w1 at HR0 HR1 HR2 BK0 BK1 BK2 BK3 HB hHeld ⊢
  refine take_ (i := 0) (N := some 6) (v := ?_) (a' := ?_) #[true, false, false, false, false, false] rfl rfl (take_ofW HT_.out HW_.out (by kernel_rfl)) (fun _ _ _ h => h) (Or.inl ⟨by rfl, ?_⟩) hHeld ?_ ?_
  rotate_left
  · rintro w' ⟨s0, s1, s2⟩
    go_simp
    with_reducible rfl
  rotate_left
  · simp only [Act.put, List.setIfInBounds_toArray, List.set_cons_zero, List.set_cons_succ, i64_w, i32_w]
    rfl
  refine take_ (i := 1) (N := some 7) (v := ?_) (a' := ?_) #[true, true, false, false, false, false] rfl rfl (take_ofW HT_.out HW_.out (by kernel_rfl)) (fun _ _ _ h => h) (Or.inl ⟨by rfl, ?_⟩) hHeld ?_ ?_
  rotate_left
  · rintro w' ⟨s0, s1, s2⟩
    go_simp
    with_reducible rfl
  rotate_left
  · simp only [Act.put, List.setIfInBounds_toArray, List.set_cons_zero, List.set_cons_succ, i64_w, i32_w]
    rfl
  refine take_ (i := 3) (N := some 9) (v := ?_) (a' := ?_) #[true, true, false, true, false, false] rfl rfl (take_ofW HT_.out HW_.out (by kernel_rfl)) (fun _ _ _ h => h) (Or.inl ⟨by rfl, ?_⟩) hHeld ?_ ?_
  rotate_left
  · rintro w' ⟨s0, s1, s2⟩
    go_simp
    with_reducible rfl
  rotate_left
  · simp only [Act.put, List.setIfInBounds_toArray, List.set_cons_zero, List.set_cons_succ, i64_w, i32_w]
    rfl
  refine one_ (i := 2) (N := some 8) #[true, true, true, true, false, false] rfl rfl (one_of HT_.out (by kernel_rfl)) (by decide) (fun K hK => ?_)
  refine goes_ Tryd.func48 (by kernel_rfl) rfl #[.slice A0 l0.length c0, .slice A1 l1.length c1] (by rfl) rfl rfl (by (try simp only [List.map_toArray, List.map_cons, List.map_nil]); rfl) ?_
  refine (F.num_nat_plus.calls k A0 c0 l0 A1 c1 l1 p _ HR0.out hc0 HR1.out hc1 hp.out).mono ?_
  rintro e w2 ⟨v0, rfl, ho0, hb⟩
  refine ⟨_, rfl, ?_⟩
  obtain ⟨Ap, cp, rfl⟩ := Kd.V_slice ho0
  have HR2 := Aside0.mk (Kd.C_below HR2.out hb)
  have BK0 := Aside0.mk (blk_below BK0.out hb)
  have BK1 := Aside0.mk (blk_below BK1.out hb)
  have BK2 := Aside0.mk (blk_below BK2.out hb)
  have BK3 := Aside0.mk (blk_below BK3.out hb)
  have HB := Aside0.mk (below_step HB.out hb)
  refine hK.out _ _ ⟨(blk_cell BK0.out 0).trans rfl, (blk_cell BK1.out 0).trans rfl, (blk_cell BK2.out 0).trans rfl⟩ (fun hHeld => ?_)
  clear hK K
  refine norm_ (a' := ?_) ?_ ?_
  rotate_left
  · show Act.put _ (some 8) _ = _
    simp only [Act.put, List.setIfInBounds_toArray, List.set_cons_zero, List.set_cons_succ, i64_w, i32_w]
    rfl
  refine one_ (i := 4) (N := some 10) #[true, true, true, true, true, false] rfl rfl (one_of HT_.out (by kernel_rfl)) (by decide) (fun K hK => ?_)
  refine goes_ Tryd.func49 (by kernel_rfl) rfl #[.slice Ap p.length cp, .slice A2 l2.length c2] (by rfl) rfl rfl (by (try simp only [List.map_toArray, List.map_cons, List.map_nil]); rfl) ?_
  refine (F.num_nat_against.calls k Ap cp p A2 c2 l2 c _ (Kd.V_reads' ho0).2.2 (Kd.V_reads' ho0).2.1 HR2.out hc2 hc.out).mono ?_
  rintro e w' ⟨rfl, ⟨nd, rfl⟩⟩
  refine ⟨_, rfl, ?_⟩
  refine hK.out _ _ ⟨(blk_cell BK0.out 0).trans rfl, (blk_cell BK1.out 0).trans rfl, (blk_cell BK2.out 0).trans rfl⟩ (fun hHeld => ?_)
  clear hK K
  refine norm_ (a' := ?_) ?_ ?_
  rotate_left
  · show Act.put _ (some 10) _ = _
    simp only [Act.put, List.setIfInBounds_toArray, List.set_cons_zero, List.set_cons_succ, i64_w, i32_w]
    rfl
  refine pure_ (i := 5) (N := some 5) (v := ?_) (a' := ?_) #[true, true, true, true, true, true] rfl rfl (any_of HT_.out (by kernel_rfl)) (fun _ _ _ h => h) (Or.inl ⟨by rfl, ?_⟩) ?_ ?_
  rotate_left
  · intro w'
    go_simp
    with_reducible rfl
  rotate_left
  · simp only [Act.put, List.setIfInBounds_toArray, List.set_cons_zero, List.set_cons_succ, i64_w, i32_w]
    rfl
  refine done_ (done_of HT_.out (by kernel_rfl)) ?_
  have hcz : w2.cell? ⟨g3, 0, none⟩ = some (.bool a3) := (blk_cell BK3.out 0).trans rfl
  have hfz := blk_frozen BK3.out 0
  have hz := hz.out
  by_cases hc0 : c > 0
  · rw [if_pos hc0] at hz
    subst hz
    have hb0 : decide (0 < c) = true := decide_eq_true hc0
    have hb1 : decide (c > 0) = true := decide_eq_true hc0
    go_wp2
    go_ret
    exact ⟨rfl, by repeat (first | exact HB.out | apply pw_below_drewN | apply below_drew1)⟩
  · rw [if_neg hc0] at hz
    have hb0 : decide (0 < c) = false := decide_eq_false hc0
    have hb1 : decide (c > 0) = false := decide_eq_false hc0
    cases hce : (c == 0) with
    | true =>
      rw [hce, if_pos rfl] at hz
      subst hz
      go_wp2
      go_ret
      exact ⟨rfl, by repeat (first | exact HB.out | apply pw_below_drewN | apply below_drew1)⟩
    | false =>
      rw [hce, if_neg (by decide)] at hz
      subst hz
      go_wp2
      go_ret
      exact ⟨rfl, by repeat (first | exact HB.out | apply pw_below_drewN | apply below_drew1)⟩
end Go.Proofs.YtjlnfnfdibfniaaDoor.Hd

