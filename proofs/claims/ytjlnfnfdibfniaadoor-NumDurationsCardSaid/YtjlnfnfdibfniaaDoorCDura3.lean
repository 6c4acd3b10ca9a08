/- Words and walked functions of the proof (part 3). -/
import Derived.Test.YtjlnfnfdibfniaaDoorCDura2
import Derived.Below
import Derived.Laws.IdiomStrings
import Derived.Outline
import Derived.Deep.QuietTactic
import Derived.BigQuiet
import Derived.Lib.TrimU
import Derived.Shelf.Abstract
import Derived.Lib.OthersKept
import Derived.Laws.RangeAny
import Derived.Deep.LoopGhost
namespace Go.Proofs.YtjlnfnfdibfniaaDoor.F
open Go.RowKit Go.Proofs.YW.PWords Go.Proofs.YW.PLast Go.Proofs.YW.PMore
attribute [local go_sem] max2_int min2_int max_two min_two max_three min_three max_four min_four
set_option linter.unusedVariables false
set_option linter.unusedSimpArgs false
set_option maxRecDepth 100000
def IsS3 (w0 W : World) (g : Nat) (f0 : Int) : Prop := W.heap[g]? = some (.cells #[.int .i64 f0] 3 (0, 0)) ∧ w0.heap.size ≤ g
theorem IsS3.grown {w0 W : World} {g : Nat} {f0 : Int} {W1 : World} {row : Option Nat} (h : IsS3 w0 W g f0) (hw : W.grownBy W1 row) (hne : some g ≠ row) : IsS3 w0 W1 g f0 := by
 obtain ⟨hb, hg⟩ := h
 exact ⟨blk_grown hb hw hne, hg⟩
theorem IsS3.own_neN {w0 W : World} {g : Nat} {f0 : Int} {α : Type} {d : Kd α} {e : Nat} {base : Nat} {ok : Nat → Prop} {v : Value} {xs : List α} (h : IsS3 w0 W g f0) (ho : Kd.N d e W base ok v xs) (ht : e ≠ 3) : some g ≠ v.ownBlock := by
 obtain ⟨hb, hg⟩ := h
 exact Kd.N_ne ho hb ht
theorem IsS3.fresh {w0 W : World} {g : Nat} {f0 : Int} (h : IsS3 w0 W g f0) : ∀ k, W.heap.size ≤ k → k ≠ g := by
 obtain ⟨hb, hg⟩ := h
 exact Kd.freshB hb
theorem IsS3.kept {w0 W : World} {g : Nat} {f0 : Int} {W1 : World} {S : Nat → Prop} (h : IsS3 w0 W g f0) (hk : Kept W W1 S) (hne : ¬ S g) : IsS3 w0 W1 g f0 := by
 obtain ⟨hb, hg⟩ := h
 exact ⟨blk_kept hb hk hne, hg⟩
theorem IsS3.below {w0 W : World} {g : Nat} {f0 : Int} {W1 : World} (h : IsS3 w0 W g f0) (hw : Below W.heap.size W W1) : IsS3 w0 W1 g f0 := h.grown (grown_of_below hw none) (by simp)
theorem IsS3.alloc {w0 W : World} {g : Nat} {f0 : Int} (h : IsS3 w0 W g f0) (o : Obj) : IsS3 w0 (W.alloc o) g f0 := h.below (below_alloc (Below.refl _ _) o)
theorem IsS3.drewN {w0 W : World} {g : Nat} {f0 : Int} (h : IsS3 w0 W g f0) (m : Nat) : IsS3 w0 (W.drewN m) g f0 := h
theorem IsS3.drew {w0 W : World} {g : Nat} {f0 : Int} (h : IsS3 w0 W g f0) : IsS3 w0 W.drew g f0 := h
theorem IsS3.at_ {w0 W : World} {g : Nat} {f0 : Int} {w' : World} {m : Nat} (hq : W.drewN m = w') (h : IsS3 w0 W g f0) : IsS3 w0 w' g f0 := by subst hq; exact IsS3.drewN h m
theorem IsS3.apart {w0 W : World} {g : Nat} {f0 : Int} {α : Type} {d : Kd α} {e : Nat} {base : Nat} {ok : Nat → Prop} {v : Value} {xs : List α} (h : IsS3 w0 W g f0) (ho : d.R e W base ok v xs) (ht : ∀ q, q ∈ e :: d.E → q ≠ 3) : d.R e W base (fun k => ok k ∧ k ≠ g) v xs := by
 obtain ⟨hb, hg⟩ := h
 exact Kd.R_types ho hb ht
theorem IsS3.own_ne {w0 W : World} {g : Nat} {f0 : Int} {α : Type} {d : Kd α} {e : Nat} {base : Nat} {ok : Nat → Prop} {v : Value} {xs : List α} (h : IsS3 w0 W g f0) (ho : d.R e W base ok v xs) (ht : e ≠ 3) : some g ≠ v.ownBlock := by
 obtain ⟨hb, hg⟩ := h
 exact Kd.R_ne ho hb ht
theorem IsS3.apartQ {w0 W : World} {g : Nat} {f0 : Int} {α : Type} {d : Kd α} {e : Nat} {base : Nat} {ok : Nat → Prop} {v : Value} {xs : List α} (h : IsS3 w0 W g f0) (ho : d.Q e W base ok v xs) (ht : ∀ q, q ∈ e :: d.E → q ≠ 3) : d.Q e W base (fun k => ok k ∧ k ≠ g) v xs := by
 obtain ⟨hb, hg⟩ := h
 exact Kd.Q_types ho hb ht
theorem IsS3.own_neQ {w0 W : World} {g : Nat} {f0 : Int} {α : Type} {d : Kd α} {e : Nat} {base : Nat} {ok : Nat → Prop} {v : Value} {xs : List α} (h : IsS3 w0 W g f0) (ho : d.Q e W base ok v xs) (ht : e ≠ 3) : some g ≠ v.ownBlock := by
 obtain ⟨hb, hg⟩ := h
 exact Kd.Q_ne ho hb ht
theorem IsS3.apartS {w0 W : World} {g : Nat} {f0 : Int} {α : Type} {d : Kd α} {e : Nat} {base : Nat} {ok : Nat → Prop} {v : Value} {xs : List α} (h : IsS3 w0 W g f0) (ho : d.S e W base ok v xs) (ht : ∀ q, q ∈ e :: d.E → q ≠ 3) : d.S e W base (fun k => ok k ∧ k ≠ g) v xs := by
 obtain ⟨hb, hg⟩ := h
 exact Kd.S_types ho hb ht
theorem IsS3.own_neS {w0 W : World} {g : Nat} {f0 : Int} {α : Type} {d : Kd α} {e : Nat} {base : Nat} {ok : Nat → Prop} {v : Value} {xs : List α} (h : IsS3 w0 W g f0) (ho : d.S e W base ok v xs) (ht : e ≠ 3) : some g ≠ v.ownBlock := by
 obtain ⟨hb, hg⟩ := h
 exact Kd.S_ne ho hb ht
theorem IsS3.lt {w0 W : World} {g : Nat} {f0 : Int} (h : IsS3 w0 W g f0) : g < W.heap.size := by
 obtain ⟨hb, hg⟩ := h
 exact blk_lt hb
theorem IsS3.ge {w0 W : World} {g : Nat} {f0 : Int} (h : IsS3 w0 W g f0) : w0.heap.size ≤ g := by
 obtain ⟨hb, hg⟩ := h
 exact hg
theorem IsS3.ne_blk {w0 W : World} {g : Nat} {f0 : Int} {a : Nat} {cs : Array Value} {t : TypeId} {fr : Nat × Nat} (h : IsS3 w0 W g f0) (hb2 : W.heap[a]? = some (.cells cs t fr)) (ht : t ≠ 3) : g ≠ a := by
 obtain ⟨hb, hg⟩ := h
 rintro rfl
 rw [hb] at hb2
 injection hb2 with hb2
 injection hb2 with _ ht2
 exact ht ht2.symm
theorem IsS3.far {w0 W : World} {g : Nat} {f0 : Int} {p : Addr} (h : IsS3 w0 W g f0) (hne : g ≠ p.block) (u : Value) : IsS3 w0 (W.setCell p u) g f0 := by
 obtain ⟨hb, hg⟩ := h
 exact ⟨blk_far hb hne u, hg⟩
theorem cellS3_0 {W : World} {g : Nat} {f0 : Int} (h : W.heap[g]? = some (.cells #[.int .i64 f0] 3 (0, 0))) : W.cell? ⟨g, 0, none⟩ = some (.int .i64 f0) := (blk_cell h 0).trans rfl
theorem IsS3.set_0 {w0 W : World} {g : Nat} {f0 : Int} (h : IsS3 w0 W g f0) (x : Int) : IsS3 w0 (W.setCell ⟨g, 0, none⟩ (.int .i64 x)) g x := by
 obtain ⟨hb, hg⟩ := h
 exact ⟨by simpa using blk_set hb 0 (.int .i64 x), hg⟩
theorem IsS3.new (w0 W : World) (f0 : Int) (hB : Below w0.heap.size w0 W) : IsS3 w0 (W.alloc (.cells #[.int .i64 f0] 3)) W.heap.size f0 := ⟨by simpa using heap_alloc_new W _, hB.size⟩
theorem ik {w w0 W : World} {g : Nat} {f0 f1 : Int} (h : Aside0 (IsS3 w w0 g f0)) (s : IsS3 w w0 g f0 → IsS3 w W g f1 := by intro h_; repeat (first | (with_reducible first | exact h_ | apply IsS3.alloc | apply IsS3.drewN | apply IsS3.drew | apply IsS3.set_0) | exact h_)) : IsS3 w W g f1 := s h.out
theorem li {w w0 W wi : World} {g : Nat} {f0 : Int} (h : Aside0 (Below w.heap.size w w0)) (hi : Aside0 (IsS3 w wi g f0)) (s : w.heap.size ≤ g → Below w.heap.size w w0 → Below w.heap.size w W := by intro g_ h_; repeat (first | (with_reducible first | exact h_ | apply below_alloc | apply pw_below_drewN | apply below_drew1 | refine below_set ?_ g_) | exact h_)) : Below w.heap.size w W := s (IsS3.ge hi.out) h.out
mutual
def num_shortest.l0 : Nat → List Int → List Int → List Int → List Int → Bool → List Int → Int → Option (List Int × Int)
 | 0, _, _, _, _, _, _, _ => none
 | k + 1, x0, x1, x2, x3, x4, x13, x6q0 => (num_nat_tens.f k x0 1).bind fun t180 => ((num_nat_tens.f k x2 1).bind fun t183 => ((num_nat_tens.f k x3 1).bind fun t186 => (num_shortest.l1 k t180 x1 t183 t186 x4 x13 48 x6q0)))
def num_shortest.l1 : Nat → List Int → List Int → List Int → List Int → Bool → List Int → Int → Int → Option (List Int × Int)
 | 0, _, _, _, _, _, _, _, _ => none
 | k + 1, x0, x1, x2, x3, x4, x13, x14, x6q0 => (num_nat_against.f k x0 x1).bind fun t189 => (if t189 ≥ 0 then ((num_nat_less.f k x0 x1).bind fun t190 => (num_shortest.l1 k t190 x1 x2 x3 x4 x13 ((x14 + 1) % 256) x6q0)) else ((num_nat_against.f k x0 x2).bind fun t193 => ((num_nat_plus.f k x0 x3).bind fun t194 => ((num_nat_against.f k t194 x1).bind fun t197 => (if t193 < 0 then (if t197 > 0 then (num_shortest.j2 k x0 x1 x2 x3 x4 x13 x14 true true x6q0) else (if t197 = 0 then (num_shortest.j2 k x0 x1 x2 x3 x4 x13 x14 true x4 x6q0) else (num_shortest.j2 k x0 x1 x2 x3 x4 x13 x14 true false x6q0))) else (if t193 = 0 then (if t197 > 0 then (num_shortest.j2 k x0 x1 x2 x3 x4 x13 x14 x4 true x6q0) else (if t197 = 0 then (num_shortest.j2 k x0 x1 x2 x3 x4 x13 x14 x4 x4 x6q0) else (num_shortest.j2 k x0 x1 x2 x3 x4 x13 x14 x4 false x6q0))) else (if t197 > 0 then (num_shortest.j2 k x0 x1 x2 x3 x4 x13 x14 false true x6q0) else (if t197 = 0 then (num_shortest.j2 k x0 x1 x2 x3 x4 x13 x14 false x4 x6q0) else (num_shortest.j2 k x0 x1 x2 x3 x4 x13 x14 false false x6q0)))))))))
def num_shortest.j2 : Nat → List Int → List Int → List Int → List Int → Bool → List Int → Int → Bool → Bool → Int → Option (List Int × Int)
 | 0, _, _, _, _, _, _, _, _, _, _ => none
 | k + 1, x0, x1, x2, x3, x4, x13, x14, x17, x18, x6q0 => if (x13.length : Int) = 0 then (if x14 = 48 then (num_shortest.j3 k x0 x1 x2 x3 x4 x13 x14 x17 x18 (!x18) x6q0) else (num_shortest.j3 k x0 x1 x2 x3 x4 x13 x14 x17 x18 false x6q0)) else (num_shortest.j3 k x0 x1 x2 x3 x4 x13 x14 x17 x18 false x6q0)
def num_shortest.j3 : Nat → List Int → List Int → List Int → List Int → Bool → List Int → Int → Bool → Bool → Bool → Int → Option (List Int × Int)
 | 0, _, _, _, _, _, _, _, _, _, _, _ => none
 | k + 1, x0, x1, x2, x3, x4, x13, x14, x17, x18, x71, x6q0 => if x71 = true then (num_shortest.l0 k x0 x1 x2 x3 x4 x13 (wrap64 (x6q0 - 1))) else (if x17 = true then (num_shortest.j4 k x0 x1 x2 x3 x4 x13 x14 x17 x18 false x6q0) else (num_shortest.j4 k x0 x1 x2 x3 x4 x13 x14 x17 x18 (!x18) x6q0))
def num_shortest.j4 : Nat → List Int → List Int → List Int → List Int → Bool → List Int → Int → Bool → Bool → Bool → Int → Option (List Int × Int)
 | 0, _, _, _, _, _, _, _, _, _, _, _ => none
 | k + 1, x0, x1, x2, x3, x4, x13, x14, x17, x18, x82, x6q0 => if x82 = true then (if x13.length < 140737488355328 then (num_shortest.l0 k x0 x1 x2 x3 x4 (x13 ++ [x14]) x6q0) else (none)) else ((num_nat_up.f k x0 1).bind fun t201 => ((num_nat_against.f k t201 x1).bind fun t204 => (if x18 = true then (if x17 = true then (if t204 > 0 then (if x13.length < 140737488355328 then (some ((x13 ++ [(x14 + 1) % 256]), x6q0)) else (none)) else (if t204 = 0 then (if (Int.tmod x14 2) = 1 then (if x13.length < 140737488355328 then (some ((x13 ++ [(x14 + 1) % 256]), x6q0)) else (none)) else (if x13.length < 140737488355328 then (some ((x13 ++ [x14]), x6q0)) else (none))) else (if x13.length < 140737488355328 then (some ((x13 ++ [x14]), x6q0)) else (none)))) else (if x13.length < 140737488355328 then (some ((x13 ++ [(x14 + 1) % 256]), x6q0)) else (none))) else (if x13.length < 140737488355328 then (some ((x13 ++ [x14]), x6q0)) else (none)))))
end
def num_shortest.f (k : Nat) (l0 : List Int) (l1 : List Int) (l2 : List Int) (l3 : List Int) (a4 : Bool) (s5_0 : Int) : Option (List Int × Int) := num_shortest.l0 k l0 l1 l2 l3 a4 ([] : List Int) s5_0
theorem num_shortest.mono_l : ∀ k, (∀ y0 y1 y2 y3 y4 y5 y6, LeO (num_shortest.l0 k y0 y1 y2 y3 y4 y5 y6) (num_shortest.l0 (k + 1) y0 y1 y2 y3 y4 y5 y6)) ∧ (∀ y0 y1 y2 y3 y4 y5 y6 y7, LeO (num_shortest.l1 k y0 y1 y2 y3 y4 y5 y6 y7) (num_shortest.l1 (k + 1) y0 y1 y2 y3 y4 y5 y6 y7)) ∧ (∀ y0 y1 y2 y3 y4 y5 y6 y7 y8 y9, LeO (num_shortest.j2 k y0 y1 y2 y3 y4 y5 y6 y7 y8 y9) (num_shortest.j2 (k + 1) y0 y1 y2 y3 y4 y5 y6 y7 y8 y9)) ∧ (∀ y0 y1 y2 y3 y4 y5 y6 y7 y8 y9 y10, LeO (num_shortest.j3 k y0 y1 y2 y3 y4 y5 y6 y7 y8 y9 y10) (num_shortest.j3 (k + 1) y0 y1 y2 y3 y4 y5 y6 y7 y8 y9 y10)) ∧ (∀ y0 y1 y2 y3 y4 y5 y6 y7 y8 y9 y10, LeO (num_shortest.j4 k y0 y1 y2 y3 y4 y5 y6 y7 y8 y9 y10) (num_shortest.j4 (k + 1) y0 y1 y2 y3 y4 y5 y6 y7 y8 y9 y10))
 | 0 => ⟨fun _ _ _ _ _ _ _ r h => by simp [num_shortest.l0] at h, fun _ _ _ _ _ _ _ _ r h => by simp [num_shortest.l1] at h, fun _ _ _ _ _ _ _ _ _ _ r h => by simp [num_shortest.j2] at h, fun _ _ _ _ _ _ _ _ _ _ _ r h => by simp [num_shortest.j3] at h, fun _ _ _ _ _ _ _ _ _ _ _ r h => by simp [num_shortest.j4] at h⟩
 | k + 1 => by
  obtain ⟨ih0, ih1, ih2, ih3, ih4⟩ := num_shortest.mono_l k
  refine ⟨?_, ?_, ?_, ?_, ?_⟩ <;> intros <;> (first | unfold num_shortest.l0 | unfold num_shortest.l1 | unfold num_shortest.j2 | unfold num_shortest.j3 | unfold num_shortest.j4) <;> repeat' (with_reducible first | apply ih0 | apply ih1 | apply ih2 | apply ih3 | apply ih4 | apply num_nat_against.mono | apply num_nat_less.mono | apply num_nat_plus.mono | apply num_nat_tens.mono | apply num_nat_up.mono | apply LeO.refl | apply LeO.none | apply LeO.ite | refine LeO.bind ?_ (fun _ => ?_))
theorem num_shortest.mono : ∀ a0 a1 a2 a3 a4 a5 k, LeO (num_shortest.f k a0 a1 a2 a3 a4 a5) (num_shortest.f (k + 1) a0 a1 a2 a3 a4 a5) := by
 intro a0 a1 a2 a3 a4 a5 k
 obtain ⟨ih0, ih1, ih2, ih3, ih4⟩ := num_shortest.mono_l k
 unfold num_shortest.f
 repeat' (with_reducible first | apply ih0 | apply ih1 | apply ih2 | apply ih3 | apply ih4 | apply num_nat_against.mono | apply num_nat_less.mono | apply num_nat_plus.mono | apply num_nat_tens.mono | apply num_nat_up.mono | apply LeO.refl | apply LeO.none | apply LeO.ite | refine LeO.bind ?_ (fun _ => ?_))
set_option maxHeartbeats 8000000 in
theorem num_shortest.calls (k : Nat) (P0_ : Nat → Prop) (A0 : Option Addr) (c0 : Nat) (l0 : List Int) (A1 : Option Addr) (c1 : Nat) (l1 : List Int) (P2_ : Nat → Prop) (A2 : Option Addr) (c2 : Nat) (l2 : List Int) (P3_ : Nat → Prop) (A3 : Option Addr) (c3 : Nat) (l3 : List Int) (a4 : Bool) (g : Nat) (s5_0 : Int) (r1 : List Int) (r2 : Int) (w0 w : World) (hI : IsS3 w0 w g s5_0) (hB : Below w0.heap.size w0 w) (hs0 : Kd.V (Kd.int .u32) 102 w w.heap.size (fun k_ => P0_ k_ ∧ k_ ≠ g) (.slice A0 l0.length c0) l0) (hr1 : Kd.C (Kd.int .u32) w A1 l1.length l1) (hc1 : l1.length ≤ c1) (hf1 : ∀ ad, A1 = some ad → 0 < l1.length → ad.block ≠ g) (hs2 : Kd.V (Kd.int .u32) 102 w w.heap.size (fun k_ => P2_ k_ ∧ k_ ≠ g) (.slice A2 l2.length c2) l2) (hs3 : Kd.V (Kd.int .u32) 102 w w.heap.size (fun k_ => P3_ k_ ∧ k_ ≠ g) (.slice A3 l3.length c3) l3) (h : num_shortest.f k l0 l1 l2 l3 a4 s5_0 = some (r1, r2)) :
  Calls Tryd.prog 53 #[.slice A0 l0.length c0, .slice A1 l1.length c1, .slice A2 l2.length c2, .slice A3 l3.length c3, .bool a4, .pointer (some ⟨g, 0, none⟩)] w fun e w' => ∃ v0_ : Value, e = .returned (v0_) ∧ Kd.R (Kd.int .u8) 5 w' w.heap.size (fun k_ => (w.heap.size ≤ k_)) v0_ r1 ∧ IsS3 w0 w' g r2 ∧ Below w0.heap.size w0 w' ∧ KeepBut w w' g none := by
 have HO0 := am (show Kd.V (Kd.int .u32) 102 w w.heap.size (fun k_ => ((P0_ k_ ∨ P2_ k_ ∨ P3_ k_) ∨ w.heap.size ≤ k_) ∧ k_ ≠ g) (.slice A0 l0.length c0) l0 from Kd.V_mono hs0 (fun k_ hk => ⟨.inl (.inl hk.1), hk.2⟩))
 have HR1 := am hr1
 have HC1 := am hc1
 clear hr1 hc1
 have HO2 := am (show Kd.V (Kd.int .u32) 102 w w.heap.size (fun k_ => ((P0_ k_ ∨ P2_ k_ ∨ P3_ k_) ∨ w.heap.size ≤ k_) ∧ k_ ≠ g) (.slice A2 l2.length c2) l2 from Kd.V_mono hs2 (fun k_ hk => ⟨.inl (.inr (.inl hk.1)), hk.2⟩))
 have HO3 := am (show Kd.V (Kd.int .u32) 102 w w.heap.size (fun k_ => ((P0_ k_ ∨ P2_ k_ ∨ P3_ k_) ∨ w.heap.size ≤ k_) ∧ k_ ≠ g) (.slice A3 l3.length c3) l3 from Kd.V_mono hs3 (fun k_ hk => ⟨.inl (.inr (.inr hk.1)), hk.2⟩))
 have HI5 := am hI
 have HK := am (KeepBut.refl w g none)
 have HL := am hB.size
 clear hI
 have HW0 := am hB.size
 have HB := am hB
 clear hB
 have H : (num_shortest.l0 k l0 l1 l2 l3 a4 ([] : List Int) s5_0) = some (r1, r2) := h
 clear h
 have H' := am H
 clear H
 go_enter Tryd.func53, Tryd.ntmps53
 go_wp2
 go_loopg [0, 2, 3, 13] k (fun kq v0 v2 v3 v13 w' => ∃ (x0_1 : List Int) (x2_1 : List Int) (x3_1 : List Int) (x13_1 : List Int) (x6q0_1 : Int), Aside0 (num_shortest.l0 kq x0_1 l1 x2_1 x3_1 a4 x13_1 x6q0_1 = some (r1, r2)) ∧ Aside0 (kq ≤ k) ∧ Aside0 (Kd.V (Kd.int .u32) 102 w' w.heap.size (fun k_ => ((P0_ k_ ∨ P2_ k_ ∨ P3_ k_) ∨ w.heap.size ≤ k_) ∧ some k_ ≠ (v13 : Value).ownBlock ∧ k_ ≠ g) v0 x0_1) ∧ Aside0 (Kd.V (Kd.int .u32) 102 w' w.heap.size (fun k_ => ((P0_ k_ ∨ P2_ k_ ∨ P3_ k_) ∨ w.heap.size ≤ k_) ∧ some k_ ≠ (v13 : Value).ownBlock ∧ k_ ≠ g) v2 x2_1) ∧ Aside0 (Kd.V (Kd.int .u32) 102 w' w.heap.size (fun k_ => ((P0_ k_ ∨ P2_ k_ ∨ P3_ k_) ∨ w.heap.size ≤ k_) ∧ some k_ ≠ (v13 : Value).ownBlock ∧ k_ ≠ g) v3 x3_1) ∧ Aside0 (Kd.R (Kd.int .u8) 5 w' w.heap.size (fun k_ => (w.heap.size ≤ k_)) v13 x13_1) ∧ Aside0 (IsS3 w0 w' g x6q0_1) ∧ Aside0 (KeepBut w w' g none) ∧ Aside0 (Below w0.heap.size w0 w'))
 case atStart => exact ⟨(l0), (l2), (l3), (([] : List Int)), (s5_0), H', ⟨Nat.le_refl _⟩, ⟨by exact vy <| Kd.V_mono HO0.out (fun _ hk => ⟨hk.1, ⟨(by simp [Value.ownBlock]), hk.2⟩⟩)⟩, ⟨by exact vy <| Kd.V_mono HO2.out (fun _ hk => ⟨hk.1, ⟨(by simp [Value.ownBlock]), hk.2⟩⟩)⟩, ⟨by exact vy <| Kd.V_mono HO3.out (fun _ hk => ⟨hk.1, ⟨(by simp [Value.ownBlock]), hk.2⟩⟩)⟩, ⟨by first | exact Kd.R_nil _ _ _ _ _ | exact Kd.N_nil _ _ _ _ _ | exact Kd.V_nil _ _ _ _ _ | exact Kd.Q_nil _ _ _ _ _ | exact Kd.S_nil _ _ _ _ _⟩, ⟨ik HI5⟩, ⟨kk HK⟩, ⟨li HB HI5⟩⟩
 case round =>
  clear H'
  obtain ⟨x0_1, x2_1, x3_1, x13_1, x6q0_1, HA, HK1, HO_0, HO_2, HO_3, HO_13, HI5, HK, HB⟩ := hrel
  cases gk with
  | zero => exact absurd HA.out (by simp [num_shortest.l0])
  | succ k1 =>
   have H := HA.out
   clear HA
   simp only [num_shortest.l0] at H
   replace H := bm H
   obtain ⟨t180, A70, H⟩ := H
   replace H : ((num_nat_tens.f k1 x2_1 1).bind fun t183 => ((num_nat_tens.f k1 x3_1 1).bind fun t186 => (num_shortest.l1 k1 t180 l1 t183 t186 a4 x13_1 48 x6q0_1))) = some (r1, r2) := H
   have A7 := am A70
   clear A70
   replace H := bm H
   obtain ⟨t183, A80, H⟩ := H
   replace H : ((num_nat_tens.f k1 x3_1 1).bind fun t186 => (num_shortest.l1 k1 t180 l1 t183 t186 a4 x13_1 48 x6q0_1)) = some (r1, r2) := H
   have A8 := am A80
   clear A80
   replace H := bm H
   obtain ⟨t186, A90, H⟩ := H
   replace H : (num_shortest.l1 k1 t180 l1 t183 t186 a4 x13_1 48 x6q0_1) = some (r1, r2) := H
   have A9 := am A90
   clear A90
   have H' := am H
   clear H
   obtain ⟨Ao10, co10, eo10⟩ := Kd.V_slice HO_0.out
   subst eo10
   go_wp2_with (first | (refine gL (some 21) Tryd.func52 #[.slice Ao10 x0_1.length co10, .int .i64 1] ?_; (with_reducible refine (num_nat_tens.calls k1 (fun k_ => (((P0_ k_ ∨ P2_ k_ ∨ P3_ k_) ∨ w.heap.size ≤ k_) ∧ (some k_ ≠ (u13 : Value).ownBlock ∧ k_ ≠ g))) _ _ x0_1 1 t180 _ ?side1 A7.out).mono ?_); (case side1 => exact HO_0.out); rintro e w11 ⟨v181, rfl, ho0, hb⟩; refine ⟨_, rfl, ?_⟩; replace HO_0 := vb HO_0 hb; replace HO_2 := vb HO_2 hb; replace HO_3 := vb HO_3 hb; have HO182 := am (Kd.V_lower (Kd.V_mono (ok' := fun k_ => ((P0_ k_ ∨ P2_ k_ ∨ P3_ k_) ∨ w.heap.size ≤ k_) ∧ some k_ ≠ (u13 : Value).ownBlock ∧ k_ ≠ g) ho0 (fun k_ hk_ => ⟨Or.elim hk_ (fun hs_ => hs_.1) (fun hn_ => (.inr (Nat.le_trans (keep_size (kk HK)) hn_))), Or.elim hk_ (fun hs_ => hs_.2.1) (fun hn_ => (Kd.fresh' (Kd.R_lt (rk HO_13)) k_ hn_)), Or.elim hk_ (fun hs_ => hs_.2.2) (fun hn_ => (IsS3.fresh (ik HI5) k_ hn_))⟩)) (keep_size (kk HK))); replace HO_13 := am (Kd.R_below (rk HO_13) hb); replace HK := am (KeepBut.trans (kk HK) (KeepBut.of_below hb g none) (.inl rfl)); replace HB := am (below_step (li HB HI5) hb); replace HI5 := am (IsS3.below (ik HI5) hb); obtain ⟨Ao12, co12, eo12⟩ := Kd.V_slice HO_2.out; subst eo12) | (refine gL (some 23) Tryd.func52 #[.slice Ao12 x2_1.length co12, .int .i64 1] ?_; (with_reducible refine (num_nat_tens.calls k1 (fun k_ => (((P0_ k_ ∨ P2_ k_ ∨ P3_ k_) ∨ w.heap.size ≤ k_) ∧ (some k_ ≠ (u13 : Value).ownBlock ∧ k_ ≠ g))) _ _ x2_1 1 t183 _ ?side1 A8.out).mono ?_); (case side1 => exact HO_2.out); rintro e w13 ⟨v184, rfl, ho0, hb⟩; refine ⟨_, rfl, ?_⟩; replace HO_0 := vb HO_0 hb; replace HO_2 := vb HO_2 hb; replace HO_3 := vb HO_3 hb; replace HO182 := vb HO182 hb; have HO185 := am (Kd.V_lower (Kd.V_mono (ok' := fun k_ => ((P0_ k_ ∨ P2_ k_ ∨ P3_ k_) ∨ w.heap.size ≤ k_) ∧ some k_ ≠ (u13 : Value).ownBlock ∧ k_ ≠ g) ho0 (fun k_ hk_ => ⟨Or.elim hk_ (fun hs_ => hs_.1) (fun hn_ => (.inr (Nat.le_trans (keep_size (kk HK)) hn_))), Or.elim hk_ (fun hs_ => hs_.2.1) (fun hn_ => (Kd.fresh' (Kd.R_lt (rk HO_13)) k_ hn_)), Or.elim hk_ (fun hs_ => hs_.2.2) (fun hn_ => (IsS3.fresh (ik HI5) k_ hn_))⟩)) (keep_size (kk HK))); replace HO_13 := am (Kd.R_below (rk HO_13) hb); replace HK := am (KeepBut.trans (kk HK) (KeepBut.of_below hb g none) (.inl rfl)); replace HB := am (below_step (li HB HI5) hb); replace HI5 := am (IsS3.below (ik HI5) hb); obtain ⟨Ao14, co14, eo14⟩ := Kd.V_slice HO_3.out; subst eo14) | (refine gL (some 25) Tryd.func52 #[.slice Ao14 x3_1.length co14, .int .i64 1] ?_; (with_reducible refine (num_nat_tens.calls k1 (fun k_ => (((P0_ k_ ∨ P2_ k_ ∨ P3_ k_) ∨ w.heap.size ≤ k_) ∧ (some k_ ≠ (u13 : Value).ownBlock ∧ k_ ≠ g))) _ _ x3_1 1 t186 _ ?side1 A9.out).mono ?_); (case side1 => exact HO_3.out); rintro e w15 ⟨v187, rfl, ho0, hb⟩; refine ⟨_, rfl, ?_⟩; replace HO_0 := vb HO_0 hb; replace HO_2 := vb HO_2 hb; replace HO_3 := vb HO_3 hb; replace HO182 := vb HO182 hb; replace HO185 := vb HO185 hb; have HO188 := am (Kd.V_lower (Kd.V_mono (ok' := fun k_ => ((P0_ k_ ∨ P2_ k_ ∨ P3_ k_) ∨ w.heap.size ≤ k_) ∧ some k_ ≠ (u13 : Value).ownBlock ∧ k_ ≠ g) ho0 (fun k_ hk_ => ⟨Or.elim hk_ (fun hs_ => hs_.1) (fun hn_ => (.inr (Nat.le_trans (keep_size (kk HK)) hn_))), Or.elim hk_ (fun hs_ => hs_.2.1) (fun hn_ => (Kd.fresh' (Kd.R_lt (rk HO_13)) k_ hn_)), Or.elim hk_ (fun hs_ => hs_.2.2) (fun hn_ => (IsS3.fresh (ik HI5) k_ hn_))⟩)) (keep_size (kk HK))); replace HO_13 := am (Kd.R_below (rk HO_13) hb); replace HK := am (KeepBut.trans (kk HK) (KeepBut.of_below hb g none) (.inl rfl)); replace HB := am (below_step (li HB HI5) hb); replace HI5 := am (IsS3.below (ik HI5) hb)))
   go_loopg [0, 14] k1 (fun kq v0 v14 w' => ∃ (x0_2 : List Int) (x14_2 : Int), v14 = .int .u8 x14_2 ∧ Aside0 (num_shortest.l1 kq x0_2 l1 t183 t186 a4 x13_1 x14_2 x6q0_1 = some (r1, r2)) ∧ Aside0 (kq ≤ k1) ∧ Aside0 (Kd.V (Kd.int .u32) 102 w' w.heap.size (fun k_ => ((P0_ k_ ∨ P2_ k_ ∨ P3_ k_) ∨ w.heap.size ≤ k_) ∧ some k_ ≠ (u13 : Value).ownBlock ∧ k_ ≠ g) v0 x0_2) ∧ Aside0 (Kd.V (Kd.int .u32) 102 w' w.heap.size (fun k_ => ((P0_ k_ ∨ P2_ k_ ∨ P3_ k_) ∨ w.heap.size ≤ k_) ∧ some k_ ≠ (u13 : Value).ownBlock ∧ k_ ≠ g) v184 t183) ∧ Aside0 (Kd.V (Kd.int .u32) 102 w' w.heap.size (fun k_ => ((P0_ k_ ∨ P2_ k_ ∨ P3_ k_) ∨ w.heap.size ≤ k_) ∧ some k_ ≠ (u13 : Value).ownBlock ∧ k_ ≠ g) v187 t186) ∧ Aside0 (Kd.R (Kd.int .u8) 5 w' w.heap.size (fun k_ => (w.heap.size ≤ k_)) u13 x13_1) ∧ Aside0 (IsS3 w0 w' g x6q0_1) ∧ Aside0 (KeepBut w w' g none) ∧ Aside0 (Below w0.heap.size w0 w'))
   case atStart => exact ⟨(t180), (48), eqd, H', ⟨Nat.le_refl _⟩, ⟨vk HO182⟩, ⟨vk HO185⟩, ⟨vk HO188⟩, ⟨rk HO_13⟩, ⟨ik HI5⟩, ⟨kk HK⟩, ⟨li HB HI5⟩⟩
   case round =>
    clear H'
    obtain ⟨x0_2, x14_2, rfl, HA, HK2, HO_0, HO_2, HO_3, HO_13, HI5, HK, HB⟩ := hrel
    cases gk with
    | zero => exact absurd HA.out (by simp [num_shortest.l1])
    | succ k2 =>
     have H := HA.out
     clear HA
     simp only [num_shortest.l1] at H
     replace H := bm H
     obtain ⟨t189, A160, H⟩ := H
     replace H : (if t189 ≥ 0 then ((num_nat_less.f k2 x0_2 l1).bind fun t190 => (num_shortest.l1 k2 t190 l1 t183 t186 a4 x13_1 ((x14_2 + 1) % 256) x6q0_1)) else ((num_nat_against.f k2 x0_2 t183).bind fun t193 => ((num_nat_plus.f k2 x0_2 t186).bind fun t194 => ((num_nat_against.f k2 t194 l1).bind fun t197 => (if t193 < 0 then (if t197 > 0 then (num_shortest.j2 k2 x0_2 l1 t183 t186 a4 x13_1 x14_2 true true x6q0_1) else (if t197 = 0 then (num_shortest.j2 k2 x0_2 l1 t183 t186 a4 x13_1 x14_2 true a4 x6q0_1) else (num_shortest.j2 k2 x0_2 l1 t183 t186 a4 x13_1 x14_2 true false x6q0_1))) else (if t193 = 0 then (if t197 > 0 then (num_shortest.j2 k2 x0_2 l1 t183 t186 a4 x13_1 x14_2 a4 true x6q0_1) else (if t197 = 0 then (num_shortest.j2 k2 x0_2 l1 t183 t186 a4 x13_1 x14_2 a4 a4 x6q0_1) else (num_shortest.j2 k2 x0_2 l1 t183 t186 a4 x13_1 x14_2 a4 false x6q0_1))) else (if t197 > 0 then (num_shortest.j2 k2 x0_2 l1 t183 t186 a4 x13_1 x14_2 false true x6q0_1) else (if t197 = 0 then (num_shortest.j2 k2 x0_2 l1 t183 t186 a4 x13_1 x14_2 false a4 x6q0_1) else (num_shortest.j2 k2 x0_2 l1 t183 t186 a4 x13_1 x14_2 false false x6q0_1))))))))) = some (r1, r2) := H
     have A16 := am A160
     clear A160
     by_cases c17 : t189 ≥ 0
     ·
      rw [if_pos c17] at H
      have c17b0 : decide (0 ≤ t189) = true := dt c17
      clear c17
      replace H := bm H
      obtain ⟨t190, A180, H⟩ := H
      replace H : (num_shortest.l1 k2 t190 l1 t183 t186 a4 x13_1 ((x14_2 + 1) % 256) x6q0_1) = some (r1, r2) := H
      have A18 := am A180
      clear A180
      have H' := am H
      clear H
      obtain ⟨Ao19, co19, eo19⟩ := Kd.V_slice HO_0.out
      subst eo19
      go_wp2_with (first | (refine gL (some 28) Tryd.func49 #[.slice Ao19 x0_2.length co19, .slice A1 l1.length c1] ?_; (with_reducible refine (num_nat_against.calls k2 _ _ x0_2 _ _ l1 t189 _ ?side1 ?side2 ?side3 ?side4 A16.out).mono ?_); (case side1 => exact ck (Kd.V_reads' HO_0.out).2.2); (case side2 => exact (Kd.V_reads' HO_0.out).2.1); (case side3 => exact Kd.C_keep 0 HR1.out (kk HK) hf1); (case side4 => exact HC1.out); rintro e w' ⟨rfl, ⟨nd, rfl⟩⟩; refine ⟨_, rfl, ?_⟩) | (refine gL (some 32) Tryd.func87 #[.slice Ao19 x0_2.length co19, .slice A1 l1.length c1] ?_; (with_reducible refine (num_nat_less.calls k2 _ _ x0_2 _ _ l1 t190 _ ?side1 ?side2 ?side3 ?side4 A18.out).mono ?_); (case side1 => exact ck (Kd.V_reads' HO_0.out).2.2); (case side2 => exact (Kd.V_reads' HO_0.out).2.1); (case side3 => exact Kd.C_keep 0 HR1.out (kk HK) hf1); (case side4 => exact HC1.out); rintro e w20 ⟨v191, rfl, ho0, hb⟩; refine ⟨_, rfl, ?_⟩; replace HO_0 := vb HO_0 hb; replace HO_2 := vb HO_2 hb; replace HO_3 := vb HO_3 hb; have HO192 := am (Kd.V_lower (Kd.V_mono (ok' := fun k_ => ((P0_ k_ ∨ P2_ k_ ∨ P3_ k_) ∨ w.heap.size ≤ k_) ∧ some k_ ≠ (u13 : Value).ownBlock ∧ k_ ≠ g) ho0 (fun k_ hk_ => ⟨(.inr (Nat.le_trans (keep_size (kk HK)) hk_)), (Kd.fresh' (Kd.R_lt (rk HO_13)) k_ hk_), (IsS3.fresh (ik HI5) k_ hk_)⟩)) (keep_size (kk HK))); replace HO_13 := am (Kd.R_below (rk HO_13) hb); replace HK := am (KeepBut.trans (kk HK) (KeepBut.of_below hb g none) (.inl rfl)); replace HB := am (below_step (li HB HI5) hb); replace HI5 := am (IsS3.below (ik HI5) hb)))
      go_roundg k2
      case measure => have := HK1.out; have := HK2.out; omega
      case rel => exact ⟨(t190), ((x14_2 + 1) % 256), eqd, H', ⟨by have := HK1.out; have := HK2.out; omega⟩, ⟨vk HO192⟩, ⟨vk HO_2⟩, ⟨vk HO_3⟩, ⟨rk HO_13⟩, ⟨ik HI5⟩, ⟨kk HK⟩, ⟨li HB HI5⟩⟩
     rw [if_neg c17] at H
     have c17b0 : decide (0 ≤ t189) = false := decide_eq_false c17
     clear c17
     replace H := bm H
     obtain ⟨t193, A210, H⟩ := H
     replace H : ((num_nat_plus.f k2 x0_2 t186).bind fun t194 => ((num_nat_against.f k2 t194 l1).bind fun t197 => (if t193 < 0 then (if t197 > 0 then (num_shortest.j2 k2 x0_2 l1 t183 t186 a4 x13_1 x14_2 true true x6q0_1) else (if t197 = 0 then (num_shortest.j2 k2 x0_2 l1 t183 t186 a4 x13_1 x14_2 true a4 x6q0_1) else (num_shortest.j2 k2 x0_2 l1 t183 t186 a4 x13_1 x14_2 true false x6q0_1))) else (if t193 = 0 then (if t197 > 0 then (num_shortest.j2 k2 x0_2 l1 t183 t186 a4 x13_1 x14_2 a4 true x6q0_1) else (if t197 = 0 then (num_shortest.j2 k2 x0_2 l1 t183 t186 a4 x13_1 x14_2 a4 a4 x6q0_1) else (num_shortest.j2 k2 x0_2 l1 t183 t186 a4 x13_1 x14_2 a4 false x6q0_1))) else (if t197 > 0 then (num_shortest.j2 k2 x0_2 l1 t183 t186 a4 x13_1 x14_2 false true x6q0_1) else (if t197 = 0 then (num_shortest.j2 k2 x0_2 l1 t183 t186 a4 x13_1 x14_2 false a4 x6q0_1) else (num_shortest.j2 k2 x0_2 l1 t183 t186 a4 x13_1 x14_2 false false x6q0_1))))))) = some (r1, r2) := H
     have A21 := am A210
     clear A210
     replace H := bm H
     obtain ⟨t194, A220, H⟩ := H
     replace H : ((num_nat_against.f k2 t194 l1).bind fun t197 => (if t193 < 0 then (if t197 > 0 then (num_shortest.j2 k2 x0_2 l1 t183 t186 a4 x13_1 x14_2 true true x6q0_1) else (if t197 = 0 then (num_shortest.j2 k2 x0_2 l1 t183 t186 a4 x13_1 x14_2 true a4 x6q0_1) else (num_shortest.j2 k2 x0_2 l1 t183 t186 a4 x13_1 x14_2 true false x6q0_1))) else (if t193 = 0 then (if t197 > 0 then (num_shortest.j2 k2 x0_2 l1 t183 t186 a4 x13_1 x14_2 a4 true x6q0_1) else (if t197 = 0 then (num_shortest.j2 k2 x0_2 l1 t183 t186 a4 x13_1 x14_2 a4 a4 x6q0_1) else (num_shortest.j2 k2 x0_2 l1 t183 t186 a4 x13_1 x14_2 a4 false x6q0_1))) else (if t197 > 0 then (num_shortest.j2 k2 x0_2 l1 t183 t186 a4 x13_1 x14_2 false true x6q0_1) else (if t197 = 0 then (num_shortest.j2 k2 x0_2 l1 t183 t186 a4 x13_1 x14_2 false a4 x6q0_1) else (num_shortest.j2 k2 x0_2 l1 t183 t186 a4 x13_1 x14_2 false false x6q0_1)))))) = some (r1, r2) := H
     have A22 := am A220
     clear A220
     replace H := bm H
     obtain ⟨t197, A230, H⟩ := H
     replace H : (if t193 < 0 then (if t197 > 0 then (num_shortest.j2 k2 x0_2 l1 t183 t186 a4 x13_1 x14_2 true true x6q0_1) else (if t197 = 0 then (num_shortest.j2 k2 x0_2 l1 t183 t186 a4 x13_1 x14_2 true a4 x6q0_1) else (num_shortest.j2 k2 x0_2 l1 t183 t186 a4 x13_1 x14_2 true false x6q0_1))) else (if t193 = 0 then (if t197 > 0 then (num_shortest.j2 k2 x0_2 l1 t183 t186 a4 x13_1 x14_2 a4 true x6q0_1) else (if t197 = 0 then (num_shortest.j2 k2 x0_2 l1 t183 t186 a4 x13_1 x14_2 a4 a4 x6q0_1) else (num_shortest.j2 k2 x0_2 l1 t183 t186 a4 x13_1 x14_2 a4 false x6q0_1))) else (if t197 > 0 then (num_shortest.j2 k2 x0_2 l1 t183 t186 a4 x13_1 x14_2 false true x6q0_1) else (if t197 = 0 then (num_shortest.j2 k2 x0_2 l1 t183 t186 a4 x13_1 x14_2 false a4 x6q0_1) else (num_shortest.j2 k2 x0_2 l1 t183 t186 a4 x13_1 x14_2 false false x6q0_1))))) = some (r1, r2) := H
     have A23 := am A230
     clear A230
     have HC24 := am H
     clear H
     obtain ⟨Ao25, co25, eo25⟩ := Kd.V_slice HO_0.out
     subst eo25
     go_upto_region 8 with (first | (refine gL (some 28) Tryd.func49 #[.slice Ao25 x0_2.length co25, .slice A1 l1.length c1] ?_; (with_reducible refine (num_nat_against.calls k2 _ _ x0_2 _ _ l1 t189 _ ?side1 ?side2 ?side3 ?side4 A16.out).mono ?_); (case side1 => exact ck (Kd.V_reads' HO_0.out).2.2); (case side2 => exact (Kd.V_reads' HO_0.out).2.1); (case side3 => exact Kd.C_keep 0 HR1.out (kk HK) hf1); (case side4 => exact HC1.out); rintro e w' ⟨rfl, ⟨nd, rfl⟩⟩; refine ⟨_, rfl, ?_⟩; obtain ⟨Ao26, co26, eo26⟩ := Kd.V_slice HO_2.out; subst eo26) | (refine gL (some 37) Tryd.func49 #[.slice Ao25 x0_2.length co25, .slice Ao26 t183.length co26] ?_; (with_reducible refine (num_nat_against.calls k2 _ _ x0_2 _ _ t183 t193 _ ?side1 ?side2 ?side3 ?side4 A21.out).mono ?_); (case side1 => exact ck (Kd.V_reads' HO_0.out).2.2); (case side2 => exact (Kd.V_reads' HO_0.out).2.1); (case side3 => exact ck (Kd.V_reads' HO_2.out).2.2); (case side4 => exact (Kd.V_reads' HO_2.out).2.1); rintro e w' ⟨rfl, ⟨nd, rfl⟩⟩; refine ⟨_, rfl, ?_⟩; obtain ⟨Ao27, co27, eo27⟩ := Kd.V_slice HO_3.out; subst eo27) | (refine gL (some 40) Tryd.func48 #[.slice Ao25 x0_2.length co25, .slice Ao27 t186.length co27] ?_; (with_reducible refine (num_nat_plus.calls k2 _ _ x0_2 _ _ t186 t194 _ ?side1 ?side2 ?side3 ?side4 A22.out).mono ?_); (case side1 => exact ck (Kd.V_reads' HO_0.out).2.2); (case side2 => exact (Kd.V_reads' HO_0.out).2.1); (case side3 => exact ck (Kd.V_reads' HO_3.out).2.2); (case side4 => exact (Kd.V_reads' HO_3.out).2.1); rintro e w28 ⟨v195, rfl, ho0, hb⟩; refine ⟨_, rfl, ?_⟩; replace HO_0 := vb HO_0 hb; replace HO_2 := vb HO_2 hb; replace HO_3 := vb HO_3 hb; have HO196 := am (Kd.V_lower (Kd.V_mono (ok' := fun k_ => ((P0_ k_ ∨ P2_ k_ ∨ P3_ k_) ∨ w.heap.size ≤ k_) ∧ some k_ ≠ (u13 : Value).ownBlock ∧ k_ ≠ g) ho0 (fun k_ hk_ => ⟨(.inr (Nat.le_trans (keep_size (kk HK)) hk_)), (Kd.fresh' (Kd.R_lt (rk HO_13)) k_ hk_), (IsS3.fresh (ik HI5) k_ hk_)⟩)) (keep_size (kk HK))); replace HO_13 := am (Kd.R_below (rk HO_13) hb); replace HK := am (KeepBut.trans (kk HK) (KeepBut.of_below hb g none) (.inl rfl)); replace HB := am (below_step (li HB HI5) hb); replace HI5 := am (IsS3.below (ik HI5) hb); obtain ⟨Ao29, co29, eo29⟩ := Kd.V_slice HO196.out; subst eo29) | (refine gL (some 42) Tryd.func49 #[.slice Ao29 t194.length co29, .slice A1 l1.length c1] ?_; (with_reducible refine (num_nat_against.calls k2 _ _ t194 _ _ l1 t197 _ ?side1 ?side2 ?side3 ?side4 A23.out).mono ?_); (case side1 => exact ck (Kd.V_reads' HO196.out).2.2); (case side2 => exact (Kd.V_reads' HO196.out).2.1); (case side3 => exact Kd.C_keep 0 HR1.out (kk HK) hf1); (case side4 => exact HC1.out); rintro e w' ⟨rfl, ⟨nd, rfl⟩⟩; refine ⟨_, rfl, ?_⟩))
     (try simp only [Act.put, List.setIfInBounds_toArray, List.set_cons_zero, List.set_cons_succ])
     go_cut [17, 18] (fun v17 v18 wc => ∃ (kq : Nat) (x17_23 : Bool) (x18_23 : Bool), v17 = .bool x17_23 ∧ v18 = .bool x18_23 ∧ Aside0 (num_shortest.j2 kq x0_2 l1 t183 t186 a4 x13_1 x14_2 x17_23 x18_23 x6q0_1 = some (r1, r2)) ∧ Aside0 (kq ≤ k2) ∧ Aside0 (Kd.V (Kd.int .u32) 102 wc w.heap.size (fun k_ => ((P0_ k_ ∨ P2_ k_ ∨ P3_ k_) ∨ w.heap.size ≤ k_) ∧ some k_ ≠ (u13 : Value).ownBlock ∧ k_ ≠ g) (.slice Ao25 x0_2.length co25) x0_2) ∧ Aside0 (Kd.V (Kd.int .u32) 102 wc w.heap.size (fun k_ => ((P0_ k_ ∨ P2_ k_ ∨ P3_ k_) ∨ w.heap.size ≤ k_) ∧ some k_ ≠ (u13 : Value).ownBlock ∧ k_ ≠ g) (.slice Ao26 t183.length co26) t183) ∧ Aside0 (Kd.V (Kd.int .u32) 102 wc w.heap.size (fun k_ => ((P0_ k_ ∨ P2_ k_ ∨ P3_ k_) ∨ w.heap.size ≤ k_) ∧ some k_ ≠ (u13 : Value).ownBlock ∧ k_ ≠ g) (.slice Ao27 t186.length co27) t186) ∧ Aside0 (Kd.R (Kd.int .u8) 5 wc w.heap.size (fun k_ => (w.heap.size ≤ k_)) u13 x13_1) ∧ Aside0 (IsS3 w0 wc g x6q0_1) ∧ Aside0 (KeepBut w wc g none) ∧ Aside0 (Below w0.heap.size w0 wc))
     case first =>
      have H := HC24.out
      clear HC24
      by_cases c30 : t193 < 0
      ·
       rw [if_pos c30] at H
       have c30b0 := dt c30
       clear c30
       (first | rw [c30b0] | (simp only [i64_w, i32_w]; rw [c30b0]) | skip)
       by_cases c31 : t197 > 0
       ·
        rw [if_pos c31] at H
        have c31b0 : decide (0 < t197) = true := dt c31
        clear c31
        have H' := am H
        clear H
        go_wp2
        go_meet
        case rel => exact ⟨_, (true), (true), eqd, eqd, H', ⟨by have := HK1.out; have := HK2.out; first | omega | exact Nat.le_refl _⟩, ⟨vk HO_0⟩, ⟨vk HO_2⟩, ⟨vk HO_3⟩, ⟨rk HO_13⟩, ⟨ik HI5⟩, ⟨kk HK⟩, ⟨li HB HI5⟩⟩
       rw [if_neg c31] at H
       have c31b0 : decide (0 < t197) = false := decide_eq_false c31
       clear c31
       by_cases c32 : t197 = 0
       ·
        rw [if_pos c32] at H
        have c32b0 : (t197 == 0) = true := beq_iff_eq.mpr c32
        have c32b1 : (t197 != 0) = false := bne_eq_false_iff_eq.mpr c32
        clear c32
        have H' := am H
        clear H
        go_wp2
        go_meet
        case rel => exact ⟨_, (true), (a4), eqd, eqd, H', ⟨by have := HK1.out; have := HK2.out; first | omega | exact Nat.le_refl _⟩, ⟨vk HO_0⟩, ⟨vk HO_2⟩, ⟨vk HO_3⟩, ⟨rk HO_13⟩, ⟨ik HI5⟩, ⟨kk HK⟩, ⟨li HB HI5⟩⟩
       rw [if_neg c32] at H
       have c32b0 : (t197 == 0) = false := beq_eq_false_iff_ne.mpr c32
       have c32b1 : (t197 != 0) = true := bne_iff_ne.mpr c32
       have H' := am H
       clear H
       go_wp2
       go_meet
       case rel => exact ⟨_, (true), (false), eqd, eqd, H', ⟨by have := HK1.out; have := HK2.out; first | omega | exact Nat.le_refl _⟩, ⟨vk HO_0⟩, ⟨vk HO_2⟩, ⟨vk HO_3⟩, ⟨rk HO_13⟩, ⟨ik HI5⟩, ⟨kk HK⟩, ⟨li HB HI5⟩⟩
      rw [if_neg c30] at H
      have c30b0 := decide_eq_false c30
      clear c30
      (first | rw [c30b0] | (simp only [i64_w, i32_w]; rw [c30b0]) | skip)
      by_cases c33 : t193 = 0
      ·
       rw [if_pos c33] at H
       have c33b0 : (t193 == 0) = true := beq_iff_eq.mpr c33
       have c33b1 : (t193 != 0) = false := bne_eq_false_iff_eq.mpr c33
       clear c33
       by_cases c34 : t197 > 0
       ·
        rw [if_pos c34] at H
        have c34b0 : decide (0 < t197) = true := dt c34
        clear c34
        have H' := am H
        clear H
        go_wp2
        go_meet
        case rel => exact ⟨_, (a4), (true), eqd, eqd, H', ⟨by have := HK1.out; have := HK2.out; first | omega | exact Nat.le_refl _⟩, ⟨vk HO_0⟩, ⟨vk HO_2⟩, ⟨vk HO_3⟩, ⟨rk HO_13⟩, ⟨ik HI5⟩, ⟨kk HK⟩, ⟨li HB HI5⟩⟩
       rw [if_neg c34] at H
       have c34b0 : decide (0 < t197) = false := decide_eq_false c34
       clear c34
       by_cases c35 : t197 = 0
       ·
        rw [if_pos c35] at H
        have c35b0 : (t197 == 0) = true := beq_iff_eq.mpr c35
        have c35b1 : (t197 != 0) = false := bne_eq_false_iff_eq.mpr c35
        clear c35
        have H' := am H
        clear H
        go_wp2
        go_meet
        case rel => exact ⟨_, (a4), (a4), eqd, eqd, H', ⟨by have := HK1.out; have := HK2.out; first | omega | exact Nat.le_refl _⟩, ⟨vk HO_0⟩, ⟨vk HO_2⟩, ⟨vk HO_3⟩, ⟨rk HO_13⟩, ⟨ik HI5⟩, ⟨kk HK⟩, ⟨li HB HI5⟩⟩
       rw [if_neg c35] at H
       have c35b0 : (t197 == 0) = false := beq_eq_false_iff_ne.mpr c35
       have c35b1 : (t197 != 0) = true := bne_iff_ne.mpr c35
       have H' := am H
       clear H
       go_wp2
       go_meet
       case rel => exact ⟨_, (a4), (false), eqd, eqd, H', ⟨by have := HK1.out; have := HK2.out; first | omega | exact Nat.le_refl _⟩, ⟨vk HO_0⟩, ⟨vk HO_2⟩, ⟨vk HO_3⟩, ⟨rk HO_13⟩, ⟨ik HI5⟩, ⟨kk HK⟩, ⟨li HB HI5⟩⟩
      rw [if_neg c33] at H
      have c33b0 : (t193 == 0) = false := beq_eq_false_iff_ne.mpr c33
      have c33b1 : (t193 != 0) = true := bne_iff_ne.mpr c33
      by_cases c36 : t197 > 0
      ·
       rw [if_pos c36] at H
       have c36b0 : decide (0 < t197) = true := dt c36
       clear c36
       have H' := am H
       clear H
       go_wp2
       go_meet
       case rel => exact ⟨_, (false), (true), eqd, eqd, H', ⟨by have := HK1.out; have := HK2.out; first | omega | exact Nat.le_refl _⟩, ⟨vk HO_0⟩, ⟨vk HO_2⟩, ⟨vk HO_3⟩, ⟨rk HO_13⟩, ⟨ik HI5⟩, ⟨kk HK⟩, ⟨li HB HI5⟩⟩
      rw [if_neg c36] at H
      have c36b0 : decide (0 < t197) = false := decide_eq_false c36
      clear c36
      by_cases c37 : t197 = 0
      ·
       rw [if_pos c37] at H
       have c37b0 : (t197 == 0) = true := beq_iff_eq.mpr c37
       have c37b1 : (t197 != 0) = false := bne_eq_false_iff_eq.mpr c37
       clear c37
       have H' := am H
       clear H
       go_wp2
       go_meet
       case rel => exact ⟨_, (false), (a4), eqd, eqd, H', ⟨by have := HK1.out; have := HK2.out; first | omega | exact Nat.le_refl _⟩, ⟨vk HO_0⟩, ⟨vk HO_2⟩, ⟨vk HO_3⟩, ⟨rk HO_13⟩, ⟨ik HI5⟩, ⟨kk HK⟩, ⟨li HB HI5⟩⟩
      rw [if_neg c37] at H
      have c37b0 : (t197 == 0) = false := beq_eq_false_iff_ne.mpr c37
      have c37b1 : (t197 != 0) = true := bne_iff_ne.mpr c37
      have H' := am H
      clear H
      go_wp2
      go_meet
      case rel => exact ⟨_, (false), (false), eqd, eqd, H', ⟨by have := HK1.out; have := HK2.out; first | omega | exact Nat.le_refl _⟩, ⟨vk HO_0⟩, ⟨vk HO_2⟩, ⟨vk HO_3⟩, ⟨rk HO_13⟩, ⟨ik HI5⟩, ⟨kk HK⟩, ⟨li HB HI5⟩⟩
     case rest =>
      clear HC24
      obtain ⟨kq, x17_23, x18_23, rfl, rfl, HA, HJ23, HO_0, HO_2, HO_3, HO_13, HI5, HK, HB⟩ := hcut
      cases kq with
      | zero => exact absurd HA.out (by simp [num_shortest.j2])
      | succ kj23 =>
       have H := HA.out
       clear HA
       simp only [num_shortest.j2] at H
       have HC38 := am H
       clear H
       go_upto_region 9 with (fail)
       go_cut [71] (fun v71 wc => ∃ (kq : Nat) (x71_37 : Bool), v71 = .bool x71_37 ∧ Aside0 (num_shortest.j3 kq x0_2 l1 t183 t186 a4 x13_1 x14_2 x17_23 x18_23 x71_37 x6q0_1 = some (r1, r2)) ∧ Aside0 (kq ≤ kj23) ∧ Aside0 (Kd.V (Kd.int .u32) 102 wc w.heap.size (fun k_ => ((P0_ k_ ∨ P2_ k_ ∨ P3_ k_) ∨ w.heap.size ≤ k_) ∧ some k_ ≠ (u13 : Value).ownBlock ∧ k_ ≠ g) (.slice Ao25 x0_2.length co25) x0_2) ∧ Aside0 (Kd.V (Kd.int .u32) 102 wc w.heap.size (fun k_ => ((P0_ k_ ∨ P2_ k_ ∨ P3_ k_) ∨ w.heap.size ≤ k_) ∧ some k_ ≠ (u13 : Value).ownBlock ∧ k_ ≠ g) (.slice Ao26 t183.length co26) t183) ∧ Aside0 (Kd.V (Kd.int .u32) 102 wc w.heap.size (fun k_ => ((P0_ k_ ∨ P2_ k_ ∨ P3_ k_) ∨ w.heap.size ≤ k_) ∧ some k_ ≠ (u13 : Value).ownBlock ∧ k_ ≠ g) (.slice Ao27 t186.length co27) t186) ∧ Aside0 (Kd.R (Kd.int .u8) 5 wc w.heap.size (fun k_ => (w.heap.size ≤ k_)) u13 x13_1) ∧ Aside0 (IsS3 w0 wc g x6q0_1) ∧ Aside0 (KeepBut w wc g none) ∧ Aside0 (Below w0.heap.size w0 wc))
       case first =>
        have H := HC38.out
        clear HC38
        by_cases c39 : (x13_1.length : Int) = 0
        ·
         rw [if_pos c39] at H
         have c39b0 : ((x13_1.length : Int) == 0) = true := beq_iff_eq.mpr c39
         have c39b1 : ((x13_1.length : Int) != 0) = false := bne_eq_false_iff_eq.mpr c39
         clear c39
         (first | rw [c39b0] | (simp only [i64_w, i32_w]; rw [c39b0]) | skip)
         by_cases c40 : x14_2 = 48
         ·
          rw [if_pos c40] at H
          have c40b0 : (x14_2 == 48) = true := beq_iff_eq.mpr c40
          have c40b1 : (x14_2 != 48) = false := bne_eq_false_iff_eq.mpr c40
          clear c40
          have H' := am H
          clear H
          obtain ⟨Ao41, co41, eo41⟩ := Kd.R_slice HO_13.out
          subst eo41
          go_wp2
          go_meet
          case rel => exact ⟨_, (!x18_23), eqd, H', ⟨by have := HK1.out; have := HK2.out; have := HJ23.out; first | omega | exact Nat.le_refl _⟩, ⟨vk HO_0⟩, ⟨vk HO_2⟩, ⟨vk HO_3⟩, ⟨rk HO_13⟩, ⟨ik HI5⟩, ⟨kk HK⟩, ⟨li HB HI5⟩⟩
         rw [if_neg c40] at H
         have c40b0 : (x14_2 == 48) = false := beq_eq_false_iff_ne.mpr c40
         have c40b1 : (x14_2 != 48) = true := bne_iff_ne.mpr c40
         have H' := am H
         clear H
         obtain ⟨Ao42, co42, eo42⟩ := Kd.R_slice HO_13.out
         subst eo42
         go_wp2
         go_meet
         case rel => exact ⟨_, (false), eqd, H', ⟨by have := HK1.out; have := HK2.out; have := HJ23.out; first | omega | exact Nat.le_refl _⟩, ⟨vk HO_0⟩, ⟨vk HO_2⟩, ⟨vk HO_3⟩, ⟨rk HO_13⟩, ⟨ik HI5⟩, ⟨kk HK⟩, ⟨li HB HI5⟩⟩
        rw [if_neg c39] at H
        have c39b0 : ((x13_1.length : Int) == 0) = false := beq_eq_false_iff_ne.mpr c39
        have c39b1 : ((x13_1.length : Int) != 0) = true := bne_iff_ne.mpr c39
        have c39b2 : ¬ (x13_1 = []) := fun h_ => c39 (by rw [h_]; rfl)
        (first | rw [c39b0] | (simp only [i64_w, i32_w]; rw [c39b0]) | skip)
        have H' := am H
        clear H
        obtain ⟨Ao43, co43, eo43⟩ := Kd.R_slice HO_13.out
        subst eo43
        go_wp2
        go_meet
        case rel => exact ⟨_, (false), eqd, H', ⟨by have := HK1.out; have := HK2.out; have := HJ23.out; first | omega | exact Nat.le_refl _⟩, ⟨vk HO_0⟩, ⟨vk HO_2⟩, ⟨vk HO_3⟩, ⟨rk HO_13⟩, ⟨ik HI5⟩, ⟨kk HK⟩, ⟨li HB HI5⟩⟩
       case rest =>
        clear HC38
        obtain ⟨kq, x71_37, rfl, HA, HJ37, HO_0, HO_2, HO_3, HO_13, HI5, HK, HB⟩ := hcut
        cases kq with
        | zero => exact absurd HA.out (by simp [num_shortest.j3])
        | succ kj37 =>
         have H := HA.out
         clear HA
         simp only [num_shortest.j3] at H
         by_cases c44 : x71_37 = true
         ·
          subst c44
          have H1 : (num_shortest.l0 kj37 x0_2 l1 t183 t186 a4 x13_1 (wrap64 (x6q0_1 - 1))) = some (r1, r2) := by rw [if_pos rfl] at H; exact H
          clear H
          have H := H1
          clear H1
          have H' := am H
          clear H
          obtain ⟨HGz45, hgz45⟩ := HI5.out
          have hcz45_0 := cellS3_0 HGz45
          have hfz45_0 := blk_frozen HGz45 0
          clear HGz45 hgz45
          go_wp2
          go_roundg kj37
          case measure => have := HK1.out; have := HK2.out; have := HJ23.out; have := HJ37.out; omega
          case rel => exact ⟨(x0_2), (t183), (t186), (x13_1), (wrap64 (x6q0_1 - 1)), H', ⟨by have := HK1.out; have := HK2.out; have := HJ23.out; have := HJ37.out; omega⟩, ⟨by exact vy <| Kd.V_mono (Kd.V_far (p := ⟨g, 0, none⟩) (Kd.V_mono HO_0.out (fun k_ hk => (⟨hk, hk.2.2⟩ : _ ∧ k_ ≠ g))) (fun _ hk => hk.2) (.int .i64 (wrap64 (x6q0_1 - 1)))) (fun _ hk => ⟨hk.1.1, ⟨hk.1.2.1, hk.1.2.2⟩⟩)⟩, ⟨by exact vy <| Kd.V_mono (Kd.V_far (p := ⟨g, 0, none⟩) (Kd.V_mono HO_2.out (fun k_ hk => (⟨hk, hk.2.2⟩ : _ ∧ k_ ≠ g))) (fun _ hk => hk.2) (.int .i64 (wrap64 (x6q0_1 - 1)))) (fun _ hk => ⟨hk.1.1, ⟨hk.1.2.1, hk.1.2.2⟩⟩)⟩, ⟨by exact vy <| Kd.V_mono (Kd.V_far (p := ⟨g, 0, none⟩) (Kd.V_mono HO_3.out (fun k_ hk => (⟨hk, hk.2.2⟩ : _ ∧ k_ ≠ g))) (fun _ hk => hk.2) (.int .i64 (wrap64 (x6q0_1 - 1)))) (fun _ hk => ⟨hk.1.1, ⟨hk.1.2.1, hk.1.2.2⟩⟩)⟩, ⟨by exact ry <| Kd.R_mono (Kd.R_far (p := ⟨g, 0, none⟩) (IsS3.apart HI5.out HO_13.out (by decide)) (fun _ hk => hk.2) (.int .i64 (wrap64 (x6q0_1 - 1)))) (fun _ hk => hk.1)⟩, ⟨ik HI5⟩, ⟨kk HK⟩, ⟨li HB HI5⟩⟩
         replace c44 := Bool.eq_false_iff.mpr c44
         subst c44
         have H1 : (if x17_23 = true then (num_shortest.j4 kj37 x0_2 l1 t183 t186 a4 x13_1 x14_2 x17_23 x18_23 false x6q0_1) else (num_shortest.j4 kj37 x0_2 l1 t183 t186 a4 x13_1 x14_2 x17_23 x18_23 (!x18_23) x6q0_1)) = some (r1, r2) := by rw [if_neg (show ¬ (false = true) by decide)] at H; exact H
         clear H
         have H := H1
         clear H1
         have HC46 := am H
         clear H
         go_upto_region 11 with (fail)
         go_cut [82] (fun v82 wc => ∃ (kq : Nat) (x82_45 : Bool), v82 = .bool x82_45 ∧ Aside0 (num_shortest.j4 kq x0_2 l1 t183 t186 a4 x13_1 x14_2 x17_23 x18_23 x82_45 x6q0_1 = some (r1, r2)) ∧ Aside0 (kq ≤ kj37) ∧ Aside0 (Kd.V (Kd.int .u32) 102 wc w.heap.size (fun k_ => ((P0_ k_ ∨ P2_ k_ ∨ P3_ k_) ∨ w.heap.size ≤ k_) ∧ some k_ ≠ (u13 : Value).ownBlock ∧ k_ ≠ g) (.slice Ao25 x0_2.length co25) x0_2) ∧ Aside0 (Kd.V (Kd.int .u32) 102 wc w.heap.size (fun k_ => ((P0_ k_ ∨ P2_ k_ ∨ P3_ k_) ∨ w.heap.size ≤ k_) ∧ some k_ ≠ (u13 : Value).ownBlock ∧ k_ ≠ g) (.slice Ao26 t183.length co26) t183) ∧ Aside0 (Kd.V (Kd.int .u32) 102 wc w.heap.size (fun k_ => ((P0_ k_ ∨ P2_ k_ ∨ P3_ k_) ∨ w.heap.size ≤ k_) ∧ some k_ ≠ (u13 : Value).ownBlock ∧ k_ ≠ g) (.slice Ao27 t186.length co27) t186) ∧ Aside0 (Kd.R (Kd.int .u8) 5 wc w.heap.size (fun k_ => (w.heap.size ≤ k_)) u13 x13_1) ∧ Aside0 (IsS3 w0 wc g x6q0_1) ∧ Aside0 (KeepBut w wc g none) ∧ Aside0 (Below w0.heap.size w0 wc))
         case first =>
          have H := HC46.out
          clear HC46
          by_cases c47 : x17_23 = true
          ·
           subst c47
           have H1 : (num_shortest.j4 kj37 x0_2 l1 t183 t186 a4 x13_1 x14_2 true x18_23 false x6q0_1) = some (r1, r2) := by rw [if_pos rfl] at H; exact H
           clear H
           have H := H1
           clear H1
           have H' := am H
           clear H
           go_wp2
           go_meet
           case rel => exact ⟨_, (false), eqd, H', ⟨by have := HK1.out; have := HK2.out; have := HJ23.out; have := HJ37.out; first | omega | exact Nat.le_refl _⟩, ⟨vk HO_0⟩, ⟨vk HO_2⟩, ⟨vk HO_3⟩, ⟨rk HO_13⟩, ⟨ik HI5⟩, ⟨kk HK⟩, ⟨li HB HI5⟩⟩
          replace c47 := Bool.eq_false_iff.mpr c47
          subst c47
          have H1 : (num_shortest.j4 kj37 x0_2 l1 t183 t186 a4 x13_1 x14_2 false x18_23 (!x18_23) x6q0_1) = some (r1, r2) := by rw [if_neg (show ¬ (false = true) by decide)] at H; exact H
          clear H
          have H := H1
          clear H1
          have H' := am H
          clear H
          go_wp2
          go_meet
          case rel => exact ⟨_, (!x18_23), eqd, H', ⟨by have := HK1.out; have := HK2.out; have := HJ23.out; have := HJ37.out; first | omega | exact Nat.le_refl _⟩, ⟨vk HO_0⟩, ⟨vk HO_2⟩, ⟨vk HO_3⟩, ⟨rk HO_13⟩, ⟨ik HI5⟩, ⟨kk HK⟩, ⟨li HB HI5⟩⟩
         case rest =>
          clear HC46
          obtain ⟨kq, x82_45, rfl, HA, HJ45, HO_0, HO_2, HO_3, HO_13, HI5, HK, HB⟩ := hcut
          cases kq with
          | zero => exact absurd HA.out (by simp [num_shortest.j4])
          | succ kj45 =>
           have H := HA.out
           clear HA
           simp only [num_shortest.j4] at H
           by_cases c48 : x82_45 = true
           ·
            subst c48
            have H1 : (if x13_1.length < 140737488355328 then (num_shortest.l0 kj45 x0_2 l1 t183 t186 a4 (x13_1 ++ [x14_2]) x6q0_1) else (none)) = some (r1, r2) := by rw [if_pos rfl] at H; exact H
            clear H
            have H := H1
            clear H1
            by_cases c49 : x13_1.length < 140737488355328
            ·
             rw [if_pos c49] at H
             have LMc49 := am c49
             clear c49
             obtain ⟨y198, hy198⟩ : ∃ y_ : List Int, y_ = (x13_1 ++ [x14_2]) := ⟨_, rfl⟩
             replace H : (num_shortest.l0 kj45 x0_2 l1 t183 t186 a4 y198 x6q0_1) = some (r1, r2) := by first | (rw [hy198]; exact H) | exact H
             have Ny198 := am hy198
             clear hy198
             have H' := am H
             clear H
             go_wp2_with (first | ((with_reducible refine gate_builtin (b := .append) (xs := #[.tmp 83, .tmp 85]) rfl ?_); at_builtin; refine Kd.R_append (Kd.int .u8) w.heap.size rfl (.tmp 83) (.tmp 85) 43 5 (.int .u8 0) 1 rfl Tryd.underlying43 info5 rfl (by decide) (by omega) u13 x13_1 x14_2 [.int .u8 x14_2] (fun k_ => (w.heap.size ≤ k_)) (fun _ => False) rfl rfl ?aP (fun _ hk => hk.elim) ?aF ?aO (Below.refl _ _) ?aS ?aL ?_; (case aP => exact rfl); (case aF => exact (fun k_ hk => (Nat.le_trans (keep_size (kk HK)) hk))); (case aO => exact (rk HO_13)); (case aS => exact (keep_size (kk HK))); (case aL => have := LMc49.out; omega); intro v199 w50 ho hb hg hat; rw [← Ny198.out] at ho; replace HO_0 := am (Kd.V_afterv (ok := (fun k_ => ((P0_ k_ ∨ P2_ k_ ∨ P3_ k_) ∨ w.heap.size ≤ k_) ∧ k_ ≠ g)) (by exact vy <| Kd.V_mono HO_0.out (fun _ hk => ⟨⟨hk.1, hk.2.2⟩, hk.2.1⟩)) hg hat); replace HO_2 := am (Kd.V_afterv (ok := (fun k_ => ((P0_ k_ ∨ P2_ k_ ∨ P3_ k_) ∨ w.heap.size ≤ k_) ∧ k_ ≠ g)) (by exact vy <| Kd.V_mono HO_2.out (fun _ hk => ⟨⟨hk.1, hk.2.2⟩, hk.2.1⟩)) hg hat); replace HO_3 := am (Kd.V_afterv (ok := (fun k_ => ((P0_ k_ ∨ P2_ k_ ∨ P3_ k_) ∨ w.heap.size ≤ k_) ∧ k_ ≠ g)) (by exact vy <| Kd.V_mono HO_3.out (fun _ hk => ⟨⟨hk.1, hk.2.2⟩, hk.2.1⟩)) hg hat); replace HB := am (below_weaken (li HB HI5) HL.out hb); replace HI5 := am (IsS3.grown (ik HI5) hg (IsS3.own_ne HI5.out HO_13.out (by decide))); replace HK := am (KeepBut.trans (kk HK) (KeepBut.of_grown hg g) (Kd.R_base2 HO_13.out)); have HO200 := am (ho); clear HO_13 ho hb hg hat))
             go_roundg kj45
             case measure => have := HK1.out; have := HK2.out; have := HJ23.out; have := HJ37.out; have := HJ45.out; omega
             case rel => exact ⟨(x0_2), (t183), (t186), (y198), (x6q0_1), H', ⟨by have := HK1.out; have := HK2.out; have := HJ23.out; have := HJ37.out; have := HJ45.out; omega⟩, ⟨by exact vy <| Kd.V_mono HO_0.out (fun _ hk => ⟨hk.1.1, ⟨hk.2, hk.1.2⟩⟩)⟩, ⟨by exact vy <| Kd.V_mono HO_2.out (fun _ hk => ⟨hk.1.1, ⟨hk.2, hk.1.2⟩⟩)⟩, ⟨by exact vy <| Kd.V_mono HO_3.out (fun _ hk => ⟨hk.1.1, ⟨hk.2, hk.1.2⟩⟩)⟩, ⟨rk HO200⟩, ⟨ik HI5⟩, ⟨kk HK⟩, ⟨li HB HI5⟩⟩
            rw [if_neg c49] at H
            exact absurd H (by simp)
           replace c48 := Bool.eq_false_iff.mpr c48
           subst c48
           have H1 : ((num_nat_up.f kj45 x0_2 1).bind fun t201 => ((num_nat_against.f kj45 t201 l1).bind fun t204 => (if x18_23 = true then (if x17_23 = true then (if t204 > 0 then (if x13_1.length < 140737488355328 then (some ((x13_1 ++ [(x14_2 + 1) % 256]), x6q0_1)) else (none)) else (if t204 = 0 then (if (Int.tmod x14_2 2) = 1 then (if x13_1.length < 140737488355328 then (some ((x13_1 ++ [(x14_2 + 1) % 256]), x6q0_1)) else (none)) else (if x13_1.length < 140737488355328 then (some ((x13_1 ++ [x14_2]), x6q0_1)) else (none))) else (if x13_1.length < 140737488355328 then (some ((x13_1 ++ [x14_2]), x6q0_1)) else (none)))) else (if x13_1.length < 140737488355328 then (some ((x13_1 ++ [(x14_2 + 1) % 256]), x6q0_1)) else (none))) else (if x13_1.length < 140737488355328 then (some ((x13_1 ++ [x14_2]), x6q0_1)) else (none))))) = some (r1, r2) := by rw [if_neg (show ¬ (false = true) by decide)] at H; exact H
           clear H
           have H := H1
           clear H1
           replace H := bm H
           obtain ⟨t201, A510, H⟩ := H
           replace H : ((num_nat_against.f kj45 t201 l1).bind fun t204 => (if x18_23 = true then (if x17_23 = true then (if t204 > 0 then (if x13_1.length < 140737488355328 then (some ((x13_1 ++ [(x14_2 + 1) % 256]), x6q0_1)) else (none)) else (if t204 = 0 then (if (Int.tmod x14_2 2) = 1 then (if x13_1.length < 140737488355328 then (some ((x13_1 ++ [(x14_2 + 1) % 256]), x6q0_1)) else (none)) else (if x13_1.length < 140737488355328 then (some ((x13_1 ++ [x14_2]), x6q0_1)) else (none))) else (if x13_1.length < 140737488355328 then (some ((x13_1 ++ [x14_2]), x6q0_1)) else (none)))) else (if x13_1.length < 140737488355328 then (some ((x13_1 ++ [(x14_2 + 1) % 256]), x6q0_1)) else (none))) else (if x13_1.length < 140737488355328 then (some ((x13_1 ++ [x14_2]), x6q0_1)) else (none)))) = some (r1, r2) := H
           have A51 := am A510
           clear A510
           replace H := bm H
           obtain ⟨t204, A520, H⟩ := H
           replace H : (if x18_23 = true then (if x17_23 = true then (if t204 > 0 then (if x13_1.length < 140737488355328 then (some ((x13_1 ++ [(x14_2 + 1) % 256]), x6q0_1)) else (none)) else (if t204 = 0 then (if (Int.tmod x14_2 2) = 1 then (if x13_1.length < 140737488355328 then (some ((x13_1 ++ [(x14_2 + 1) % 256]), x6q0_1)) else (none)) else (if x13_1.length < 140737488355328 then (some ((x13_1 ++ [x14_2]), x6q0_1)) else (none))) else (if x13_1.length < 140737488355328 then (some ((x13_1 ++ [x14_2]), x6q0_1)) else (none)))) else (if x13_1.length < 140737488355328 then (some ((x13_1 ++ [(x14_2 + 1) % 256]), x6q0_1)) else (none))) else (if x13_1.length < 140737488355328 then (some ((x13_1 ++ [x14_2]), x6q0_1)) else (none))) = some (r1, r2) := H
           have A52 := am A520
           clear A520
           by_cases c53 : x18_23 = true
           ·
            subst c53
            have H1 : (if x17_23 = true then (if t204 > 0 then (if x13_1.length < 140737488355328 then (some ((x13_1 ++ [(x14_2 + 1) % 256]), x6q0_1)) else (none)) else (if t204 = 0 then (if (Int.tmod x14_2 2) = 1 then (if x13_1.length < 140737488355328 then (some ((x13_1 ++ [(x14_2 + 1) % 256]), x6q0_1)) else (none)) else (if x13_1.length < 140737488355328 then (some ((x13_1 ++ [x14_2]), x6q0_1)) else (none))) else (if x13_1.length < 140737488355328 then (some ((x13_1 ++ [x14_2]), x6q0_1)) else (none)))) else (if x13_1.length < 140737488355328 then (some ((x13_1 ++ [(x14_2 + 1) % 256]), x6q0_1)) else (none))) = some (r1, r2) := by rw [if_pos rfl] at H; exact H
            clear H
            have H := H1
            clear H1
            by_cases c54 : x17_23 = true
            ·
             subst c54
             have H1 : (if t204 > 0 then (if x13_1.length < 140737488355328 then (some ((x13_1 ++ [(x14_2 + 1) % 256]), x6q0_1)) else (none)) else (if t204 = 0 then (if (Int.tmod x14_2 2) = 1 then (if x13_1.length < 140737488355328 then (some ((x13_1 ++ [(x14_2 + 1) % 256]), x6q0_1)) else (none)) else (if x13_1.length < 140737488355328 then (some ((x13_1 ++ [x14_2]), x6q0_1)) else (none))) else (if x13_1.length < 140737488355328 then (some ((x13_1 ++ [x14_2]), x6q0_1)) else (none)))) = some (r1, r2) := by rw [if_pos rfl] at H; exact H
             clear H
             have H := H1
             clear H1
             by_cases c55 : t204 > 0
             ·
              rw [if_pos c55] at H
              have c55b0 : decide (0 < t204) = true := dt c55
              clear c55
              by_cases c56 : x13_1.length < 140737488355328
              ·
               rw [if_pos c56] at H
               have LMc56 := am c56
               clear c56
               obtain ⟨y205, hy205⟩ : ∃ y_ : List Int, y_ = (x13_1 ++ [(x14_2 + 1) % 256]) := ⟨_, rfl⟩
               replace H : (some (y205, x6q0_1)) = some (r1, r2) := by first | (rw [hy205]; exact H) | exact H
               have Ny205 := am hy205
               clear hy205
               simp only [Option.some.injEq, Prod.mk.injEq] at H
               obtain ⟨rfl, rfl⟩ := H
               go_wp2_with (first | (refine gL (some 88) Tryd.func46 #[.slice Ao25 x0_2.length co25, .int .i64 1] ?_; (with_reducible refine (num_nat_up.calls kj45 _ _ x0_2 1 t201 _ ?side1 ?side2 A51.out).mono ?_); (case side1 => exact ck (Kd.V_reads' HO_0.out).2.2); (case side2 => exact (Kd.V_reads' HO_0.out).2.1); rintro e w57 ⟨v202, rfl, ho0, hb⟩; refine ⟨_, rfl, ?_⟩; replace HO_0 := vb HO_0 hb; replace HO_2 := vb HO_2 hb; replace HO_3 := vb HO_3 hb; have HO203 := am (Kd.V_lower (Kd.V_mono (ok' := fun k_ => ((P0_ k_ ∨ P2_ k_ ∨ P3_ k_) ∨ w.heap.size ≤ k_) ∧ some k_ ≠ (u13 : Value).ownBlock ∧ k_ ≠ g) ho0 (fun k_ hk_ => ⟨(.inr (Nat.le_trans (keep_size (kk HK)) hk_)), (Kd.fresh' (Kd.R_lt (rk HO_13)) k_ hk_), (IsS3.fresh (ik HI5) k_ hk_)⟩)) (keep_size (kk HK))); replace HO_13 := am (Kd.R_below (rk HO_13) hb); replace HK := am (KeepBut.trans (kk HK) (KeepBut.of_below hb g none) (.inl rfl)); replace HB := am (below_step (li HB HI5) hb); replace HI5 := am (IsS3.below (ik HI5) hb); obtain ⟨Ao58, co58, eo58⟩ := Kd.V_slice HO203.out; subst eo58) | (refine gL (some 90) Tryd.func49 #[.slice Ao58 t201.length co58, .slice A1 l1.length c1] ?_; (with_reducible refine (num_nat_against.calls kj45 _ _ t201 _ _ l1 t204 _ ?side1 ?side2 ?side3 ?side4 A52.out).mono ?_); (case side1 => exact ck (Kd.V_reads' HO203.out).2.2); (case side2 => exact (Kd.V_reads' HO203.out).2.1); (case side3 => exact Kd.C_keep 0 HR1.out (kk HK) hf1); (case side4 => exact HC1.out); rintro e w' ⟨rfl, ⟨nd, rfl⟩⟩; refine ⟨_, rfl, ?_⟩) | ((with_reducible refine gate_builtin (b := .append) (xs := #[.tmp 111, .tmp 113]) rfl ?_); at_builtin; refine Kd.R_append (Kd.int .u8) w.heap.size rfl (.tmp 111) (.tmp 113) 43 5 (.int .u8 0) 1 rfl Tryd.underlying43 info5 rfl (by decide) (by omega) u13 x13_1 ((x14_2 + 1) % 256) [.int .u8 ((x14_2 + 1) % 256)] (fun k_ => (w.heap.size ≤ k_)) (fun _ => False) rfl rfl ?aP (fun _ hk => hk.elim) ?aF ?aO (Below.refl _ _) ?aS ?aL ?_; (case aP => exact rfl); (case aF => exact (fun k_ hk => (Nat.le_trans (keep_size (kk HK)) hk))); (case aO => exact (rk HO_13)); (case aS => exact (keep_size (kk HK))); (case aL => have := LMc56.out; omega); intro v206 w59 ho hb hg hat; rw [← Ny205.out] at ho; replace HO_0 := am (Kd.V_afterv (ok := (fun k_ => ((P0_ k_ ∨ P2_ k_ ∨ P3_ k_) ∨ w.heap.size ≤ k_) ∧ k_ ≠ g)) (by exact vy <| Kd.V_mono HO_0.out (fun _ hk => ⟨⟨hk.1, hk.2.2⟩, hk.2.1⟩)) hg hat); replace HO_2 := am (Kd.V_afterv (ok := (fun k_ => ((P0_ k_ ∨ P2_ k_ ∨ P3_ k_) ∨ w.heap.size ≤ k_) ∧ k_ ≠ g)) (by exact vy <| Kd.V_mono HO_2.out (fun _ hk => ⟨⟨hk.1, hk.2.2⟩, hk.2.1⟩)) hg hat); replace HO_3 := am (Kd.V_afterv (ok := (fun k_ => ((P0_ k_ ∨ P2_ k_ ∨ P3_ k_) ∨ w.heap.size ≤ k_) ∧ k_ ≠ g)) (by exact vy <| Kd.V_mono HO_3.out (fun _ hk => ⟨⟨hk.1, hk.2.2⟩, hk.2.1⟩)) hg hat); replace HO203 := am (Kd.V_afterv (ok := (fun k_ => ((P0_ k_ ∨ P2_ k_ ∨ P3_ k_) ∨ w.heap.size ≤ k_) ∧ k_ ≠ g)) (by exact vy <| Kd.V_mono HO203.out (fun _ hk => ⟨⟨hk.1, hk.2.2⟩, hk.2.1⟩)) hg hat); replace HB := am (below_weaken (li HB HI5) HL.out hb); replace HI5 := am (IsS3.grown (ik HI5) hg (IsS3.own_ne HI5.out HO_13.out (by decide))); replace HK := am (KeepBut.trans (kk HK) (KeepBut.of_grown hg g) (Kd.R_base2 HO_13.out)); have HO207 := am (ho); clear HO_13 ho hb hg hat))
               go_ret
               exact ⟨_, by first | rfl | (simp [errW_none, errW_some] <;> rfl) | (simp [*, errW_none, errW_some] <;> rfl), rk HO207, by repeat (first | (with_reducible first | exact HI5.out | apply IsS3.alloc | apply IsS3.drewN | apply IsS3.drew | apply IsS3.set_0) | exact HI5.out), by repeat (first | (with_reducible first | exact HB.out | apply below_alloc | apply pw_below_drewN | apply below_drew1 | refine below_set ?_ (IsS3.ge HI5.out)) | exact HB.out), by repeat (first | (with_reducible first | exact HK.out | apply KeepBut.set_ | apply keep_drewN | apply keep_drew | apply keep_alloc) | exact HK.out)⟩
              rw [if_neg c56] at H
              exact absurd H (by simp)
             rw [if_neg c55] at H
             have c55b0 : decide (0 < t204) = false := decide_eq_false c55
             clear c55
             by_cases c60 : t204 = 0
             ·
              rw [if_pos c60] at H
              have c60b0 : (t204 == 0) = true := beq_iff_eq.mpr c60
              have c60b1 : (t204 != 0) = false := bne_eq_false_iff_eq.mpr c60
              clear c60
              by_cases c61 : (Int.tmod x14_2 2) = 1
              ·
               rw [if_pos c61] at H
               have c61b0 : ((Int.tmod x14_2 2) == 1) = true := beq_iff_eq.mpr c61
               have c61b1 : ((Int.tmod x14_2 2) != 1) = false := bne_eq_false_iff_eq.mpr c61
               clear c61
               by_cases c62 : x13_1.length < 140737488355328
               ·
                rw [if_pos c62] at H
                have LMc62 := am c62
                clear c62
                obtain ⟨y208, hy208⟩ : ∃ y_ : List Int, y_ = (x13_1 ++ [(x14_2 + 1) % 256]) := ⟨_, rfl⟩
                replace H : (some (y208, x6q0_1)) = some (r1, r2) := by first | (rw [hy208]; exact H) | exact H
                have Ny208 := am hy208
                clear hy208
                simp only [Option.some.injEq, Prod.mk.injEq] at H
                obtain ⟨rfl, rfl⟩ := H
                go_wp2_with (first | (refine gL (some 88) Tryd.func46 #[.slice Ao25 x0_2.length co25, .int .i64 1] ?_; (with_reducible refine (num_nat_up.calls kj45 _ _ x0_2 1 t201 _ ?side1 ?side2 A51.out).mono ?_); (case side1 => exact ck (Kd.V_reads' HO_0.out).2.2); (case side2 => exact (Kd.V_reads' HO_0.out).2.1); rintro e w63 ⟨v202, rfl, ho0, hb⟩; refine ⟨_, rfl, ?_⟩; replace HO_0 := vb HO_0 hb; replace HO_2 := vb HO_2 hb; replace HO_3 := vb HO_3 hb; have HO203 := am (Kd.V_lower (Kd.V_mono (ok' := fun k_ => ((P0_ k_ ∨ P2_ k_ ∨ P3_ k_) ∨ w.heap.size ≤ k_) ∧ some k_ ≠ (u13 : Value).ownBlock ∧ k_ ≠ g) ho0 (fun k_ hk_ => ⟨(.inr (Nat.le_trans (keep_size (kk HK)) hk_)), (Kd.fresh' (Kd.R_lt (rk HO_13)) k_ hk_), (IsS3.fresh (ik HI5) k_ hk_)⟩)) (keep_size (kk HK))); replace HO_13 := am (Kd.R_below (rk HO_13) hb); replace HK := am (KeepBut.trans (kk HK) (KeepBut.of_below hb g none) (.inl rfl)); replace HB := am (below_step (li HB HI5) hb); replace HI5 := am (IsS3.below (ik HI5) hb); obtain ⟨Ao64, co64, eo64⟩ := Kd.V_slice HO203.out; subst eo64) | (refine gL (some 90) Tryd.func49 #[.slice Ao64 t201.length co64, .slice A1 l1.length c1] ?_; (with_reducible refine (num_nat_against.calls kj45 _ _ t201 _ _ l1 t204 _ ?side1 ?side2 ?side3 ?side4 A52.out).mono ?_); (case side1 => exact ck (Kd.V_reads' HO203.out).2.2); (case side2 => exact (Kd.V_reads' HO203.out).2.1); (case side3 => exact Kd.C_keep 0 HR1.out (kk HK) hf1); (case side4 => exact HC1.out); rintro e w' ⟨rfl, ⟨nd, rfl⟩⟩; refine ⟨_, rfl, ?_⟩) | ((with_reducible refine gate_builtin (b := .append) (xs := #[.tmp 111, .tmp 113]) rfl ?_); at_builtin; refine Kd.R_append (Kd.int .u8) w.heap.size rfl (.tmp 111) (.tmp 113) 43 5 (.int .u8 0) 1 rfl Tryd.underlying43 info5 rfl (by decide) (by omega) u13 x13_1 ((x14_2 + 1) % 256) [.int .u8 ((x14_2 + 1) % 256)] (fun k_ => (w.heap.size ≤ k_)) (fun _ => False) rfl rfl ?aP (fun _ hk => hk.elim) ?aF ?aO (Below.refl _ _) ?aS ?aL ?_; (case aP => exact rfl); (case aF => exact (fun k_ hk => (Nat.le_trans (keep_size (kk HK)) hk))); (case aO => exact (rk HO_13)); (case aS => exact (keep_size (kk HK))); (case aL => have := LMc62.out; omega); intro v209 w65 ho hb hg hat; rw [← Ny208.out] at ho; replace HO_0 := am (Kd.V_afterv (ok := (fun k_ => ((P0_ k_ ∨ P2_ k_ ∨ P3_ k_) ∨ w.heap.size ≤ k_) ∧ k_ ≠ g)) (by exact vy <| Kd.V_mono HO_0.out (fun _ hk => ⟨⟨hk.1, hk.2.2⟩, hk.2.1⟩)) hg hat); replace HO_2 := am (Kd.V_afterv (ok := (fun k_ => ((P0_ k_ ∨ P2_ k_ ∨ P3_ k_) ∨ w.heap.size ≤ k_) ∧ k_ ≠ g)) (by exact vy <| Kd.V_mono HO_2.out (fun _ hk => ⟨⟨hk.1, hk.2.2⟩, hk.2.1⟩)) hg hat); replace HO_3 := am (Kd.V_afterv (ok := (fun k_ => ((P0_ k_ ∨ P2_ k_ ∨ P3_ k_) ∨ w.heap.size ≤ k_) ∧ k_ ≠ g)) (by exact vy <| Kd.V_mono HO_3.out (fun _ hk => ⟨⟨hk.1, hk.2.2⟩, hk.2.1⟩)) hg hat); replace HO203 := am (Kd.V_afterv (ok := (fun k_ => ((P0_ k_ ∨ P2_ k_ ∨ P3_ k_) ∨ w.heap.size ≤ k_) ∧ k_ ≠ g)) (by exact vy <| Kd.V_mono HO203.out (fun _ hk => ⟨⟨hk.1, hk.2.2⟩, hk.2.1⟩)) hg hat); replace HB := am (below_weaken (li HB HI5) HL.out hb); replace HI5 := am (IsS3.grown (ik HI5) hg (IsS3.own_ne HI5.out HO_13.out (by decide))); replace HK := am (KeepBut.trans (kk HK) (KeepBut.of_grown hg g) (Kd.R_base2 HO_13.out)); have HO210 := am (ho); clear HO_13 ho hb hg hat))
                go_ret
                exact ⟨_, by first | rfl | (simp [errW_none, errW_some] <;> rfl) | (simp [*, errW_none, errW_some] <;> rfl), rk HO210, by repeat (first | (with_reducible first | exact HI5.out | apply IsS3.alloc | apply IsS3.drewN | apply IsS3.drew | apply IsS3.set_0) | exact HI5.out), by repeat (first | (with_reducible first | exact HB.out | apply below_alloc | apply pw_below_drewN | apply below_drew1 | refine below_set ?_ (IsS3.ge HI5.out)) | exact HB.out), by repeat (first | (with_reducible first | exact HK.out | apply KeepBut.set_ | apply keep_drewN | apply keep_drew | apply keep_alloc) | exact HK.out)⟩
               rw [if_neg c62] at H
               exact absurd H (by simp)
              rw [if_neg c61] at H
              have c61b0 : ((Int.tmod x14_2 2) == 1) = false := beq_eq_false_iff_ne.mpr c61
              have c61b1 : ((Int.tmod x14_2 2) != 1) = true := bne_iff_ne.mpr c61
              by_cases c66 : x13_1.length < 140737488355328
              ·
               rw [if_pos c66] at H
               have LMc66 := am c66
               clear c66
               obtain ⟨y211, hy211⟩ : ∃ y_ : List Int, y_ = (x13_1 ++ [x14_2]) := ⟨_, rfl⟩
               replace H : (some (y211, x6q0_1)) = some (r1, r2) := by first | (rw [hy211]; exact H) | exact H
               have Ny211 := am hy211
               clear hy211
               simp only [Option.some.injEq, Prod.mk.injEq] at H
               obtain ⟨rfl, rfl⟩ := H
               go_wp2_with (first | (refine gL (some 88) Tryd.func46 #[.slice Ao25 x0_2.length co25, .int .i64 1] ?_; (with_reducible refine (num_nat_up.calls kj45 _ _ x0_2 1 t201 _ ?side1 ?side2 A51.out).mono ?_); (case side1 => exact ck (Kd.V_reads' HO_0.out).2.2); (case side2 => exact (Kd.V_reads' HO_0.out).2.1); rintro e w67 ⟨v202, rfl, ho0, hb⟩; refine ⟨_, rfl, ?_⟩; replace HO_0 := vb HO_0 hb; replace HO_2 := vb HO_2 hb; replace HO_3 := vb HO_3 hb; have HO203 := am (Kd.V_lower (Kd.V_mono (ok' := fun k_ => ((P0_ k_ ∨ P2_ k_ ∨ P3_ k_) ∨ w.heap.size ≤ k_) ∧ some k_ ≠ (u13 : Value).ownBlock ∧ k_ ≠ g) ho0 (fun k_ hk_ => ⟨(.inr (Nat.le_trans (keep_size (kk HK)) hk_)), (Kd.fresh' (Kd.R_lt (rk HO_13)) k_ hk_), (IsS3.fresh (ik HI5) k_ hk_)⟩)) (keep_size (kk HK))); replace HO_13 := am (Kd.R_below (rk HO_13) hb); replace HK := am (KeepBut.trans (kk HK) (KeepBut.of_below hb g none) (.inl rfl)); replace HB := am (below_step (li HB HI5) hb); replace HI5 := am (IsS3.below (ik HI5) hb); obtain ⟨Ao68, co68, eo68⟩ := Kd.V_slice HO203.out; subst eo68) | (refine gL (some 90) Tryd.func49 #[.slice Ao68 t201.length co68, .slice A1 l1.length c1] ?_; (with_reducible refine (num_nat_against.calls kj45 _ _ t201 _ _ l1 t204 _ ?side1 ?side2 ?side3 ?side4 A52.out).mono ?_); (case side1 => exact ck (Kd.V_reads' HO203.out).2.2); (case side2 => exact (Kd.V_reads' HO203.out).2.1); (case side3 => exact Kd.C_keep 0 HR1.out (kk HK) hf1); (case side4 => exact HC1.out); rintro e w' ⟨rfl, ⟨nd, rfl⟩⟩; refine ⟨_, rfl, ?_⟩) | ((with_reducible refine gate_builtin (b := .append) (xs := #[.tmp 111, .tmp 113]) rfl ?_); at_builtin; refine Kd.R_append (Kd.int .u8) w.heap.size rfl (.tmp 111) (.tmp 113) 43 5 (.int .u8 0) 1 rfl Tryd.underlying43 info5 rfl (by decide) (by omega) u13 x13_1 x14_2 [.int .u8 x14_2] (fun k_ => (w.heap.size ≤ k_)) (fun _ => False) rfl rfl ?aP (fun _ hk => hk.elim) ?aF ?aO (Below.refl _ _) ?aS ?aL ?_; (case aP => exact rfl); (case aF => exact (fun k_ hk => (Nat.le_trans (keep_size (kk HK)) hk))); (case aO => exact (rk HO_13)); (case aS => exact (keep_size (kk HK))); (case aL => have := LMc66.out; omega); intro v212 w69 ho hb hg hat; rw [← Ny211.out] at ho; replace HO_0 := am (Kd.V_afterv (ok := (fun k_ => ((P0_ k_ ∨ P2_ k_ ∨ P3_ k_) ∨ w.heap.size ≤ k_) ∧ k_ ≠ g)) (by exact vy <| Kd.V_mono HO_0.out (fun _ hk => ⟨⟨hk.1, hk.2.2⟩, hk.2.1⟩)) hg hat); replace HO_2 := am (Kd.V_afterv (ok := (fun k_ => ((P0_ k_ ∨ P2_ k_ ∨ P3_ k_) ∨ w.heap.size ≤ k_) ∧ k_ ≠ g)) (by exact vy <| Kd.V_mono HO_2.out (fun _ hk => ⟨⟨hk.1, hk.2.2⟩, hk.2.1⟩)) hg hat); replace HO_3 := am (Kd.V_afterv (ok := (fun k_ => ((P0_ k_ ∨ P2_ k_ ∨ P3_ k_) ∨ w.heap.size ≤ k_) ∧ k_ ≠ g)) (by exact vy <| Kd.V_mono HO_3.out (fun _ hk => ⟨⟨hk.1, hk.2.2⟩, hk.2.1⟩)) hg hat); replace HO203 := am (Kd.V_afterv (ok := (fun k_ => ((P0_ k_ ∨ P2_ k_ ∨ P3_ k_) ∨ w.heap.size ≤ k_) ∧ k_ ≠ g)) (by exact vy <| Kd.V_mono HO203.out (fun _ hk => ⟨⟨hk.1, hk.2.2⟩, hk.2.1⟩)) hg hat); replace HB := am (below_weaken (li HB HI5) HL.out hb); replace HI5 := am (IsS3.grown (ik HI5) hg (IsS3.own_ne HI5.out HO_13.out (by decide))); replace HK := am (KeepBut.trans (kk HK) (KeepBut.of_grown hg g) (Kd.R_base2 HO_13.out)); have HO213 := am (ho); clear HO_13 ho hb hg hat))
               go_ret
               exact ⟨_, by first | rfl | (simp [errW_none, errW_some] <;> rfl) | (simp [*, errW_none, errW_some] <;> rfl), rk HO213, by repeat (first | (with_reducible first | exact HI5.out | apply IsS3.alloc | apply IsS3.drewN | apply IsS3.drew | apply IsS3.set_0) | exact HI5.out), by repeat (first | (with_reducible first | exact HB.out | apply below_alloc | apply pw_below_drewN | apply below_drew1 | refine below_set ?_ (IsS3.ge HI5.out)) | exact HB.out), by repeat (first | (with_reducible first | exact HK.out | apply KeepBut.set_ | apply keep_drewN | apply keep_drew | apply keep_alloc) | exact HK.out)⟩
              rw [if_neg c66] at H
              exact absurd H (by simp)
             rw [if_neg c60] at H
             have c60b0 : (t204 == 0) = false := beq_eq_false_iff_ne.mpr c60
             have c60b1 : (t204 != 0) = true := bne_iff_ne.mpr c60
             by_cases c70 : x13_1.length < 140737488355328
             ·
              rw [if_pos c70] at H
              have LMc70 := am c70
              clear c70
              obtain ⟨y214, hy214⟩ : ∃ y_ : List Int, y_ = (x13_1 ++ [x14_2]) := ⟨_, rfl⟩
              replace H : (some (y214, x6q0_1)) = some (r1, r2) := by first | (rw [hy214]; exact H) | exact H
              have Ny214 := am hy214
              clear hy214
              simp only [Option.some.injEq, Prod.mk.injEq] at H
              obtain ⟨rfl, rfl⟩ := H
              go_wp2_with (first | (refine gL (some 88) Tryd.func46 #[.slice Ao25 x0_2.length co25, .int .i64 1] ?_; (with_reducible refine (num_nat_up.calls kj45 _ _ x0_2 1 t201 _ ?side1 ?side2 A51.out).mono ?_); (case side1 => exact ck (Kd.V_reads' HO_0.out).2.2); (case side2 => exact (Kd.V_reads' HO_0.out).2.1); rintro e w71 ⟨v202, rfl, ho0, hb⟩; refine ⟨_, rfl, ?_⟩; replace HO_0 := vb HO_0 hb; replace HO_2 := vb HO_2 hb; replace HO_3 := vb HO_3 hb; have HO203 := am (Kd.V_lower (Kd.V_mono (ok' := fun k_ => ((P0_ k_ ∨ P2_ k_ ∨ P3_ k_) ∨ w.heap.size ≤ k_) ∧ some k_ ≠ (u13 : Value).ownBlock ∧ k_ ≠ g) ho0 (fun k_ hk_ => ⟨(.inr (Nat.le_trans (keep_size (kk HK)) hk_)), (Kd.fresh' (Kd.R_lt (rk HO_13)) k_ hk_), (IsS3.fresh (ik HI5) k_ hk_)⟩)) (keep_size (kk HK))); replace HO_13 := am (Kd.R_below (rk HO_13) hb); replace HK := am (KeepBut.trans (kk HK) (KeepBut.of_below hb g none) (.inl rfl)); replace HB := am (below_step (li HB HI5) hb); replace HI5 := am (IsS3.below (ik HI5) hb); obtain ⟨Ao72, co72, eo72⟩ := Kd.V_slice HO203.out; subst eo72) | (refine gL (some 90) Tryd.func49 #[.slice Ao72 t201.length co72, .slice A1 l1.length c1] ?_; (with_reducible refine (num_nat_against.calls kj45 _ _ t201 _ _ l1 t204 _ ?side1 ?side2 ?side3 ?side4 A52.out).mono ?_); (case side1 => exact ck (Kd.V_reads' HO203.out).2.2); (case side2 => exact (Kd.V_reads' HO203.out).2.1); (case side3 => exact Kd.C_keep 0 HR1.out (kk HK) hf1); (case side4 => exact HC1.out); rintro e w' ⟨rfl, ⟨nd, rfl⟩⟩; refine ⟨_, rfl, ?_⟩) | ((with_reducible refine gate_builtin (b := .append) (xs := #[.tmp 111, .tmp 113]) rfl ?_); at_builtin; refine Kd.R_append (Kd.int .u8) w.heap.size rfl (.tmp 111) (.tmp 113) 43 5 (.int .u8 0) 1 rfl Tryd.underlying43 info5 rfl (by decide) (by omega) u13 x13_1 x14_2 [.int .u8 x14_2] (fun k_ => (w.heap.size ≤ k_)) (fun _ => False) rfl rfl ?aP (fun _ hk => hk.elim) ?aF ?aO (Below.refl _ _) ?aS ?aL ?_; (case aP => exact rfl); (case aF => exact (fun k_ hk => (Nat.le_trans (keep_size (kk HK)) hk))); (case aO => exact (rk HO_13)); (case aS => exact (keep_size (kk HK))); (case aL => have := LMc70.out; omega); intro v215 w73 ho hb hg hat; rw [← Ny214.out] at ho; replace HO_0 := am (Kd.V_afterv (ok := (fun k_ => ((P0_ k_ ∨ P2_ k_ ∨ P3_ k_) ∨ w.heap.size ≤ k_) ∧ k_ ≠ g)) (by exact vy <| Kd.V_mono HO_0.out (fun _ hk => ⟨⟨hk.1, hk.2.2⟩, hk.2.1⟩)) hg hat); replace HO_2 := am (Kd.V_afterv (ok := (fun k_ => ((P0_ k_ ∨ P2_ k_ ∨ P3_ k_) ∨ w.heap.size ≤ k_) ∧ k_ ≠ g)) (by exact vy <| Kd.V_mono HO_2.out (fun _ hk => ⟨⟨hk.1, hk.2.2⟩, hk.2.1⟩)) hg hat); replace HO_3 := am (Kd.V_afterv (ok := (fun k_ => ((P0_ k_ ∨ P2_ k_ ∨ P3_ k_) ∨ w.heap.size ≤ k_) ∧ k_ ≠ g)) (by exact vy <| Kd.V_mono HO_3.out (fun _ hk => ⟨⟨hk.1, hk.2.2⟩, hk.2.1⟩)) hg hat); replace HO203 := am (Kd.V_afterv (ok := (fun k_ => ((P0_ k_ ∨ P2_ k_ ∨ P3_ k_) ∨ w.heap.size ≤ k_) ∧ k_ ≠ g)) (by exact vy <| Kd.V_mono HO203.out (fun _ hk => ⟨⟨hk.1, hk.2.2⟩, hk.2.1⟩)) hg hat); replace HB := am (below_weaken (li HB HI5) HL.out hb); replace HI5 := am (IsS3.grown (ik HI5) hg (IsS3.own_ne HI5.out HO_13.out (by decide))); replace HK := am (KeepBut.trans (kk HK) (KeepBut.of_grown hg g) (Kd.R_base2 HO_13.out)); have HO216 := am (ho); clear HO_13 ho hb hg hat))
              go_ret
              exact ⟨_, by first | rfl | (simp [errW_none, errW_some] <;> rfl) | (simp [*, errW_none, errW_some] <;> rfl), rk HO216, by repeat (first | (with_reducible first | exact HI5.out | apply IsS3.alloc | apply IsS3.drewN | apply IsS3.drew | apply IsS3.set_0) | exact HI5.out), by repeat (first | (with_reducible first | exact HB.out | apply below_alloc | apply pw_below_drewN | apply below_drew1 | refine below_set ?_ (IsS3.ge HI5.out)) | exact HB.out), by repeat (first | (with_reducible first | exact HK.out | apply KeepBut.set_ | apply keep_drewN | apply keep_drew | apply keep_alloc) | exact HK.out)⟩
             rw [if_neg c70] at H
             exact absurd H (by simp)
            replace c54 := Bool.eq_false_iff.mpr c54
            subst c54
            have H1 : (if x13_1.length < 140737488355328 then (some ((x13_1 ++ [(x14_2 + 1) % 256]), x6q0_1)) else (none)) = some (r1, r2) := by rw [if_neg (show ¬ (false = true) by decide)] at H; exact H
            clear H
            have H := H1
            clear H1
            by_cases c74 : x13_1.length < 140737488355328
            ·
             rw [if_pos c74] at H
             have LMc74 := am c74
             clear c74
             obtain ⟨y217, hy217⟩ : ∃ y_ : List Int, y_ = (x13_1 ++ [(x14_2 + 1) % 256]) := ⟨_, rfl⟩
             replace H : (some (y217, x6q0_1)) = some (r1, r2) := by first | (rw [hy217]; exact H) | exact H
             have Ny217 := am hy217
             clear hy217
             simp only [Option.some.injEq, Prod.mk.injEq] at H
             obtain ⟨rfl, rfl⟩ := H
             go_wp2_with (first | (refine gL (some 88) Tryd.func46 #[.slice Ao25 x0_2.length co25, .int .i64 1] ?_; (with_reducible refine (num_nat_up.calls kj45 _ _ x0_2 1 t201 _ ?side1 ?side2 A51.out).mono ?_); (case side1 => exact ck (Kd.V_reads' HO_0.out).2.2); (case side2 => exact (Kd.V_reads' HO_0.out).2.1); rintro e w75 ⟨v202, rfl, ho0, hb⟩; refine ⟨_, rfl, ?_⟩; replace HO_0 := vb HO_0 hb; replace HO_2 := vb HO_2 hb; replace HO_3 := vb HO_3 hb; have HO203 := am (Kd.V_lower (Kd.V_mono (ok' := fun k_ => ((P0_ k_ ∨ P2_ k_ ∨ P3_ k_) ∨ w.heap.size ≤ k_) ∧ some k_ ≠ (u13 : Value).ownBlock ∧ k_ ≠ g) ho0 (fun k_ hk_ => ⟨(.inr (Nat.le_trans (keep_size (kk HK)) hk_)), (Kd.fresh' (Kd.R_lt (rk HO_13)) k_ hk_), (IsS3.fresh (ik HI5) k_ hk_)⟩)) (keep_size (kk HK))); replace HO_13 := am (Kd.R_below (rk HO_13) hb); replace HK := am (KeepBut.trans (kk HK) (KeepBut.of_below hb g none) (.inl rfl)); replace HB := am (below_step (li HB HI5) hb); replace HI5 := am (IsS3.below (ik HI5) hb); obtain ⟨Ao76, co76, eo76⟩ := Kd.V_slice HO203.out; subst eo76) | (refine gL (some 90) Tryd.func49 #[.slice Ao76 t201.length co76, .slice A1 l1.length c1] ?_; (with_reducible refine (num_nat_against.calls kj45 _ _ t201 _ _ l1 t204 _ ?side1 ?side2 ?side3 ?side4 A52.out).mono ?_); (case side1 => exact ck (Kd.V_reads' HO203.out).2.2); (case side2 => exact (Kd.V_reads' HO203.out).2.1); (case side3 => exact Kd.C_keep 0 HR1.out (kk HK) hf1); (case side4 => exact HC1.out); rintro e w' ⟨rfl, ⟨nd, rfl⟩⟩; refine ⟨_, rfl, ?_⟩) | ((with_reducible refine gate_builtin (b := .append) (xs := #[.tmp 111, .tmp 113]) rfl ?_); at_builtin; refine Kd.R_append (Kd.int .u8) w.heap.size rfl (.tmp 111) (.tmp 113) 43 5 (.int .u8 0) 1 rfl Tryd.underlying43 info5 rfl (by decide) (by omega) u13 x13_1 ((x14_2 + 1) % 256) [.int .u8 ((x14_2 + 1) % 256)] (fun k_ => (w.heap.size ≤ k_)) (fun _ => False) rfl rfl ?aP (fun _ hk => hk.elim) ?aF ?aO (Below.refl _ _) ?aS ?aL ?_; (case aP => exact rfl); (case aF => exact (fun k_ hk => (Nat.le_trans (keep_size (kk HK)) hk))); (case aO => exact (rk HO_13)); (case aS => exact (keep_size (kk HK))); (case aL => have := LMc74.out; omega); intro v218 w77 ho hb hg hat; rw [← Ny217.out] at ho; replace HO_0 := am (Kd.V_afterv (ok := (fun k_ => ((P0_ k_ ∨ P2_ k_ ∨ P3_ k_) ∨ w.heap.size ≤ k_) ∧ k_ ≠ g)) (by exact vy <| Kd.V_mono HO_0.out (fun _ hk => ⟨⟨hk.1, hk.2.2⟩, hk.2.1⟩)) hg hat); replace HO_2 := am (Kd.V_afterv (ok := (fun k_ => ((P0_ k_ ∨ P2_ k_ ∨ P3_ k_) ∨ w.heap.size ≤ k_) ∧ k_ ≠ g)) (by exact vy <| Kd.V_mono HO_2.out (fun _ hk => ⟨⟨hk.1, hk.2.2⟩, hk.2.1⟩)) hg hat); replace HO_3 := am (Kd.V_afterv (ok := (fun k_ => ((P0_ k_ ∨ P2_ k_ ∨ P3_ k_) ∨ w.heap.size ≤ k_) ∧ k_ ≠ g)) (by exact vy <| Kd.V_mono HO_3.out (fun _ hk => ⟨⟨hk.1, hk.2.2⟩, hk.2.1⟩)) hg hat); replace HO203 := am (Kd.V_afterv (ok := (fun k_ => ((P0_ k_ ∨ P2_ k_ ∨ P3_ k_) ∨ w.heap.size ≤ k_) ∧ k_ ≠ g)) (by exact vy <| Kd.V_mono HO203.out (fun _ hk => ⟨⟨hk.1, hk.2.2⟩, hk.2.1⟩)) hg hat); replace HB := am (below_weaken (li HB HI5) HL.out hb); replace HI5 := am (IsS3.grown (ik HI5) hg (IsS3.own_ne HI5.out HO_13.out (by decide))); replace HK := am (KeepBut.trans (kk HK) (KeepBut.of_grown hg g) (Kd.R_base2 HO_13.out)); have HO219 := am (ho); clear HO_13 ho hb hg hat))
             go_ret
             exact ⟨_, by first | rfl | (simp [errW_none, errW_some] <;> rfl) | (simp [*, errW_none, errW_some] <;> rfl), rk HO219, by repeat (first | (with_reducible first | exact HI5.out | apply IsS3.alloc | apply IsS3.drewN | apply IsS3.drew | apply IsS3.set_0) | exact HI5.out), by repeat (first | (with_reducible first | exact HB.out | apply below_alloc | apply pw_below_drewN | apply below_drew1 | refine below_set ?_ (IsS3.ge HI5.out)) | exact HB.out), by repeat (first | (with_reducible first | exact HK.out | apply KeepBut.set_ | apply keep_drewN | apply keep_drew | apply keep_alloc) | exact HK.out)⟩
            rw [if_neg c74] at H
            exact absurd H (by simp)
           replace c53 := Bool.eq_false_iff.mpr c53
           subst c53
           have H1 : (if x13_1.length < 140737488355328 then (some ((x13_1 ++ [x14_2]), x6q0_1)) else (none)) = some (r1, r2) := by rw [if_neg (show ¬ (false = true) by decide)] at H; exact H
           clear H
           have H := H1
           clear H1
           by_cases c78 : x13_1.length < 140737488355328
           ·
            rw [if_pos c78] at H
            have LMc78 := am c78
            clear c78
            obtain ⟨y220, hy220⟩ : ∃ y_ : List Int, y_ = (x13_1 ++ [x14_2]) := ⟨_, rfl⟩
            replace H : (some (y220, x6q0_1)) = some (r1, r2) := by first | (rw [hy220]; exact H) | exact H
            have Ny220 := am hy220
            clear hy220
            simp only [Option.some.injEq, Prod.mk.injEq] at H
            obtain ⟨rfl, rfl⟩ := H
            go_wp2_with (first | (refine gL (some 88) Tryd.func46 #[.slice Ao25 x0_2.length co25, .int .i64 1] ?_; (with_reducible refine (num_nat_up.calls kj45 _ _ x0_2 1 t201 _ ?side1 ?side2 A51.out).mono ?_); (case side1 => exact ck (Kd.V_reads' HO_0.out).2.2); (case side2 => exact (Kd.V_reads' HO_0.out).2.1); rintro e w79 ⟨v202, rfl, ho0, hb⟩; refine ⟨_, rfl, ?_⟩; replace HO_0 := vb HO_0 hb; replace HO_2 := vb HO_2 hb; replace HO_3 := vb HO_3 hb; have HO203 := am (Kd.V_lower (Kd.V_mono (ok' := fun k_ => ((P0_ k_ ∨ P2_ k_ ∨ P3_ k_) ∨ w.heap.size ≤ k_) ∧ some k_ ≠ (u13 : Value).ownBlock ∧ k_ ≠ g) ho0 (fun k_ hk_ => ⟨(.inr (Nat.le_trans (keep_size (kk HK)) hk_)), (Kd.fresh' (Kd.R_lt (rk HO_13)) k_ hk_), (IsS3.fresh (ik HI5) k_ hk_)⟩)) (keep_size (kk HK))); replace HO_13 := am (Kd.R_below (rk HO_13) hb); replace HK := am (KeepBut.trans (kk HK) (KeepBut.of_below hb g none) (.inl rfl)); replace HB := am (below_step (li HB HI5) hb); replace HI5 := am (IsS3.below (ik HI5) hb); obtain ⟨Ao80, co80, eo80⟩ := Kd.V_slice HO203.out; subst eo80) | (refine gL (some 90) Tryd.func49 #[.slice Ao80 t201.length co80, .slice A1 l1.length c1] ?_; (with_reducible refine (num_nat_against.calls kj45 _ _ t201 _ _ l1 t204 _ ?side1 ?side2 ?side3 ?side4 A52.out).mono ?_); (case side1 => exact ck (Kd.V_reads' HO203.out).2.2); (case side2 => exact (Kd.V_reads' HO203.out).2.1); (case side3 => exact Kd.C_keep 0 HR1.out (kk HK) hf1); (case side4 => exact HC1.out); rintro e w' ⟨rfl, ⟨nd, rfl⟩⟩; refine ⟨_, rfl, ?_⟩) | ((with_reducible refine gate_builtin (b := .append) (xs := #[.tmp 111, .tmp 113]) rfl ?_); at_builtin; refine Kd.R_append (Kd.int .u8) w.heap.size rfl (.tmp 111) (.tmp 113) 43 5 (.int .u8 0) 1 rfl Tryd.underlying43 info5 rfl (by decide) (by omega) u13 x13_1 x14_2 [.int .u8 x14_2] (fun k_ => (w.heap.size ≤ k_)) (fun _ => False) rfl rfl ?aP (fun _ hk => hk.elim) ?aF ?aO (Below.refl _ _) ?aS ?aL ?_; (case aP => exact rfl); (case aF => exact (fun k_ hk => (Nat.le_trans (keep_size (kk HK)) hk))); (case aO => exact (rk HO_13)); (case aS => exact (keep_size (kk HK))); (case aL => have := LMc78.out; omega); intro v221 w81 ho hb hg hat; rw [← Ny220.out] at ho; replace HO_0 := am (Kd.V_afterv (ok := (fun k_ => ((P0_ k_ ∨ P2_ k_ ∨ P3_ k_) ∨ w.heap.size ≤ k_) ∧ k_ ≠ g)) (by exact vy <| Kd.V_mono HO_0.out (fun _ hk => ⟨⟨hk.1, hk.2.2⟩, hk.2.1⟩)) hg hat); replace HO_2 := am (Kd.V_afterv (ok := (fun k_ => ((P0_ k_ ∨ P2_ k_ ∨ P3_ k_) ∨ w.heap.size ≤ k_) ∧ k_ ≠ g)) (by exact vy <| Kd.V_mono HO_2.out (fun _ hk => ⟨⟨hk.1, hk.2.2⟩, hk.2.1⟩)) hg hat); replace HO_3 := am (Kd.V_afterv (ok := (fun k_ => ((P0_ k_ ∨ P2_ k_ ∨ P3_ k_) ∨ w.heap.size ≤ k_) ∧ k_ ≠ g)) (by exact vy <| Kd.V_mono HO_3.out (fun _ hk => ⟨⟨hk.1, hk.2.2⟩, hk.2.1⟩)) hg hat); replace HO203 := am (Kd.V_afterv (ok := (fun k_ => ((P0_ k_ ∨ P2_ k_ ∨ P3_ k_) ∨ w.heap.size ≤ k_) ∧ k_ ≠ g)) (by exact vy <| Kd.V_mono HO203.out (fun _ hk => ⟨⟨hk.1, hk.2.2⟩, hk.2.1⟩)) hg hat); replace HB := am (below_weaken (li HB HI5) HL.out hb); replace HI5 := am (IsS3.grown (ik HI5) hg (IsS3.own_ne HI5.out HO_13.out (by decide))); replace HK := am (KeepBut.trans (kk HK) (KeepBut.of_grown hg g) (Kd.R_base2 HO_13.out)); have HO222 := am (ho); clear HO_13 ho hb hg hat))
            go_ret
            exact ⟨_, by first | rfl | (simp [errW_none, errW_some] <;> rfl) | (simp [*, errW_none, errW_some] <;> rfl), rk HO222, by repeat (first | (with_reducible first | exact HI5.out | apply IsS3.alloc | apply IsS3.drewN | apply IsS3.drew | apply IsS3.set_0) | exact HI5.out), by repeat (first | (with_reducible first | exact HB.out | apply below_alloc | apply pw_below_drewN | apply below_drew1 | refine below_set ?_ (IsS3.ge HI5.out)) | exact HB.out), by repeat (first | (with_reducible first | exact HK.out | apply KeepBut.set_ | apply keep_drewN | apply keep_drew | apply keep_alloc) | exact HK.out)⟩
           rw [if_neg c78] at H
           exact absurd H (by simp)
def math_Abs.f (a0 : Nat) : Option (Nat) := some (((Go.bits .andNot .u64 (a0 : Int) 9223372036854775808) : Int).toNat)
set_option maxHeartbeats 8000000 in
theorem math_Abs.calls (a0 : Nat) (r : Nat) (w : World) (h : math_Abs.f a0 = some r) :
  Calls Tryd.prog 74 #[.float .f64 a0] w fun e w' => e = .returned (.float .f64 r) ∧ Drawn0 w w' := by
 have H : (some (((Go.bits .andNot .u64 (a0 : Int) 9223372036854775808) : Int).toNat)) = some r := h
 clear h
 obtain rfl := Option.some.inj H
 have hext0 := Hd.ext12
 have hext1 := Hd.ext54
 go_enter Tryd.func74, Tryd.ntmps74
 go_wp2
 go_ret
 exact ⟨by first | rfl | (simp; done) | (simp [*]; done), by repeat (first | exact Drawn0.refl _ | apply Drawn0.step)⟩
def math_IsInf.f (a0 : Nat) (a1 : Int) : Option (Bool) := if a1 = 0 then ((math_Abs.f a0).bind fun t101 => (some (FloatKind.f64.format.order t101 9218868437227405311 == some Ordering.gt))) else (if a1 < 0 then (none) else (some (FloatKind.f64.format.order a0 9218868437227405311 == some Ordering.gt)))
set_option maxHeartbeats 8000000 in
theorem math_IsInf.calls (a0 : Nat) (a1 : Int) (r : Bool) (w : World) (h : math_IsInf.f a0 a1 = some r) :
  Calls Tryd.prog 32 #[.float .f64 a0, .int .i64 a1] w fun e w' => e = .returned (.bool r) ∧ Drawn0 w w' := by
 have H : (if a1 = 0 then ((math_Abs.f a0).bind fun t101 => (some (FloatKind.f64.format.order t101 9218868437227405311 == some Ordering.gt))) else (if a1 < 0 then (none) else (some (FloatKind.f64.format.order a0 9218868437227405311 == some Ordering.gt)))) = some r := h
 clear h
 by_cases c3 : a1 = 0
 ·
  rw [if_pos c3] at H
  have c3b0 : (a1 == 0) = true := beq_iff_eq.mpr c3
  have c3b1 : (a1 != 0) = false := bne_eq_false_iff_eq.mpr c3
  clear c3
  replace H := bm H
  obtain ⟨t101, A40, H⟩ := H
  have A4 := am A40
  clear A40
  obtain rfl := Option.some.inj H
  go_enter Tryd.func32, Tryd.ntmps32
  go_wp2_with (first | (refine gL (some 8) Tryd.func74 #[.float .f64 a0] ?_; (with_reducible refine (math_Abs.calls a0 t101 _ A4.out).mono ?_); rintro e w' ⟨rfl, ⟨nd, rfl⟩⟩; refine ⟨_, rfl, ?_⟩))
  go_ret
  exact ⟨by first | rfl | (simp; done) | (simp [*]; done), by repeat (first | exact Drawn0.refl _ | apply Drawn0.step)⟩
 rw [if_neg c3] at H
 have c3b0 : (a1 == 0) = false := beq_eq_false_iff_ne.mpr c3
 have c3b1 : (a1 != 0) = true := bne_iff_ne.mpr c3
 by_cases c5 : a1 < 0
 ·
  rw [if_pos c5] at H
  exact absurd H (by simp)
 rw [if_neg c5] at H
 have c5b0 := decide_eq_false c5
 clear c5
 obtain rfl := Option.some.inj H
 go_enter Tryd.func32, Tryd.ntmps32
 go_wp2
 go_ret
 exact ⟨by first | rfl | (simp; done) | (simp [*]; done), by repeat (first | exact Drawn0.refl _ | apply Drawn0.step)⟩
def math_Signbit.f (a0 : Nat) : Option (Bool) := some (decide ((wrap64 ((a0 : Int))) < 0))
set_option maxHeartbeats 8000000 in
theorem math_Signbit.calls (a0 : Nat) (r : Bool) (w : World) (h : math_Signbit.f a0 = some r) :
  Calls Tryd.prog 42 #[.float .f64 a0] w fun e w' => e = .returned (.bool r) ∧ Drawn0 w w' := by
 have H : (some (decide ((wrap64 ((a0 : Int))) < 0))) = some r := h
 clear h
 obtain rfl := Option.some.inj H
 have hext0 := Hd.ext54
 go_enter Tryd.func42, Tryd.ntmps42
 go_wp2
 go_ret
 exact ⟨by first | rfl | (simp; done) | (simp [*]; done), by repeat (first | exact Drawn0.refl _ | apply Drawn0.step)⟩
def math_IsNaN.f (a0 : Nat) : Option (Bool) := some (FloatKind.f64.format.order a0 a0 != some Ordering.eq)
set_option maxHeartbeats 8000000 in
theorem math_IsNaN.calls (a0 : Nat) (r : Bool) (w : World) (h : math_IsNaN.f a0 = some r) :
  Calls Tryd.prog 43 #[.float .f64 a0] w fun e w' => e = .returned (.bool r) ∧ Drawn0 w w' := by
 have H : (some (FloatKind.f64.format.order a0 a0 != some Ordering.eq)) = some r := h
 clear h
 obtain rfl := Option.some.inj H
 go_enter Tryd.func43, Tryd.ntmps43
 go_wp2
 go_ret
 exact ⟨by first | rfl | (simp; done) | (simp [*]; done), by repeat (first | exact Drawn0.refl _ | apply Drawn0.step)⟩
def num_parts.f (a0 : Nat) : Option (Int × Int) := if (wrap64 (Go.bits .and .u64 ((a0 : Int) / 4503599627370496) 2047)) = 0 then (some (Go.bits .and .u64 (a0 : Int) 4503599627370495, (-1074))) else (some (Go.bits .or .u64 (Go.bits .and .u64 (a0 : Int) 4503599627370495) 4503599627370496, wrap64 ((wrap64 ((wrap64 (Go.bits .and .u64 ((a0 : Int) / 4503599627370496) 2047)) + (-1074))) - 1)))
set_option maxHeartbeats 8000000 in
theorem num_parts.calls (a0 : Nat) (r1 : Int) (r2 : Int) (w : World) (h : num_parts.f a0 = some (r1, r2)) :
  Calls Tryd.prog 44 #[.float .f64 a0] w fun e w' => e = .returned (.tuple #[.int .u64 r1, .int .i64 r2]) ∧ Drawn0 w w' := by
 have H : (if (wrap64 (Go.bits .and .u64 ((a0 : Int) / 4503599627370496) 2047)) = 0 then (some (Go.bits .and .u64 (a0 : Int) 4503599627370495, (-1074))) else (some (Go.bits .or .u64 (Go.bits .and .u64 (a0 : Int) 4503599627370495) 4503599627370496, wrap64 ((wrap64 ((wrap64 (Go.bits .and .u64 ((a0 : Int) / 4503599627370496) 2047)) + (-1074))) - 1)))) = some (r1, r2) := h
 clear h
 by_cases c2 : (wrap64 (Go.bits .and .u64 ((a0 : Int) / 4503599627370496) 2047)) = 0
 ·
  rw [if_pos c2] at H
  have c2b0 : ((wrap64 (Go.bits .and .u64 ((a0 : Int) / 4503599627370496) 2047)) == 0) = true := beq_iff_eq.mpr c2
  have c2b1 : ((wrap64 (Go.bits .and .u64 ((a0 : Int) / 4503599627370496) 2047)) != 0) = false := bne_eq_false_iff_eq.mpr c2
  clear c2
  simp only [Option.some.injEq, Prod.mk.injEq] at H
  obtain ⟨rfl, rfl⟩ := H
  have hext0 := Hd.ext54
  go_enter Tryd.func44, Tryd.ntmps44
  go_wp2
  go_ret2
  exact ⟨by first | rfl | (simp; done) | (simp [*]; done), by repeat (first | exact Drawn0.refl _ | apply Drawn0.step)⟩
 rw [if_neg c2] at H
 have c2b0 : ((wrap64 (Go.bits .and .u64 ((a0 : Int) / 4503599627370496) 2047)) == 0) = false := beq_eq_false_iff_ne.mpr c2
 have c2b1 : ((wrap64 (Go.bits .and .u64 ((a0 : Int) / 4503599627370496) 2047)) != 0) = true := bne_iff_ne.mpr c2
 simp only [Option.some.injEq, Prod.mk.injEq] at H
 obtain ⟨rfl, rfl⟩ := H
 have hext0 := Hd.ext54
 go_enter Tryd.func44, Tryd.ntmps44
 go_wp2
 go_ret2
 exact ⟨by first | rfl | (simp; done) | (simp [*]; done), by repeat (first | exact Drawn0.refl _ | apply Drawn0.step)⟩
def num_units.f  : Option ((List (S98))) := some (([(⟨(⟨#[121]⟩ : ByteArray), 31536000000⟩ : S98), (⟨(⟨#[119]⟩ : ByteArray), 604800000⟩ : S98), (⟨(⟨#[100]⟩ : ByteArray), 86400000⟩ : S98), (⟨(⟨#[104]⟩ : ByteArray), 3600000⟩ : S98), (⟨(⟨#[109]⟩ : ByteArray), 60000⟩ : S98), (⟨(⟨#[115]⟩ : ByteArray), 1000⟩ : S98), (⟨(⟨#[109, 115]⟩ : ByteArray), 1⟩ : S98)] : List (S98)))
set_option maxHeartbeats 8000000 in
theorem num_units.calls  (r : List (S98)) (w : World) (h : num_units.f  = some r) :
  Calls Tryd.prog 77 #[] w fun e w' => ∃ v0_ : Value, e = .returned (v0_) ∧ Kd.R k98 98 w' w.heap.size (fun _ => True) v0_ r ∧ Below w.heap.size w w' := by
 have hu98 := Tryd.underlying98
 have HB := am (Below.refl w.heap.size w)
 have H : (some (([(⟨(⟨#[121]⟩ : ByteArray), 31536000000⟩ : S98), (⟨(⟨#[119]⟩ : ByteArray), 604800000⟩ : S98), (⟨(⟨#[100]⟩ : ByteArray), 86400000⟩ : S98), (⟨(⟨#[104]⟩ : ByteArray), 3600000⟩ : S98), (⟨(⟨#[109]⟩ : ByteArray), 60000⟩ : S98), (⟨(⟨#[115]⟩ : ByteArray), 1000⟩ : S98), (⟨(⟨#[109, 115]⟩ : ByteArray), 1⟩ : S98)] : List (S98)))) = some r := h
 clear h
 obtain ⟨y606, hy606⟩ : ∃ y_ : List (S98), y_ = (([(⟨(⟨#[121]⟩ : ByteArray), 31536000000⟩ : S98), (⟨(⟨#[119]⟩ : ByteArray), 604800000⟩ : S98), (⟨(⟨#[100]⟩ : ByteArray), 86400000⟩ : S98), (⟨(⟨#[104]⟩ : ByteArray), 3600000⟩ : S98), (⟨(⟨#[109]⟩ : ByteArray), 60000⟩ : S98), (⟨(⟨#[115]⟩ : ByteArray), 1000⟩ : S98), (⟨(⟨#[109, 115]⟩ : ByteArray), 1⟩ : S98)] : List (S98))) := ⟨_, rfl⟩
 replace H : (some y606) = some r := by first | (rw [hy606]; exact H) | exact H
 have Ny606 := am hy606
 clear hy606
 obtain rfl := Option.some.inj H
 go_enter Tryd.func77, Tryd.ntmps77
 go_wp2_with (first | ((with_reducible refine gate_dst (N := 8) rfl ?_); refine Kd.R_lit k98 _ 98 ?hg (N := 8) ?hd (xs := ([(⟨(⟨#[121]⟩ : ByteArray), 31536000000⟩ : S98), (⟨(⟨#[119]⟩ : ByteArray), 604800000⟩ : S98), (⟨(⟨#[100]⟩ : ByteArray), 86400000⟩ : S98), (⟨(⟨#[104]⟩ : ByteArray), 3600000⟩ : S98), (⟨(⟨#[109]⟩ : ByteArray), 60000⟩ : S98), (⟨(⟨#[115]⟩ : ByteArray), 1000⟩ : S98), (⟨(⟨#[109, 115]⟩ : ByteArray), 1⟩ : S98)] : List (S98))) (inner := [.string (⟨#[121]⟩ : ByteArray), .int .i64 31536000000, .string (⟨#[119]⟩ : ByteArray), .int .i64 604800000, .string (⟨#[100]⟩ : ByteArray), .int .i64 86400000, .string (⟨#[104]⟩ : ByteArray), .int .i64 3600000, .string (⟨#[109]⟩ : ByteArray), .int .i64 60000, .string (⟨#[115]⟩ : ByteArray), .int .i64 1000, .string (⟨#[109, 115]⟩ : ByteArray), .int .i64 1]) (ok := fun _ => True) (okp := fun _ => True) ?hr ?hp (fun _ hk => hk) trivial (Below.refl _ _) (Nat.le_refl _) (by simp) ?_; (case hd => rfl); (case hg => rfl); (case hr => first | (go_simp; done) | (go_simp; rfl)); (case hp => exact (Reps.c2 (show Kd.M k98 _ _ _ (⟨(⟨#[121]⟩ : ByteArray), 31536000000⟩ : S98) [.string (⟨#[121]⟩ : ByteArray), .int .i64 31536000000] from (k98_mkM _ _ _ (⟨(⟨#[121]⟩ : ByteArray), 31536000000⟩ : S98) )) (Reps.c2 (show Kd.M k98 _ _ _ (⟨(⟨#[119]⟩ : ByteArray), 604800000⟩ : S98) [.string (⟨#[119]⟩ : ByteArray), .int .i64 604800000] from (k98_mkM _ _ _ (⟨(⟨#[119]⟩ : ByteArray), 604800000⟩ : S98) )) (Reps.c2 (show Kd.M k98 _ _ _ (⟨(⟨#[100]⟩ : ByteArray), 86400000⟩ : S98) [.string (⟨#[100]⟩ : ByteArray), .int .i64 86400000] from (k98_mkM _ _ _ (⟨(⟨#[100]⟩ : ByteArray), 86400000⟩ : S98) )) (Reps.c2 (show Kd.M k98 _ _ _ (⟨(⟨#[104]⟩ : ByteArray), 3600000⟩ : S98) [.string (⟨#[104]⟩ : ByteArray), .int .i64 3600000] from (k98_mkM _ _ _ (⟨(⟨#[104]⟩ : ByteArray), 3600000⟩ : S98) )) (Reps.c2 (show Kd.M k98 _ _ _ (⟨(⟨#[109]⟩ : ByteArray), 60000⟩ : S98) [.string (⟨#[109]⟩ : ByteArray), .int .i64 60000] from (k98_mkM _ _ _ (⟨(⟨#[109]⟩ : ByteArray), 60000⟩ : S98) )) (Reps.c2 (show Kd.M k98 _ _ _ (⟨(⟨#[115]⟩ : ByteArray), 1000⟩ : S98) [.string (⟨#[115]⟩ : ByteArray), .int .i64 1000] from (k98_mkM _ _ _ (⟨(⟨#[115]⟩ : ByteArray), 1000⟩ : S98) )) (Reps.c2 (show Kd.M k98 _ _ _ (⟨(⟨#[109, 115]⟩ : ByteArray), 1⟩ : S98) [.string (⟨#[109, 115]⟩ : ByteArray), .int .i64 1] from (k98_mkM _ _ _ (⟨(⟨#[109, 115]⟩ : ByteArray), 1⟩ : S98) )) (Reps.none _ _))))))))); intro v607 w1 ho2 hb hg_ hnew_; clear hg_ hnew_; (first | rw [← Ny606.out] at ho2 | (simp only [Int.reduceToNat] at ho2; rw [← Ny606.out] at ho2)); have HO608 := am (Kd.R_lower ho2 (below_size (lk HB))); replace HB := lb HB hb; clear hb ho2))
 go_ret
 exact ⟨_, by first | rfl | (simp [errW_none, errW_some] <;> rfl) | (simp [*, errW_none, errW_some] <;> rfl), rk HO608, lk HB⟩
def strings_trimRightByte.l0 : Nat → ByteArray → Int → Option (ByteArray)
 | 0, _, _ => none
 | k + 1, x0, x1 => if (x0.size : Int) > 0 then (if 0 ≤ (wrap64 ((x0.size : Int) - 1)) then (if (wrap64 ((x0.size : Int) - 1)) < (x0.size : Int) then (if (bt x0 (wrap64 ((x0.size : Int) - 1))) = x1 then (if (wrap64 ((x0.size : Int) - 1)) ≤ (x0.size : Int) then (strings_trimRightByte.l0 k (x0.extract 0 ((wrap64 ((x0.size : Int) - 1)) : Int).toNat) x1) else (none)) else (some x0)) else (none)) else (none)) else (some x0)
def strings_trimRightByte.f (k : Nat) (a0 : ByteArray) (a1 : Int) : Option (ByteArray) := strings_trimRightByte.l0 k a0 a1
theorem strings_trimRightByte.mono_l : ∀ k, (∀ y0 y1, LeO (strings_trimRightByte.l0 k y0 y1) (strings_trimRightByte.l0 (k + 1) y0 y1))
 | 0 => fun _ _ r h => by simp [strings_trimRightByte.l0] at h
 | k + 1 => by
  have ih0 := strings_trimRightByte.mono_l k
  ·
   intro y0 y1
   unfold strings_trimRightByte.l0
   repeat' (with_reducible first | apply ih0 | apply LeO.refl | apply LeO.none | apply LeO.ite | refine LeO.bind ?_ (fun _ => ?_))
theorem strings_trimRightByte.mono : ∀ a0 a1 k, LeO (strings_trimRightByte.f k a0 a1) (strings_trimRightByte.f (k + 1) a0 a1) := by
 intro a0 a1 k
 have ih0 := strings_trimRightByte.mono_l k
 unfold strings_trimRightByte.f
 repeat' (with_reducible first | apply ih0 | apply LeO.refl | apply LeO.none | apply LeO.ite | refine LeO.bind ?_ (fun _ => ?_))
set_option maxHeartbeats 8000000 in
theorem strings_trimRightByte.calls (k : Nat) (a0 : ByteArray) (a1 : Int) (r : ByteArray) (w : World) (h : strings_trimRightByte.f k a0 a1 = some r) :
  Calls Tryd.prog 106 #[.string a0, .int .u8 a1] w fun e w' => e = .returned (.string r) ∧ Drawn0 w w' := by
 have H : (strings_trimRightByte.l0 k a0 a1) = some r := h
 clear h
 have H' := am H
 clear H
 go_enter Tryd.func106, Tryd.ntmps106
 go_wp2
 go_loopg [0] k (fun kq v0 w' => ∃ (x0_1 : ByteArray), v0 = .string x0_1 ∧ Aside0 (strings_trimRightByte.l0 kq x0_1 a1 = some r) ∧ Aside0 (kq ≤ k) ∧ Drawn0 w w')
 case atStart => exact ⟨(a0), eqd, H', ⟨Nat.le_refl _⟩, by repeat (first | exact Drawn0.refl _ | apply Drawn0.step)⟩
 case round =>
  clear H'
  obtain ⟨x0_1, rfl, HA, HK1, ⟨m1, rfl⟩⟩ := hrel
  cases gk with
  | zero => exact absurd HA.out (by simp [strings_trimRightByte.l0])
  | succ k1 =>
   have H := HA.out
   clear HA
   simp only [strings_trimRightByte.l0] at H
   by_cases c3 : (x0_1.size : Int) > 0
   ·
    rw [if_pos c3] at H
    have c3b0 : decide (0 < (x0_1.size : Int)) = true := dt c3
    have c3b1 : decide (0 < x0_1.size) = true := dt (by omega)
    clear c3
    obtain ⟨ji4, hji4⟩ : ∃ j_ : Int, (wrap64 ((x0_1.size : Int) - 1)) = j_ := ⟨_, rfl⟩
    replace H : (if 0 ≤ (ji4) then (if (ji4) < (x0_1.size : Int) then (if (bt x0_1 (ji4)) = a1 then (if (ji4) ≤ (x0_1.size : Int) then (strings_trimRightByte.l0 k1 (x0_1.extract 0 ((ji4) : Int).toNat) a1) else (none)) else (some x0_1)) else (none)) else (none)) = some r := by first | (rw [hji4] at H; exact H) | (simp only [hji4] at H ⊢; exact H)
    have hji4w : (IntKind.i64.wrap ((x0_1.size : Int) - 1)) = ji4 := (i64_w _).trans hji4
    by_cases c5 : 0 ≤ (ji4)
    ·
     rw [if_pos c5] at H
     have c5b0 := dt c5
     clear c5
     by_cases c6 : (ji4) < (x0_1.size : Int)
     ·
      rw [if_pos c6] at H
      have c6b0 := dt c6
      clear c6
      by_cases c8 : (bt x0_1 (ji4)) = a1
      ·
       rw [if_pos c8] at H
       have c8b0 : ((bt x0_1 (ji4)) == a1) = true := beq_iff_eq.mpr c8
       have c8b1 : ((bt x0_1 (ji4)) != a1) = false := bne_eq_false_iff_eq.mpr c8
       clear c8
       have c9b0 := eq_true (od : 0 ≤ (ji4))
       by_cases c10 : (ji4) ≤ (x0_1.size : Int)
       ·
        rw [if_pos c10] at H
        have c10b0 := eq_true c10
        have c10b1 := dt c10
        clear c10
        obtain ⟨y816, hy816⟩ : ∃ y_ : ByteArray, y_ = (x0_1.extract 0 ((ji4) : Int).toNat) := ⟨_, rfl⟩
        replace H : (strings_trimRightByte.l0 k1 y816 a1) = some r := by first | (rw [hy816]; exact H) | exact H
        have Ny816 := am hy816
        clear hy816
        have H' := am H
        clear H
        have p7 : 0 ≤ ((ji4) : Int) := od
        have q7 : (ji4) < (x0_1.size : Int) := od
        have hx7 := bt_at x0_1 (ji4)
        replace p7 := eq_true p7
        replace q7 := eq_true q7
        have hcs11 := Hd.str_to (P := Tryd.prog) (k := .i64) Tryd.underlying9 (j := (ji4)) (s := x0_1) (y := y816) oo oo Ny816.out
        go_wp2
        go_roundg k1
        case measure => have := HK1.out; omega
        case rel => exact ⟨(y816), eqd, H', ⟨by have := HK1.out; omega⟩, by repeat (first | exact Drawn0.refl _ | apply Drawn0.step)⟩
       rw [if_neg c10] at H
       exact absurd H (by simp)
      rw [if_neg c8] at H
      have c8b0 : ((bt x0_1 (ji4)) == a1) = false := beq_eq_false_iff_ne.mpr c8
      have c8b1 : ((bt x0_1 (ji4)) != a1) = true := bne_iff_ne.mpr c8
      obtain rfl := Option.some.inj H
      have p7 : 0 ≤ ((ji4) : Int) := od
      have q7 : (ji4) < (x0_1.size : Int) := od
      have hx7 := bt_at x0_1 (ji4)
      replace p7 := eq_true p7
      replace q7 := eq_true q7
      go_wp2
      go_ret
      exact ⟨by first | rfl | (simp; done) | (simp only [← hji4] <;> (first | rfl | simp)) | (simp [*]; done), by repeat (first | exact Drawn0.refl _ | apply Drawn0.step)⟩
     rw [if_neg c6] at H
     exact absurd H (by simp)
    rw [if_neg c5] at H
    exact absurd H (by simp)
   rw [if_neg c3] at H
   have c3b0 : decide (0 < (x0_1.size : Int)) = false := decide_eq_false c3
   have c3b1 : decide (0 < x0_1.size) = false := decide_eq_false (by omega)
   clear c3
   obtain rfl := Option.some.inj H
   go_wp2
   go_ret
   exact ⟨by first | rfl | (simp; done) | (simp [*]; done), by repeat (first | exact Drawn0.refl _ | apply Drawn0.step)⟩
mutual
def strings_TrimRight.j0 : Nat → ByteArray → ByteArray → Bool → Option (ByteArray)
 | 0, _, _, _ => none
 | k + 1, x0, x1, x12 => if x12 = true then (some x0) else (if (x1.size : Int) = 1 then (if 0 < (x1.size : Int) then (strings_TrimRight.j1 k x0 x1 (decide ((bt x1 0) < 128))) else (none)) else (strings_TrimRight.j1 k x0 x1 false))
def strings_TrimRight.j1 : Nat → ByteArray → ByteArray → Bool → Option (ByteArray)
 | 0, _, _, _ => none
 | k + 1, x0, x1, x21 => if x21 = true then (if 0 < (x1.size : Int) then ((strings_trimRightByte.f k x0 (bt x1 0)).bind fun t817 => (some t817)) else (none)) else (none)
end
def strings_TrimRight.f (k : Nat) (a0 : ByteArray) (a1 : ByteArray) : Option (ByteArray) := if a0.toList = ([] : List UInt8) then (strings_TrimRight.j0 k a0 a1 true) else (strings_TrimRight.j0 k a0 a1 (a1.toList == ([] : List UInt8)))
theorem strings_TrimRight.mono_l : ∀ k, (∀ y0 y1 y2, LeO (strings_TrimRight.j0 k y0 y1 y2) (strings_TrimRight.j0 (k + 1) y0 y1 y2)) ∧ (∀ y0 y1 y2, LeO (strings_TrimRight.j1 k y0 y1 y2) (strings_TrimRight.j1 (k + 1) y0 y1 y2))
 | 0 => ⟨fun _ _ _ r h => by simp [strings_TrimRight.j0] at h, fun _ _ _ r h => by simp [strings_TrimRight.j1] at h⟩
 | k + 1 => by
  obtain ⟨ih0, ih1⟩ := strings_TrimRight.mono_l k
  refine ⟨?_, ?_⟩ <;> intros <;> (first | unfold strings_TrimRight.j0 | unfold strings_TrimRight.j1) <;> repeat' (with_reducible first | apply ih0 | apply ih1 | apply strings_trimRightByte.mono | apply LeO.refl | apply LeO.none | apply LeO.ite | refine LeO.bind ?_ (fun _ => ?_))
theorem strings_TrimRight.mono : ∀ a0 a1 k, LeO (strings_TrimRight.f k a0 a1) (strings_TrimRight.f (k + 1) a0 a1) := by
 intro a0 a1 k
 obtain ⟨ih0, ih1⟩ := strings_TrimRight.mono_l k
 unfold strings_TrimRight.f
 repeat' (with_reducible first | apply ih0 | apply ih1 | apply strings_trimRightByte.mono | apply LeO.refl | apply LeO.none | apply LeO.ite | refine LeO.bind ?_ (fun _ => ?_))
set_option maxHeartbeats 8000000 in
theorem strings_TrimRight.calls (k : Nat) (a0 : ByteArray) (a1 : ByteArray) (r : ByteArray) (w : World) (h : strings_TrimRight.f k a0 a1 = some r) :
  Calls Tryd.prog 81 #[.string a0, .string a1] w fun e w' => e = .returned (.string r) ∧ Below w.heap.size w w' := by
 have HB := am (Below.refl w.heap.size w)
 have H : (if a0.toList = ([] : List UInt8) then (strings_TrimRight.j0 k a0 a1 true) else (strings_TrimRight.j0 k a0 a1 (a1.toList == ([] : List UInt8)))) = some r := h
 clear h
 have HC3 := am H
 clear H
 go_enter Tryd.func81, Tryd.ntmps81
 go_upto_region 1 with (fail)
 go_cut [12] (fun v12 wc => ∃ (kq : Nat) (x12_2 : Bool), v12 = .bool x12_2 ∧ Aside0 (strings_TrimRight.j0 kq a0 a1 x12_2 = some r) ∧ Aside0 (kq ≤ k) ∧ Aside0 (Below w.heap.size w wc))
 case first =>
  have H := HC3.out
  clear HC3
  by_cases c4 : a0.toList = ([] : List UInt8)
  ·
   rw [if_pos c4] at H
   have c4b0 : (a0.toList == ([] : List UInt8)) = true := beq_iff_eq.mpr c4
   have c4b1 : (a0.toList != ([] : List UInt8)) = false := bne_eq_false_iff_eq.mpr c4
   clear c4
   (first | rw [c4b0] | (simp only [i64_w, i32_w]; rw [c4b0]) | skip)
   have H' := am H
   clear H
   go_wp2
   go_meet
   case rel => exact ⟨_, (true), eqd, H', ol, ⟨lk HB⟩⟩
  rw [if_neg c4] at H
  have c4b0 : (a0.toList == ([] : List UInt8)) = false := beq_eq_false_iff_ne.mpr c4
  have c4b1 : (a0.toList != ([] : List UInt8)) = true := bne_iff_ne.mpr c4
  (first | rw [c4b0] | (simp only [i64_w, i32_w]; rw [c4b0]) | skip)
  have H' := am H
  clear H
  go_wp2
  go_meet
  case rel => exact ⟨_, ((a1.toList == ([] : List UInt8))), eqd, H', ol, ⟨lk HB⟩⟩
 case rest =>
  clear HC3
  obtain ⟨kq, x12_2, rfl, HA, HJ2, HB⟩ := hcut
  cases kq with
  | zero => exact absurd HA.out (by simp [strings_TrimRight.j0])
  | succ kj2 =>
   have H := HA.out
   clear HA
   simp only [strings_TrimRight.j0] at H
   by_cases c5 : x12_2 = true
   ·
    subst c5
    rw [if_pos rfl] at H
    obtain rfl := Option.some.inj H
    go_wp2
    go_ret
    exact ex (lk HB)
   replace c5 := Bool.eq_false_iff.mpr c5
   subst c5
   rw [if_neg (show ¬ (false = true) by decide)] at H
   have HC6 := am H
   clear H
   go_upto_region 3 with (fail)
   go_cut [21] (fun v21 wc => ∃ (kq : Nat) (x21_5 : Bool), v21 = .bool x21_5 ∧ Aside0 (strings_TrimRight.j1 kq a0 a1 x21_5 = some r) ∧ Aside0 (kq ≤ kj2) ∧ Aside0 (Below w.heap.size w wc))
   case first =>
    have H := HC6.out
    clear HC6
    by_cases c7 : (a1.size : Int) = 1
    ·
     rw [if_pos c7] at H
     have c7b0 : ((a1.size : Int) == 1) = true := beq_iff_eq.mpr c7
     have c7b1 : ((a1.size : Int) != 1) = false := bne_eq_false_iff_eq.mpr c7
     clear c7
     (first | rw [c7b0] | (simp only [i64_w, i32_w]; rw [c7b0]) | skip)
     by_cases c8 : 0 < (a1.size : Int)
     ·
      rw [if_pos c8] at H
      have c8b0 := dt c8
      have c8b1 : decide (0 < a1.size) = true := dt (by omega)
      clear c8
      have H' := am H
      clear H
      have p9 : 0 ≤ (0 : Int) := (by omega)
      have q9 : 0 < a1.size := (by have : (0 : Int) < (a1.size : Int) := od; omega)
      have hx9 : ∀ h : 0 < a1.size, ((a1[0]'h).toNat : Int) = bt a1 0 := bt_at a1 0
      clear p9
      have qi9 : (0 < (a1.size : Int)) = True := eq_true (od)
      replace q9 := eq_true q9
      go_wp2
      go_meet
      case rel => exact ⟨_, (decide ((bt a1 0) < 128)), eqd, H', ⟨by have := HJ2.out; first | omega | exact Nat.le_refl _⟩, ⟨lk HB⟩⟩
     rw [if_neg c8] at H
     exact absurd H (by simp)
    rw [if_neg c7] at H
    have c7b0 : ((a1.size : Int) == 1) = false := beq_eq_false_iff_ne.mpr c7
    have c7b1 : ((a1.size : Int) != 1) = true := bne_iff_ne.mpr c7
    (first | rw [c7b0] | (simp only [i64_w, i32_w]; rw [c7b0]) | skip)
    have H' := am H
    clear H
    go_wp2
    go_meet
    case rel => exact ⟨_, (false), eqd, H', ⟨by have := HJ2.out; first | omega | exact Nat.le_refl _⟩, ⟨lk HB⟩⟩
   case rest =>
    clear HC6
    obtain ⟨kq, x21_5, rfl, HA, HJ5, HB⟩ := hcut
    cases kq with
    | zero => exact absurd HA.out (by simp [strings_TrimRight.j1])
    | succ kj5 =>
     have H := HA.out
     clear HA
     simp only [strings_TrimRight.j1] at H
     by_cases c10 : x21_5 = true
     ·
      subst c10
      rw [if_pos rfl] at H
      by_cases c11 : 0 < (a1.size : Int)
      ·
       rw [if_pos c11] at H
       have c11b0 := dt c11
       have c11b1 : decide (0 < a1.size) = true := dt (by omega)
       clear c11
       replace H := bm H
       obtain ⟨t817, A130, H⟩ := H
       replace H : (some t817) = some r := H
       have A13 := am A130
       clear A130
       obtain rfl := Option.some.inj H
       have p12 : 0 ≤ (0 : Int) := (by omega)
       have q12 : 0 < a1.size := (by have : (0 : Int) < (a1.size : Int) := od; omega)
       have hx12 : ∀ h : 0 < a1.size, ((a1[0]'h).toNat : Int) = bt a1 0 := bt_at a1 0
       clear p12
       have qi12 : (0 < (a1.size : Int)) = True := eq_true (od)
       replace q12 := eq_true q12
       go_wp2_with (first | (refine gL (some 25) Tryd.func106 #[.string a0, .int .u8 (bt a1 0)] ?_; (with_reducible refine (strings_trimRightByte.calls kj5 a0 (bt a1 0) t817 _ A13.out).mono ?_); rintro e w' ⟨rfl, ⟨nd, rfl⟩⟩; refine ⟨_, rfl, ?_⟩))
       go_ret
       exact ex (lk HB)
      rw [if_neg c11] at H
      exact absurd H (by simp)
     replace c10 := Bool.eq_false_iff.mpr c10
     subst c10
     rw [if_neg (show ¬ (false = true) by decide)] at H
     exact absurd H (by simp)
mutual
def r_Seconds.j0 : Nat → Int → ByteArray → Option (ByteArray)
 | 0, _, _ => none
 | k + 1, x0, x3 => if (Int.tmod x0 1000) = 0 then (some x3) else ((r_plain.f k (Int.tmod x0 1000)).bind fun t827 => (r_Seconds.l0 k x3 t827))
def r_Seconds.l0 : Nat → ByteArray → ByteArray → Option (ByteArray)
 | 0, _, _ => none
 | k + 1, x3, x5 => if (x5.size : Int) < 3 then (if 1 + x5.size ≤ 9223372036854775807 then (r_Seconds.l0 k x3 ((⟨#[48]⟩ : ByteArray) ++ x5)) else (none)) else (r_Seconds.l1 k x3 x5)
def r_Seconds.l1 : Nat → ByteArray → ByteArray → Option (ByteArray)
 | 0, _, _ => none
 | k + 1, x3, x5 => if 0 ≤ (wrap64 ((x5.size : Int) - 1)) then (if (wrap64 ((x5.size : Int) - 1)) < (x5.size : Int) then (if (bt x5 (wrap64 ((x5.size : Int) - 1))) = 48 then (if (wrap64 ((x5.size : Int) - 1)) ≤ (x5.size : Int) then (r_Seconds.l1 k x3 (x5.extract 0 ((wrap64 ((x5.size : Int) - 1)) : Int).toNat)) else (none)) else (if x3.size + 1 ≤ 9223372036854775807 then ((some (x3 ++ (⟨#[46]⟩ : ByteArray) : ByteArray)).bind fun y830 => (if y830.size + x5.size ≤ 9223372036854775807 then (some (y830 ++ x5)) else (none))) else (none))) else (none)) else (none)
end
def r_Seconds.f (k : Nat) (a0 : Int) : Option (ByteArray) := (r_plain.f k (wrap64 (Int.tdiv a0 1000))).bind fun t825 => (if a0 < 0 then (if 1 + t825.size ≤ 9223372036854775807 then (r_Seconds.j0 k a0 ((⟨#[45]⟩ : ByteArray) ++ t825)) else (none)) else (r_Seconds.j0 k a0 t825))
theorem r_Seconds.mono_l : ∀ k, (∀ y0 y1, LeO (r_Seconds.j0 k y0 y1) (r_Seconds.j0 (k + 1) y0 y1)) ∧ (∀ y0 y1, LeO (r_Seconds.l0 k y0 y1) (r_Seconds.l0 (k + 1) y0 y1)) ∧ (∀ y0 y1, LeO (r_Seconds.l1 k y0 y1) (r_Seconds.l1 (k + 1) y0 y1))
 | 0 => ⟨fun _ _ r h => by simp [r_Seconds.j0] at h, fun _ _ r h => by simp [r_Seconds.l0] at h, fun _ _ r h => by simp [r_Seconds.l1] at h⟩
 | k + 1 => by
  obtain ⟨ih0, ih1, ih2⟩ := r_Seconds.mono_l k
  refine ⟨?_, ?_, ?_⟩ <;> intros <;> (first | unfold r_Seconds.j0 | unfold r_Seconds.l0 | unfold r_Seconds.l1) <;> repeat' (with_reducible first | apply ih0 | apply ih1 | apply ih2 | apply r_plain.mono | apply LeO.refl | apply LeO.none | apply LeO.ite | refine LeO.bind ?_ (fun _ => ?_))
theorem r_Seconds.mono : ∀ a0 k, LeO (r_Seconds.f k a0) (r_Seconds.f (k + 1) a0) := by
 intro a0 k
 obtain ⟨ih0, ih1, ih2⟩ := r_Seconds.mono_l k
 unfold r_Seconds.f
 repeat' (with_reducible first | apply ih0 | apply ih1 | apply ih2 | apply r_plain.mono | apply LeO.refl | apply LeO.none | apply LeO.ite | refine LeO.bind ?_ (fun _ => ?_))
set_option maxHeartbeats 8000000 in
theorem r_Seconds.calls (k : Nat) (a0 : Int) (r : ByteArray) (w : World) (h : r_Seconds.f k a0 = some r) :
  Calls Tryd.prog 41 #[.int .i64 a0] w fun e w' => e = .returned (.string r) ∧ Below w.heap.size w w' := by
 have HB := am (Below.refl w.heap.size w)
 have H : ((r_plain.f k (wrap64 (Int.tdiv a0 1000))).bind fun t825 => (if a0 < 0 then (if 1 + t825.size ≤ 9223372036854775807 then (r_Seconds.j0 k a0 ((⟨#[45]⟩ : ByteArray) ++ t825)) else (none)) else (r_Seconds.j0 k a0 t825))) = some r := h
 clear h
 replace H := bm H
 obtain ⟨t825, A20, H⟩ := H
 have A2 := am A20
 clear A20
 have HC3 := am H
 clear H
 go_enter Tryd.func41, Tryd.ntmps41
 go_upto_if 10 with (first | (refine gL (some 8) Tryd.func63 #[.int .i64 (wrap64 (Int.tdiv a0 1000))] ?_; (with_reducible refine (r_plain.calls k (wrap64 (Int.tdiv a0 1000)) t825 _ A2.out).mono ?_); rintro e w4 ⟨rfl, hb⟩; refine ⟨_, rfl, ?_⟩; replace HB := lb HB hb))
 (try simp only [Act.put, List.setIfInBounds_toArray, List.set_cons_zero, List.set_cons_succ])
 go_cut [3] (fun v3 wc => ∃ (kq : Nat) (x3_2 : ByteArray), v3 = .string x3_2 ∧ Aside0 (r_Seconds.j0 kq a0 x3_2 = some r) ∧ Aside0 (kq ≤ k) ∧ Aside0 (Below w.heap.size w wc))
 case first =>
  have H := HC3.out
  clear HC3
  by_cases c5 : a0 < 0
  ·
   rw [if_pos c5] at H
   have c5b0 := dt c5
   clear c5
   (first | rw [c5b0] | (simp only [i64_w, i32_w]; rw [c5b0]) | skip)
   by_cases c6 : 1 + t825.size ≤ 9223372036854775807
   ·
    rw [if_pos c6] at H
    have c6b0 := eq_true c6
    have c6b1 := dt c6
    obtain ⟨y826, hy826⟩ : ∃ y_ : ByteArray, y_ = ((⟨#[45]⟩ : ByteArray) ++ t825) := ⟨_, rfl⟩
    replace H : (r_Seconds.j0 k a0 y826) = some r := by first | (rw [hy826]; exact H) | exact H
    have Ny826 := am hy826
    clear hy826
    have H' := am H
    clear H
    obtain ⟨hcs7, hcs7'⟩ := sc Ny826
    go_wp2
    go_meet
    case rel => exact ⟨_, (y826), eqd, H', ol, ⟨lk HB⟩⟩
   rw [if_neg c6] at H
   exact absurd H (by simp)
  rw [if_neg c5] at H
  have c5b0 := decide_eq_false c5
  clear c5
  (first | rw [c5b0] | (simp only [i64_w, i32_w]; rw [c5b0]) | skip)
  have H' := am H
  clear H
  go_wp2
  go_meet
  case rel => exact ⟨_, (t825), eqd, H', ol, ⟨lk HB⟩⟩
 case rest =>
  clear HC3
  obtain ⟨kq, x3_2, rfl, HA, HJ2, HB⟩ := hcut
  cases kq with
  | zero => exact absurd HA.out (by simp [r_Seconds.j0])
  | succ kj2 =>
   have H := HA.out
   clear HA
   simp only [r_Seconds.j0] at H
   by_cases c8 : (Int.tmod a0 1000) = 0
   ·
    rw [if_pos c8] at H
    have c8b0 : ((Int.tmod a0 1000) == 0) = true := beq_iff_eq.mpr c8
    have c8b1 : ((Int.tmod a0 1000) != 0) = false := bne_eq_false_iff_eq.mpr c8
    clear c8
    obtain rfl := Option.some.inj H
    go_wp2
    go_ret
    exact ex (lk HB)
   rw [if_neg c8] at H
   have c8b0 : ((Int.tmod a0 1000) == 0) = false := beq_eq_false_iff_ne.mpr c8
   have c8b1 : ((Int.tmod a0 1000) != 0) = true := bne_iff_ne.mpr c8
   replace H := bm H
   obtain ⟨t827, A90, H⟩ := H
   have A9 := am A90
   clear A90
   have H' := am H
   clear H
   go_wp2_with (first | (refine gL (some 19) Tryd.func63 #[.int .i64 (Int.tmod a0 1000)] ?_; (with_reducible refine (r_plain.calls kj2 (Int.tmod a0 1000) t827 _ A9.out).mono ?_); rintro e w10 ⟨rfl, hb⟩; refine ⟨_, rfl, ?_⟩; replace HB := lb HB hb))
   go_loopg [5] kj2 (fun kq v5 w' => ∃ (x5_2 : ByteArray), v5 = .string x5_2 ∧ Aside0 (r_Seconds.l0 kq x3_2 x5_2 = some r) ∧ Aside0 (kq ≤ kj2) ∧ Aside0 (Below w.heap.size w w'))
   case atStart => exact ⟨(t827), eqd, H', ⟨Nat.le_refl _⟩, ⟨lk HB⟩⟩
   case round =>
    clear H'
    obtain ⟨x5_2, rfl, HA, HK2, HB⟩ := hrel
    cases gk with
    | zero => exact absurd HA.out (by simp [r_Seconds.l0])
    | succ k2 =>
     have H := HA.out
     clear HA
     simp only [r_Seconds.l0] at H
     by_cases c11 : (x5_2.size : Int) < 3
     ·
      rw [if_pos c11] at H
      have c11b0 := dt c11
      have c11b1 : decide (x5_2.size < 3) = true := dt (by omega)
      clear c11
      by_cases c12 : 1 + x5_2.size ≤ 9223372036854775807
      ·
       rw [if_pos c12] at H
       have c12b0 := eq_true c12
       have c12b1 := dt c12
       obtain ⟨y828, hy828⟩ : ∃ y_ : ByteArray, y_ = ((⟨#[48]⟩ : ByteArray) ++ x5_2) := ⟨_, rfl⟩
       replace H : (r_Seconds.l0 k2 x3_2 y828) = some r := by first | (rw [hy828]; exact H) | exact H
       have Ny828 := am hy828
       clear hy828
       have H' := am H
       clear H
       obtain ⟨hcs13, hcs13'⟩ := sc Ny828
       go_wp2
       go_roundg k2
       case measure => have := HJ2.out; have := HK2.out; omega
       case rel => exact ⟨(y828), eqd, H', ⟨by have := HJ2.out; have := HK2.out; omega⟩, ⟨lk HB⟩⟩
      rw [if_neg c12] at H
      exact absurd H (by simp)
     rw [if_neg c11] at H
     have c11b0 := decide_eq_false c11
     have c11b1 : decide (x5_2.size < 3) = false := decide_eq_false (by omega)
     clear c11
     have H' := am H
     clear H
     go_wp2
     go_loopg [5] k2 (fun kq v5 w' => ∃ (x5_3 : ByteArray), v5 = .string x5_3 ∧ Aside0 (r_Seconds.l1 kq x3_2 x5_3 = some r) ∧ Aside0 (kq ≤ k2) ∧ Aside0 (Below w.heap.size w w'))
     case atStart => exact ⟨(x5_2), eqd, H', ⟨Nat.le_refl _⟩, ⟨lk HB⟩⟩
     case round =>
      clear H'
      obtain ⟨x5_3, rfl, HA, HK3, HB⟩ := hrel
      cases gk with
      | zero => exact absurd HA.out (by simp [r_Seconds.l1])
      | succ k3 =>
       have H := HA.out
       clear HA
       simp only [r_Seconds.l1] at H
       obtain ⟨ji14, hji14⟩ : ∃ j_ : Int, (wrap64 ((x5_3.size : Int) - 1)) = j_ := ⟨_, rfl⟩
       replace H : (if 0 ≤ (ji14) then (if (ji14) < (x5_3.size : Int) then (if (bt x5_3 (ji14)) = 48 then (if (ji14) ≤ (x5_3.size : Int) then (r_Seconds.l1 k3 x3_2 (x5_3.extract 0 ((ji14) : Int).toNat)) else (none)) else (if x3_2.size + 1 ≤ 9223372036854775807 then ((some (x3_2 ++ (⟨#[46]⟩ : ByteArray) : ByteArray)).bind fun y830 => (if y830.size + x5_3.size ≤ 9223372036854775807 then (some (y830 ++ x5_3)) else (none))) else (none))) else (none)) else (none)) = some r := by first | (rw [hji14] at H; exact H) | (simp only [hji14] at H ⊢; exact H)
       have hji14w : (IntKind.i64.wrap ((x5_3.size : Int) - 1)) = ji14 := (i64_w _).trans hji14
       by_cases c15 : 0 ≤ (ji14)
       ·
        rw [if_pos c15] at H
        have c15b0 := dt c15
        clear c15
        by_cases c16 : (ji14) < (x5_3.size : Int)
        ·
         rw [if_pos c16] at H
         have c16b0 := dt c16
         clear c16
         by_cases c18 : (bt x5_3 (ji14)) = 48
         ·
          rw [if_pos c18] at H
          have c18b0 : ((bt x5_3 (ji14)) == 48) = true := beq_iff_eq.mpr c18
          have c18b1 : ((bt x5_3 (ji14)) != 48) = false := bne_eq_false_iff_eq.mpr c18
          clear c18
          have c19b0 := eq_true (od : 0 ≤ (ji14))
          by_cases c20 : (ji14) ≤ (x5_3.size : Int)
          ·
           rw [if_pos c20] at H
           have c20b0 := eq_true c20
           have c20b1 := dt c20
           clear c20
           obtain ⟨y829, hy829⟩ : ∃ y_ : ByteArray, y_ = (x5_3.extract 0 ((ji14) : Int).toNat) := ⟨_, rfl⟩
           replace H : (r_Seconds.l1 k3 x3_2 y829) = some r := by first | (rw [hy829]; exact H) | exact H
           have Ny829 := am hy829
           clear hy829
           have H' := am H
           clear H
           have p17 : 0 ≤ ((ji14) : Int) := od
           have q17 : (ji14) < (x5_3.size : Int) := od
           have hx17 := bt_at x5_3 (ji14)
           replace p17 := eq_true p17
           replace q17 := eq_true q17
           have hcs21 := Hd.str_to (P := Tryd.prog) (k := .i64) Tryd.underlying9 (j := (ji14)) (s := x5_3) (y := y829) oo oo Ny829.out
           go_wp2
           go_roundg k3
           case measure => have := HJ2.out; have := HK2.out; have := HK3.out; omega
           case rel => exact ⟨(y829), eqd, H', ⟨by have := HJ2.out; have := HK2.out; have := HK3.out; omega⟩, ⟨lk HB⟩⟩
          rw [if_neg c20] at H
          exact absurd H (by simp)
         rw [if_neg c18] at H
         have c18b0 : ((bt x5_3 (ji14)) == 48) = false := beq_eq_false_iff_ne.mpr c18
         have c18b1 : ((bt x5_3 (ji14)) != 48) = true := bne_iff_ne.mpr c18
         by_cases c22 : x3_2.size + 1 ≤ 9223372036854775807
         ·
          rw [if_pos c22] at H
          have c22b0 := eq_true c22
          have c22b1 := dt c22
          obtain ⟨y830, Ny830, H⟩ := yb H
          by_cases c23 : y830.size + x5_3.size ≤ 9223372036854775807
          ·
           rw [if_pos c23] at H
           have c23b0 := eq_true c23
           have c23b1 := dt c23
           obtain ⟨y831, hy831⟩ : ∃ y_ : ByteArray, y_ = (y830 ++ x5_3) := ⟨_, rfl⟩
           replace H : (some y831) = some r := by first | (rw [hy831]; exact H) | exact H
           have Ny831 := am hy831
           clear hy831
           obtain rfl := Option.some.inj H
           have p17 : 0 ≤ ((ji14) : Int) := od
           have q17 : (ji14) < (x5_3.size : Int) := od
           have hx17 := bt_at x5_3 (ji14)
           replace p17 := eq_true p17
           replace q17 := eq_true q17
           obtain ⟨hcs24, hcs24'⟩ := sc Ny830
           obtain ⟨hcs25, hcs25'⟩ := sc Ny831
           go_wp2
           go_ret
           exact ex (lk HB)
          rw [if_neg c23] at H
          exact absurd H (by simp)
         rw [if_neg c22] at H
         exact absurd H (by simp)
        rw [if_neg c16] at H
        exact absurd H (by simp)
       rw [if_neg c15] at H
       exact absurd H (by simp)
def q_Bits.f (a0 : Nat) (a1 : Nat) : Option (Bool) := some ((a0 : Int) == (a1 : Int))
set_option maxHeartbeats 8000000 in
theorem q_Bits.calls (a0 : Nat) (a1 : Nat) (r : Bool) (w : World) (h : q_Bits.f a0 a1 = some r) :
  Calls Tryd.prog 20 #[.float .f64 a0, .float .f64 a1] w fun e w' => e = .returned (.bool r) ∧ Drawn0 w w' := by
 have H : (some ((a0 : Int) == (a1 : Int))) = some r := h
 clear h
 obtain rfl := Option.some.inj H
 have hext0 := Hd.ext54
 go_enter Tryd.func20, Tryd.ntmps20
 go_wp2
 go_ret
 exact ⟨by first | rfl | (simp; done) | (simp [*]; done), by repeat (first | exact Drawn0.refl _ | apply Drawn0.step)⟩
def q_Within.f (a0 : Int) (a1 : Int) : Option (Int) := if a1 = 0 then (none) else (if (Int.tmod a0 a1) < 0 then (some (wrap64 ((Int.tmod a0 a1) + a1))) else (some (Int.tmod a0 a1)))
set_option maxHeartbeats 8000000 in
theorem q_Within.calls (a0 : Int) (a1 : Int) (r : Int) (w : World) (h : q_Within.f a0 a1 = some r) :
  Calls Tryd.prog 21 #[.int .i64 a0, .int .i64 a1] w fun e w' => e = .returned (.int .i64 r) ∧ Drawn0 w w' := by
 have H : (if a1 = 0 then (none) else (if (Int.tmod a0 a1) < 0 then (some (wrap64 ((Int.tmod a0 a1) + a1))) else (some (Int.tmod a0 a1)))) = some r := h
 clear h
 by_cases c3 : a1 = 0
 ·
  rw [if_pos c3] at H
  exact absurd H (by simp)
 rw [if_neg c3] at H
 have c3b0 : (a1 == 0) = false := beq_eq_false_iff_ne.mpr c3
 have c3b1 : (a1 != 0) = true := bne_iff_ne.mpr c3
 by_cases c4 : (Int.tmod a0 a1) < 0
 ·
  rw [if_pos c4] at H
  have c4b0 := dt c4
  clear c4
  obtain rfl := Option.some.inj H
  go_enter Tryd.func21, Tryd.ntmps21
  go_wp2
  go_ret
  exact ⟨by first | rfl | (simp; done) | (simp [*]; done), by repeat (first | exact Drawn0.refl _ | apply Drawn0.step)⟩
 rw [if_neg c4] at H
 have c4b0 := decide_eq_false c4
 clear c4
 obtain rfl := Option.some.inj H
 go_enter Tryd.func21, Tryd.ntmps21
 go_wp2
 go_ret
 exact ⟨by first | rfl | (simp; done) | (simp [*]; done), by repeat (first | exact Drawn0.refl _ | apply Drawn0.step)⟩
end Go.Proofs.YtjlnfnfdibfniaaDoor.F
namespace Go.Proofs.YtjlnfnfdibfniaaDoor.Hd
def decF : Nat → Nat → List UInt8
 | 0, _ => []
 | f + 1, n => (if n < 10 then [] else decF f (n / 10)) ++ [UInt8.ofNat (48 + n % 10)]
def dec (n : Nat) : List UInt8 := decF 20 n
def dec0 (n : Nat) : List UInt8 := if n = 0 then [] else dec n
theorem decF_stable : ∀ (f n : Nat), n < 10 ^ (f + 1) → decF (f + 2) n = decF (f + 1) n
 | 0, n, h => by
  have : n < 10 := by simpa using h
  simp [decF, this]
 | f + 1, n, h => by
  by_cases hn : n < 10
  ·
   simp [decF, hn]
  ·
   have hd : n / 10 < 10 ^ (f + 1) := by
    rw [Nat.pow_succ] at h
    omega
   have := decF_stable f (n / 10) hd
   show (if n < 10 then [] else decF (f + 2) (n / 10)) ++ _ = (if n < 10 then [] else decF (f + 1) (n / 10)) ++ _
   rw [this]
theorem dec_step (n : Nat) (h : n < 10 ^ 20) : dec n = dec0 (n / 10) ++ [UInt8.ofNat (48 + n % 10)] := by
 unfold dec dec0
 by_cases hn : n < 10
 ·
  have : n / 10 = 0 := by omega
  simp [decF, hn, this]
 ·
  have h0 : ¬ n / 10 = 0 := by omega
  rw [if_neg h0]
  have hs : decF 20 (n / 10) = decF 19 (n / 10) := decF_stable 18 (n / 10) (by omega)
  unfold dec
  rw [hs, decF, if_neg hn]
theorem decF_length : ∀ f n, (decF f n).length ≤ f
 | 0, _ => by simp [decF]
 | f + 1, n => by
  have := decF_length f (n / 10)
  rw [decF]
  split <;> simp <;> omega
theorem dec_length (n : Nat) : (dec n).length ≤ 20 := decF_length 20 n
def intText (n : Int) : ByteArray := if n < 0 then ⟨(45 :: dec (-n).toNat).toArray⟩ else ⟨(dec n.toNat).toArray⟩
structure IntLoop (U p m : Nat) (first : Bool) (acc : List UInt8) (arr : Array Value) : Prop where
 hp : p ≤ 20
 hacc : acc.length = 20 - p
 hsz : arr.size = 20
 hcell : ∀ i (h : i < acc.length), arr[p + i]? = some (.int .u8 (acc[i].toNat : Int))
 hold : ∀ i, i < 20 → ∃ v, arr[i]? = some (.int .u8 v)
 hm : m < 10 ^ p
 hU : U < 10 ^ 20
 hrel : (first = true ∧ p = 20 ∧ m = U ∧ acc = []) ∨ (first = false ∧ dec U = dec0 m ++ acc)
theorem IntLoop.start (U : Nat) (hU : U < 10 ^ 20) (arr : Array Value) (h : arr.size = 20) (ho : ∀ i, i < 20 → ∃ v, arr[i]? = some (.int .u8 v)) : IntLoop U 20 U true [] arr :=
 ⟨Nat.le_refl _, rfl, h, fun i hi => by simp at hi, ho, hU, hU, .inl ⟨rfl, rfl, rfl, rfl⟩⟩
theorem IntLoop.round {U q m : Nat} {first : Bool} {acc : List UInt8} {arr : Array Value} (h : IntLoop U (q + 1) m first acc arr) (hgo : first = true ∨ 0 < m) :
  IntLoop U q (m / 10) false (UInt8.ofNat (48 + m % 10) :: acc) (arr.setIfInBounds q (.int .u8 (48 + m % 10 : Nat))) := by
 have hb : (UInt8.ofNat (48 + m % 10)).toNat = 48 + m % 10 := by
  rw [UInt8.toNat_ofNat']; omega
 have hq := h.hp
 refine ⟨by omega, by have := h.hacc; simp; omega, by simpa using h.hsz, ?_, ?_, ?_, h.hU, .inr ⟨rfl, ?_⟩⟩
 ·
  intro i hi
  cases i with
  | zero =>
   simp only [Nat.add_zero, List.getElem_cons_zero, hb]
   rw [Array.getElem?_setIfInBounds_self_of_lt (by rw [h.hsz]; omega)]
  | succ i =>
   have hi' : i < acc.length := by simpa using hi
   have := h.hcell i hi'
   rw [Array.getElem?_setIfInBounds_ne (by omega)]
   simp only [List.getElem_cons_succ]
   rw [show q + (i + 1) = q + 1 + i from by omega]
   exact this
 ·
  intro i hi
  by_cases e : q = i
  ·
   subst e
   exact ⟨_, by rw [Array.getElem?_setIfInBounds_self_of_lt (by rw [h.hsz]; omega)]⟩
  ·
   rw [Array.getElem?_setIfInBounds_ne e]
   exact h.hold i hi
 ·
  have := h.hm
  rw [Nat.pow_succ] at this
  omega
 ·
  have hm20 : m < 10 ^ 20 := Nat.lt_of_lt_of_le h.hm (Nat.pow_le_pow_right (by omega) h.hp)
  rcases h.hrel with ⟨_, _, rfl, rfl⟩ | ⟨hf, hd⟩
  ·
   exact dec_step m hm20
  ·
   have hm0 : m ≠ 0 := by
    rcases hgo with hg | hg
    ·
     rw [hf] at hg; cases hg
    ·
     omega
   rw [hd, show dec0 m = dec m from if_neg hm0, dec_step m hm20, List.append_assoc]
   rfl
theorem IntLoop.exit {U p : Nat} {acc : List UInt8} {arr : Array Value} (h : IntLoop U p 0 false acc arr) : acc = dec U := by
 rcases h.hrel with ⟨hf, _⟩ | ⟨_, hd⟩
 ·
  cases hf
 ·
  rw [hd]; simp [dec0]
theorem dec_ne (n : Nat) : 1 ≤ (dec n).length := by
 unfold dec
 rw [decF]
 simp
theorem IntLoop.lt {U p : Nat} {arr : Array Value} (h : IntLoop U p 0 false (dec U) arr) : p < 20 := by
 have := h.hacc
 have := dec_ne U
 omega
theorem IntLoop.pos {U p m : Nat} {first : Bool} {acc : List UInt8} {arr : Array Value} (h : IntLoop U p m first acc arr) (hgo : first = true ∨ 0 < m) : 1 ≤ p := by
 rcases Nat.eq_zero_or_pos p with rfl | hp
 ·
  have := h.hm
  rcases h.hrel with ⟨_, hp, _⟩ | ⟨hf, _⟩
  ·
   omega
  ·
   rcases hgo with hg | hg
   ·
    rw [hf] at hg; cases hg
   ·
    simp at this; omega
 ·
  exact hp
end Go.Proofs.YtjlnfnfdibfniaaDoor.Hd
namespace Go.Proofs.YtjlnfnfdibfniaaDoor.Hd
open Go.RowKit Go.Proofs.YW.PWords Go.Proofs.YW.PLast
def BRow (w : World) (B : Nat) (bs : List UInt8) : Prop :=
 ∃ C : Array Value, w.heap[B]? = some (.cells C 5 (C.size, C.size + 1)) ∧ bs.length ≤ C.size ∧ ∀ i (h : i < bs.length), C[i]? = some (.int .u8 (bs[i].toNat : Int))
theorem BRow.cell {w : World} {B : Nat} {bs : List UInt8} (h : BRow w B bs) (i : Nat) (hi : i < bs.length) : w.cell? ⟨B, i, none⟩ = some (.int .u8 (bs[i].toNat : Int)) := by
 obtain ⟨C, h1, h2, h3⟩ := h
 unfold World.cell?
 dsimp only
 rw [h1]
 simpa using h3 i hi
theorem BRow.free {w : World} {B : Nat} {bs : List UInt8} (h : BRow w B bs) (i : Nat) (hi : i < bs.length) : w.frozen? ⟨B, i, none⟩ = false := by
 obtain ⟨C, h1, h2, h3⟩ := h
 unfold World.frozen?
 dsimp only
 rw [h1]
 simp
 omega
theorem BRow.set {w : World} {B : Nat} {bs : List UInt8} (h : BRow w B bs) (i : Nat) (v : UInt8) (z : Int) (hz : z = (v.toNat : Int)) : BRow (w.setCell ⟨B, i, none⟩ (.int .u8 z)) B (bs.set i v) := by
 subst hz
 obtain ⟨C, h1, h2, h3⟩ := h
 refine ⟨C.setIfInBounds i (.int .u8 (v.toNat : Int)), ?_, by simpa using h2, ?_⟩
 ·
  unfold World.setCell
  simp only [Array.getElem?_modify, if_true, h1]
  simp
 ·
  intro j hj
  have hj' : j < bs.length := by simpa using hj
  by_cases e : i = j
  ·
   subst e
   rw [Array.getElem?_setIfInBounds_self_of_lt (by omega)]
   simp
  ·
   rw [Array.getElem?_setIfInBounds_ne e, h3 j hj', List.getElem_set_ne e]
theorem BRow.string {w : World} {B : Nat} {bs : List UInt8} (h : BRow w B bs) (n cap : Nat) (hn : n = bs.length) :
  (convert 43 9 (.slice (some ⟨B, 0, none⟩) n cap)).run Tryd.prog w = .ok (.string ⟨bs.toArray⟩) w := by
 subst hn
 refine run_convert_bytes_back w 43 9 5 _ cap bs Tryd.underlying43 Tryd.underlying5 Tryd.underlying9 fun j hj => ?_
 have : (⟨B, 0, none⟩ : Addr).add j = ⟨B, j, none⟩ := by
  unfold Addr.add
  split
  ·
   rename_i e; subst e; rfl
  ·
   simp
 rw [this]
 exact h.cell j hj
theorem conv_bytes (s : ByteArray) (w : World) : ∃ (cap : Nat) (o : Obj), (convert 9 43 (.string s)).run Tryd.prog w = .ok (.slice (some ⟨w.heap.size, 0, none⟩) s.size cap) ((w.alloc o).drew) ∧ BRow ((w.alloc o).drew) w.heap.size s.data.toList := by
 have h := run_bytes_of_string (P := Tryd.prog) w 9 43 5 s Tryd.underlying9 Tryd.underlying43 Tryd.underlying5
 refine ⟨_, _, h, bytesRow s (grownCap w s.size 0 5), ?_, ?_, ?_⟩
 ·
  show (w.heap.push _)[w.heap.size]? = _
  simp
 ·
  simp [bytesRow]
 ·
  intro i hi
  have hi' : i < s.data.size := by simpa using hi
  unfold bytesRow
  rw [Array.getElem?_append_left (by simpa using hi'), Array.getElem?_map, Array.getElem?_eq_getElem hi']
  rfl
def mixed (f : UInt8 → UInt8) (bs : List UInt8) (i : Nat) : List UInt8 := (bs.take i).map f ++ bs.drop i
theorem mixed_zero (f : UInt8 → UInt8) (bs : List UInt8) : mixed f bs 0 = bs := by simp [mixed]
theorem mixed_length (f : UInt8 → UInt8) (bs : List UInt8) (i : Nat) : (mixed f bs i).length = bs.length := by simp [mixed]; omega
theorem mixed_all (f : UInt8 → UInt8) (bs : List UInt8) : mixed f bs bs.length = bs.map f := by simp [mixed]
theorem mixed_get (f : UInt8 → UInt8) (bs : List UInt8) (i : Nat) (h : i < bs.length) : (mixed f bs i)[i]'(by rw [mixed_length]; exact h) = bs[i] := by
 unfold mixed
 have hl : ((bs.take i).map f).length = i := by simp; omega
 rw [List.getElem_append_right (by omega)]
 simp only [hl, Nat.sub_self, List.getElem_drop, Nat.add_zero]
theorem mixed_set (f : UInt8 → UInt8) (bs : List UInt8) (i : Nat) (h : i < bs.length) : (mixed f bs i).set i (f bs[i]) = mixed f bs (i + 1) := by
 unfold mixed
 have hl : ((bs.take i).map f).length = i := by simp; omega
 rw [List.set_append_right _ _ (by omega), hl, Nat.sub_self, List.drop_eq_getElem_cons h, List.set_cons_zero]
 rw [List.take_succ_eq_append_getElem h, List.map_append, List.append_assoc]
 rfl
theorem mixed_same (f : UInt8 → UInt8) (bs : List UInt8) (i : Nat) (h : i < bs.length) (hf : f bs[i] = bs[i]) : mixed f bs (i + 1) = mixed f bs i := by
 rw [← mixed_set f bs i h, hf]
 apply List.ext_getElem
 ·
  simp
 ·
  intro j h1 h2
  by_cases e : i = j
  ·
   subst e
   simp [mixed_get f bs i h]
  ·
   rw [List.getElem_set_ne e]
end Go.Proofs.YtjlnfnfdibfniaaDoor.Hd
namespace Go.Proofs.YtjlnfnfdibfniaaDoor.Hd
open Go.RowKit Go.Proofs.YW.PWords Go.Proofs.YW.PLast
def low (c : UInt8) : UInt8 := if 65 ≤ c.toNat ∧ c.toNat ≤ 90 then UInt8.ofNat (c.toNat + 32) else c
theorem low_hit (c : UInt8) (h1 : 65 ≤ c.toNat) (h2 : c.toNat ≤ 90) : ((low c).toNat : Int) = (c.toNat : Int) + 32 := by
 unfold low
 rw [if_pos ⟨h1, h2⟩, UInt8.toNat_ofNat']
 omega
def smallF (s : ByteArray) : ByteArray := ⟨(s.data.toList.map low).toArray⟩
def num_small.f (a0 : ByteArray) : Option ByteArray := if a0.size ≤ 9223372036854775807 then some (smallF a0) else none
set_option maxHeartbeats 2000000 in
set_option maxRecDepth 100000 in
theorem small_any (s : ByteArray) (w : World) (hs : s.size ≤ 9223372036854775807) :
  Calls Tryd.prog 65 #[.string s] w fun e w' => e = .returned (.string (smallF s)) ∧ Below w.heap.size w w' := by
 obtain ⟨cap, o, hrun, hrow⟩ := conv_bytes s w
 have HW := Aside0.mk (rfl : s.data.toList.length = s.size)
 obtain ⟨bs, hbs⟩ : ∃ bs, bs = s.data.toList := ⟨_, rfl⟩
 obtain ⟨n, hn⟩ : ∃ n, n = s.size := ⟨_, rfl⟩
 rw [← hn] at hs hrun
 rw [← hbs] at hrow
 have HN := Aside0.mk hn
 have HBS := Aside0.mk hbs
 have HRow := Aside0.mk hrow
 have hlen : Aside0 (bs.length = n) := ⟨by rw [hbs, hn]; rfl⟩
 clear hn hbs hrow HW
 go_enter Tryd.func65, Tryd.ntmps65
 go_wp2
 go_loopg [10] (n + 1) (fun kq v10 wr => ∃ i : Nat, v10 = .int .i64 (i : Int) ∧ i ≤ n ∧ Aside0 (BRow wr w.heap.size (mixed low bs i)) ∧ Aside0 (Below w.heap.size w wr) ∧ Aside0 (n - i < kq))
 case atStart => exact ⟨0, rfl, Nat.zero_le _, ⟨by rw [mixed_zero]; exact HRow.out⟩, ⟨below_drew1 ((Below.refl _ _).alloc (Nat.le_refl _) _)⟩, ⟨by omega⟩⟩
 case round =>
  obtain ⟨i, rfl, hi, HR, HB, HK⟩ := hrel
  by_cases hlt : i < n
  ·
   obtain ⟨c, hcell, hfree, HC, HD⟩ : ∃ c : UInt8, wr.cell? ⟨w.heap.size, i, none⟩ = some (.int .u8 (c.toNat : Int)) ∧ wr.frozen? ⟨w.heap.size, i, none⟩ = false ∧
     Aside0 (∀ z : Int, z = ((low c).toNat : Int) → BRow (wr.setCell ⟨w.heap.size, i, none⟩ (.int .u8 z)) w.heap.size (mixed low bs (i + 1))) ∧
     Aside0 (low c = c → BRow wr w.heap.size (mixed low bs (i + 1))) := by
    have hil : i < bs.length := by rw [hlen.out]; exact hlt
    have hil' : i < (mixed low bs i).length := by rw [mixed_length]; exact hil
    refine ⟨bs[i], ?_, HR.out.free i hil', ⟨fun z hz => ?_⟩, ⟨fun h => ?_⟩⟩
    ·
     rw [← mixed_get low bs i hil]; exact HR.out.cell i hil'
    ·
     rw [← mixed_set low bs i hil]; exact HR.out.set i _ z hz
    ·
     rw [mixed_same low bs i hil h]; exact HR.out
   clear HR
   have hc255 := c.toNat_lt
   by_cases h1 : 65 ≤ c.toNat
   ·
    by_cases h2 : c.toNat ≤ 90
    ·
     have hb1 : decide ((65 : Int) ≤ (c.toNat : Int)) = true := by simp; omega
     have hb2 : decide ((c.toNat : Int) ≤ (90 : Int)) = true := by simp; omega
     go_wp2
     go_roundg (gk - 1)
     case measure => have := HK.out; omega
     case rel => exact ⟨i + 1, by go_num, by omega, ⟨HC.out _ (by rw [low_hit c h1 h2] <;> omega)⟩, ⟨below_set HB.out (Nat.le_refl _)⟩, ⟨by have := HK.out; omega⟩⟩
    ·
     have hb1 : decide ((65 : Int) ≤ (c.toNat : Int)) = true := by simp; omega
     have hb2 : decide ((c.toNat : Int) ≤ (90 : Int)) = false := by simp; omega
     go_wp2
     go_roundg (gk - 1)
     case measure => have := HK.out; omega
     case rel => exact ⟨i + 1, by go_num, by omega, ⟨HD.out (by unfold low; rw [if_neg (by omega)])⟩, HB, ⟨by have := HK.out; omega⟩⟩
   ·
    have hb1 : decide ((65 : Int) ≤ (c.toNat : Int)) = false := by simp; omega
    go_wp2
    go_roundg (gk - 1)
    case measure => have := HK.out; omega
    case rel => exact ⟨i + 1, by go_num, by omega, ⟨HD.out (by unfold low; rw [if_neg (by omega)])⟩, HB, ⟨by have := HK.out; omega⟩⟩
  ·
   obtain rfl : i = n := by omega
   have hst := HR.out.string i cap (by rw [mixed_length]; exact hlen.out.symm)
   have he : Aside0 (ByteArray.mk (mixed low bs i).toArray = smallF s) := ⟨by rw [← hlen.out, mixed_all, HBS.out]; rfl⟩
   go_wp2
   go_ret
   exact ⟨by rw [← he.out]; rfl, HB.out⟩
theorem num_small.calls (a0 : ByteArray) (r : ByteArray) (w : World) (h : num_small.f a0 = some r) :
  Calls Tryd.prog 65 #[.string a0] w fun e w' => e = .returned (.string r) ∧ Below w.heap.size w w' := by
 unfold num_small.f at h
 split at h
 ·
  cases h
  exact small_any a0 w (by assumption)
 ·
  cases h
end Go.Proofs.YtjlnfnfdibfniaaDoor.Hd
namespace Go.Proofs.YtjlnfnfdibfniaaDoor.Hd
open Go.RowKit Go.Proofs.YW.PWords Go.Proofs.YW.PLast Go.Proofs.YW.PMore
set_option linter.unusedVariables false
set_option linter.unusedSimpArgs false
def num_Digits_1.f (k : Nat) (l0 l1 l2 : List Int) (a3 : Bool) : Option Bool :=
 (F.num_nat_plus.f k l0 l1).bind fun p => (F.num_nat_against.f k p l2).bind fun c => some (if c > 0 then true else if (c == 0) = true then a3 else false)
theorem num_Digits_1.mono : ∀ a0 a1 a2 a3 k, LeO (num_Digits_1.f k a0 a1 a2 a3) (num_Digits_1.f (k + 1) a0 a1 a2 a3) := by
 intro a0 a1 a2 a3 k r h
 unfold num_Digits_1.f at h ⊢
 obtain ⟨p, hp, h⟩ := Option.bind_eq_some_iff.mp h
 obtain ⟨c, hc, h⟩ := Option.bind_eq_some_iff.mp h
 rw [F.num_nat_plus.mono _ _ _ _ hp, Option.bind_some, F.num_nat_against.mono _ _ _ _ hc, Option.bind_some, h]
def T47 : Bool × List (List Nat × List Nat) := (true, [([], []), ([], []), ([0, 1], [0, 1]), ([], []), ([2, 3, 2], [2, 3]), ([4, 4, 0, 1, 2, 3, 4], [4])])
def B47 : List Nat := [0, 0, 3, 0, 15, 31]
theorem tab47 : rtab .any (opsOf Tryd.f47 1) = T47 := by kernel_rfl
theorem bits47 : waitsOk T47.2 B47 = true := by kernel_rfl
set_option maxRecDepth 100000 in
theorem num_Digits_1.calls (k : Nat) (g0 g1 g2 g3 : Nat) (A0 : Option Addr) (c0 : Nat) (l0 : List Int) (A1 : Option Addr) (c1 : Nat) (l1 : List Int) (A2 : Option Addr) (c2 : Nat) (l2 : List Int) (a3 : Bool) (r : Bool) (w : World)
  (hb0 : w.heap[g0]? = some (.cells #[.slice A0 l0.length c0] 56 (0, 0))) (hb1 : w.heap[g1]? = some (.cells #[.slice A1 l1.length c1] 56 (0, 0))) (hb2 : w.heap[g2]? = some (.cells #[.slice A2 l2.length c2] 56 (0, 0))) (hb3 : w.heap[g3]? = some (.cells #[.bool a3] 4 (0, 0)))
  (hr0 : Kd.C (Kd.int .u32) w A0 l0.length l0) (hc0 : l0.length ≤ c0) (hr1 : Kd.C (Kd.int .u32) w A1 l1.length l1) (hc1 : l1.length ≤ c1) (hr2 : Kd.C (Kd.int .u32) w A2 l2.length l2) (hc2 : l2.length ≤ c2) (h : num_Digits_1.f k l0 l1 l2 a3 = some r) :
  Calls Tryd.prog 47 #[.pointer (some ⟨g0, 0, none⟩), .pointer (some ⟨g1, 0, none⟩), .pointer (some ⟨g2, 0, none⟩), .pointer (some ⟨g3, 0, none⟩)] w fun e w' => e = .returned (.bool r) ∧ Below w.heap.size w w' := by
 unfold num_Digits_1.f at h
 obtain ⟨p, hp, h⟩ := Option.bind_eq_some_iff.mp h
 obtain ⟨c, hc, h⟩ := Option.bind_eq_some_iff.mp h
 have hp := Aside0.mk hp
 have hc := Aside0.mk hc
 have hz := Aside0.mk (Option.some.inj h)
 clear h
 have HB := Aside0.mk (Below.refl w.heap.size w)
 have HR0 := Aside0.mk hr0
 have HR1 := Aside0.mk hr1
 have HR2 := Aside0.mk hr2
 have BK0 := Aside0.mk hb0
 have BK1 := Aside0.mk hb1
 have BK2 := Aside0.mk hb2
 have BK3 := Aside0.mk hb3
 clear hr0 hr1 hr2 hb0 hb1 hb2 hb3
 go_enter Tryd.func47, Tryd.ntmps47
 go_wp2
 refine start_ (n := 6) (S := fun w' => w'.cell? ⟨g0, 0, none⟩ = some (.slice A0 l0.length c0) ∧ w'.cell? ⟨g1, 0, none⟩ = some (.slice A1 l1.length c1) ∧ w'.cell? ⟨g2, 0, none⟩ = some (.slice A2 l2.length c2)) (ds := []) #[false, false, false, false, false, false] (by kernel_rfl) rfl rfl ⟨(blk_cell BK0.out 0).trans rfl, (blk_cell BK1.out 0).trans rfl, (blk_cell BK2.out 0).trans rfl⟩ (fun hHeld => ?_); refine with_tabW tab47 bits47 (fun HT_ HW_ => ?_)
 have HB := Aside0.mk (below_drew1 HB.out)
 have HR0 := Aside0.mk (Kd.C_drew HR0.out)
 have HR1 := Aside0.mk (Kd.C_drew HR1.out)
 have HR2 := Aside0.mk (Kd.C_drew HR2.out)
 have BK0 := Aside0.mk (blk_drew BK0.out)
 have BK1 := Aside0.mk (blk_drew BK1.out)
 have BK2 := Aside0.mk (blk_drew BK2.out)
 have BK3 := Aside0.mk (blk_drew BK3.out)
 generalize w.drew = w1 at HR0 HR1 HR2 BK0 BK1 BK2 BK3 HB hHeld ⊢
 refine take_ (i := 0) (N := some 6) (v := ?_) (a' := ?_) #[true, false, false, false, false, false] rfl rfl (take_ofW HT_.out HW_.out (by kernel_rfl)) (fun _ _ _ h => h) (Or.inl ⟨by rfl, ?_⟩) hHeld ?_ ?_
 rotate_left
 ·
  rintro w' ⟨s0, s1, s2⟩
  go_simp
  with_reducible rfl
 rotate_left
 ·
  simp only [Act.put, List.setIfInBounds_toArray, List.set_cons_zero, List.set_cons_succ, i64_w, i32_w]
  rfl
 refine take_ (i := 1) (N := some 7) (v := ?_) (a' := ?_) #[true, true, false, false, false, false] rfl rfl (take_ofW HT_.out HW_.out (by kernel_rfl)) (fun _ _ _ h => h) (Or.inl ⟨by rfl, ?_⟩) hHeld ?_ ?_
 rotate_left
 ·
  rintro w' ⟨s0, s1, s2⟩
  go_simp
  with_reducible rfl
 rotate_left
 ·
  simp only [Act.put, List.setIfInBounds_toArray, List.set_cons_zero, List.set_cons_succ, i64_w, i32_w]
  rfl
 refine take_ (i := 3) (N := some 9) (v := ?_) (a' := ?_) #[true, true, false, true, false, false] rfl rfl (take_ofW HT_.out HW_.out (by kernel_rfl)) (fun _ _ _ h => h) (Or.inl ⟨by rfl, ?_⟩) hHeld ?_ ?_
 rotate_left
 ·
  rintro w' ⟨s0, s1, s2⟩
  go_simp
  with_reducible rfl
 rotate_left
 ·
  simp only [Act.put, List.setIfInBounds_toArray, List.set_cons_zero, List.set_cons_succ, i64_w, i32_w]
  rfl
 refine one_ (i := 2) (N := some 8) #[true, true, true, true, false, false] rfl rfl (one_of HT_.out (by kernel_rfl)) (by decide) (fun K hK => ?_)
 refine goes_ Tryd.func48 (by kernel_rfl) rfl #[.slice A0 l0.length c0, .slice A1 l1.length c1] (by rfl) rfl rfl (by (try simp only [List.map_toArray, List.map_cons, List.map_nil]); rfl) ?_
 refine (F.num_nat_plus.calls k A0 c0 l0 A1 c1 l1 p _ HR0.out hc0 HR1.out hc1 hp.out).mono ?_
 rintro e w2 ⟨v0, rfl, ho0, hb⟩
 refine ⟨_, rfl, ?_⟩
 obtain ⟨Ap, cp, rfl⟩ := Kd.V_slice ho0
 have HR2 := Aside0.mk (Kd.C_below HR2.out hb)
 have BK0 := Aside0.mk (blk_below BK0.out hb)
 have BK1 := Aside0.mk (blk_below BK1.out hb)
 have BK2 := Aside0.mk (blk_below BK2.out hb)
 have BK3 := Aside0.mk (blk_below BK3.out hb)
 have HB := Aside0.mk (below_step HB.out hb)
 refine hK.out _ _ ⟨(blk_cell BK0.out 0).trans rfl, (blk_cell BK1.out 0).trans rfl, (blk_cell BK2.out 0).trans rfl⟩ (fun hHeld => ?_)
 clear hK K
 refine norm_ (a' := ?_) ?_ ?_
 rotate_left
 ·
  show Act.put _ (some 8) _ = _
  simp only [Act.put, List.setIfInBounds_toArray, List.set_cons_zero, List.set_cons_succ, i64_w, i32_w]
  rfl
 refine one_ (i := 4) (N := some 10) #[true, true, true, true, true, false] rfl rfl (one_of HT_.out (by kernel_rfl)) (by decide) (fun K hK => ?_)
 refine goes_ Tryd.func49 (by kernel_rfl) rfl #[.slice Ap p.length cp, .slice A2 l2.length c2] (by rfl) rfl rfl (by (try simp only [List.map_toArray, List.map_cons, List.map_nil]); rfl) ?_
 refine (F.num_nat_against.calls k Ap cp p A2 c2 l2 c _ (Kd.V_reads' ho0).2.2 (Kd.V_reads' ho0).2.1 HR2.out hc2 hc.out).mono ?_
 rintro e w' ⟨rfl, ⟨nd, rfl⟩⟩
 refine ⟨_, rfl, ?_⟩
 refine hK.out _ _ ⟨(blk_cell BK0.out 0).trans rfl, (blk_cell BK1.out 0).trans rfl, (blk_cell BK2.out 0).trans rfl⟩ (fun hHeld => ?_)
 clear hK K
 refine norm_ (a' := ?_) ?_ ?_
 rotate_left
 ·
  show Act.put _ (some 10) _ = _
  simp only [Act.put, List.setIfInBounds_toArray, List.set_cons_zero, List.set_cons_succ, i64_w, i32_w]
  rfl
 refine pure_ (i := 5) (N := some 5) (v := ?_) (a' := ?_) #[true, true, true, true, true, true] rfl rfl (any_of HT_.out (by kernel_rfl)) (fun _ _ _ h => h) (Or.inl ⟨by rfl, ?_⟩) ?_ ?_
 rotate_left
 ·
  intro w'
  go_simp
  with_reducible rfl
 rotate_left
 ·
  simp only [Act.put, List.setIfInBounds_toArray, List.set_cons_zero, List.set_cons_succ, i64_w, i32_w]
  rfl
 refine done_ (done_of HT_.out (by kernel_rfl)) ?_
 have hcz : w2.cell? ⟨g3, 0, none⟩ = some (.bool a3) := (blk_cell BK3.out 0).trans rfl
 have hfz := blk_frozen BK3.out 0
 have hz := hz.out
 by_cases hc0 : c > 0
 ·
  rw [if_pos hc0] at hz
  subst hz
  have hb0 : decide (0 < c) = true := decide_eq_true hc0
  have hb1 : decide (c > 0) = true := decide_eq_true hc0
  go_wp2
  go_ret
  exact ⟨rfl, by repeat (first | exact HB.out | apply pw_below_drewN | apply below_drew1)⟩
 ·
  rw [if_neg hc0] at hz
  have hb0 : decide (0 < c) = false := decide_eq_false hc0
  have hb1 : decide (c > 0) = false := decide_eq_false hc0
  cases hce : (c == 0) with
  | true =>
   rw [hce, if_pos rfl] at hz
   subst hz
   go_wp2
   go_ret
   exact ⟨rfl, by repeat (first | exact HB.out | apply pw_below_drewN | apply below_drew1)⟩
  | false =>
   rw [hce, if_neg (by decide)] at hz
   subst hz
   go_wp2
   go_ret
   exact ⟨rfl, by repeat (first | exact HB.out | apply pw_below_drewN | apply below_drew1)⟩
end Go.Proofs.YtjlnfnfdibfniaaDoor.Hd
namespace Go.Proofs.YtjlnfnfdibfniaaDoor.Hd
open Go.RowKit Go.Proofs.YW.PWords Go.Proofs.YW.PLast
def num_IntText.f (a0 : Int) : Option ByteArray := if -9223372036854775808 ≤ a0 ∧ a0 ≤ 9223372036854775807 then some (intText a0) else none
theorem heap_last (w : World) (o : Obj) : (w.alloc o).heap[w.heap.size]? = some o := by
 show (w.heap.push o)[w.heap.size]? = _
 simp
theorem cell_arr (w : World) (arr : Array Value) (T : TypeId) (i : Nat) (v : Value) (h : arr[i]? = some v) : (w.alloc (.cells arr T)).cell? ⟨w.heap.size, i, none⟩ = some v := by
 unfold World.cell?
 dsimp only
 rw [heap_last]
 simpa using h
theorem frozen_arr (w : World) (arr : Array Value) (T : TypeId) (i : Nat) : (w.alloc (.cells arr T)).frozen? ⟨w.heap.size, i, none⟩ = false := by
 unfold World.frozen?
 dsimp only
 rw [heap_last]
 simp
theorem string_tail (w : World) (arr : Array Value) (p : Nat) (acc : List UInt8) (h : ∀ i (h : i < acc.length), arr[p + i]? = some (.int .u8 (acc[i].toNat : Int))) (n cap : Nat) (hn : n = acc.length) :
  (convert 43 9 (.slice (some ⟨w.heap.size, p, none⟩) n cap)).run Tryd.prog (w.alloc (.cells arr 89)) = .ok (.string ⟨acc.toArray⟩) (w.alloc (.cells arr 89)) := by
 subst hn
 refine run_convert_bytes_back _ 43 9 5 _ cap acc Tryd.underlying43 Tryd.underlying5 Tryd.underlying9 fun j hj => ?_
 have : (⟨w.heap.size, p, none⟩ : Addr).add j = ⟨w.heap.size, p + j, none⟩ := by
  unfold Addr.add
  split
  ·
   rename_i e; subst e; rfl
  ·
   rfl
 rw [this]
 exact cell_arr w arr 89 (p + j) _ (h j hj)
theorem slice_arr (B p : Nat) (hp : p < 20) (w : World) : (Instr.sliceAt 89 (.pointer (some ⟨B, 0, none⟩)) (some (.int .i64 (p : Int))) none none).run Tryd.prog w = .ok (.slice (some ⟨B, p, none⟩) (20 - p) (20 - p)) w := by
 have ht : Tryd.prog.underlying 89 = some (.array (Tryd.prog.arrayLen 89) (Tryd.prog.elem 89)) := by kernel_rfl
 have hl : Tryd.prog.arrayLen 89 = 20 := by kernel_rfl
 have he : Tryd.prog.elem 89 = 5 := by kernel_rfl
 have hs : (sizeOf 5).run Tryd.prog w = .ok 1 w := by kernel_rfl
 rw [run_sliceAt_array_l w 89 _ ht .i64 (p : Int) (by omega) (by rw [hl]; omega), hl, he, hs]
 simp only [Result.andThen, slicedAt, Int.toNat_natCast]
 rw [if_neg (by omega)]
 unfold Addr.add
 split
 ·
  rename_i e
  have : p = 0 := by omega
  subst this
  rfl
 ·
  simp
theorem zeros20 : ∀ i, i < 20 → ∃ v, (#[Value.int .u8 0, .int .u8 0, .int .u8 0, .int .u8 0, .int .u8 0, .int .u8 0, .int .u8 0, .int .u8 0, .int .u8 0, .int .u8 0, .int .u8 0, .int .u8 0, .int .u8 0, .int .u8 0, .int .u8 0, .int .u8 0, .int .u8 0, .int .u8 0, .int .u8 0, .int .u8 0])[i]? = some (.int .u8 v) := by
 intro i hi
 refine ⟨0, ?_⟩
 have : (#[Value.int .u8 0, .int .u8 0, .int .u8 0, .int .u8 0, .int .u8 0, .int .u8 0, .int .u8 0, .int .u8 0, .int .u8 0, .int .u8 0, .int .u8 0, .int .u8 0, .int .u8 0, .int .u8 0, .int .u8 0, .int .u8 0, .int .u8 0, .int .u8 0, .int .u8 0, .int .u8 0]) = Array.replicate 20 (.int .u8 0) := rfl
 rw [this, Array.getElem?_replicate, if_pos hi]
set_option maxHeartbeats 2000000 in
set_option maxRecDepth 100000 in
theorem loop_pos (n : Int) (U : Nat) (w : World) (hn : decide (n < 0) = false) (hU : n = (U : Int)) (hU20 : U < 10 ^ 20) (hU64 : IntKind.u64.wrap n = (U : Int)) (hU64' : (U : Int) ≤ 18446744073709551615) :
  Calls Tryd.prog 26 #[.int .i64 n] w fun e w' => e = .returned (.string ⟨(dec U).toArray⟩) ∧ Below w.heap.size w w' := by
 have HU := Aside0.mk hU
 clear hU
 have HU20 := Aside0.mk hU20
 clear hU20
 go_enter Tryd.func26, Tryd.ntmps26
 go_wp2
 go_loopg [3, 5, 6] 30 (fun kq v3 v5 v6 wr => ∃ (p m : Nat) (first : Bool) (acc : List UInt8) (arr : Array Value), v3 = .int .u64 (m : Int) ∧ v5 = .int .i64 (p : Int) ∧ v6 = .bool first ∧ wr = w.alloc (.cells arr 89) ∧ Aside0 (IntLoop U p m first acc arr) ∧ Aside0 (p < kq) ∧ (m : Int) ≤ 18446744073709551615)
 case atStart => exact ⟨20, U, true, [], _, by first | rfl | simp [hU64], rfl, rfl, rfl, ⟨IntLoop.start U HU20.out _ rfl zeros20⟩, ⟨by omega⟩, hU64'⟩
 case round =>
  obtain ⟨p, m, first, acc, arr, rfl, rfl, rfl, rfl, HL, HK, hmm⟩ := hrel
  by_cases hgo : first = true ∨ 0 < m
  ·
   have hp := HL.out.pos hgo
   obtain ⟨q, rfl⟩ : ∃ q, p = q + 1 := ⟨p - 1, by omega⟩
   have hp20 := HL.out.hp
   obtain ⟨ov, hov⟩ := HL.out.hold q (by omega)
   have hcell := cell_arr w arr 89 q _ hov
   have hfz := frozen_arr w arr 89 q
   clear hov
   have HR := Aside0.mk (HL.out.round hgo)
   clear HL
   have HG := Aside0.mk hgo
   clear hgo
   cases first with
   | true =>
    go_wp2
    go_roundg (gk - 1)
    case measure => have := HK.out; omega
    case rel => exact ⟨q, m / 10, false, _, _, by go_num, by go_num, rfl, rfl, HR, ⟨by have := HK.out; omega⟩, by omega⟩
   | false =>
    have hm : decide (0 < (m : Int)) = true := by rcases HG.out with h | h; cases h; simpa using h
    have hm2 : decide (0 < m) = true := by simpa using hm
    go_wp2
    go_roundg (gk - 1)
    case measure => have := HK.out; omega
    case rel => exact ⟨q, m / 10, false, _, _, by go_num, by go_num, rfl, rfl, HR, ⟨by have := HK.out; omega⟩, by omega⟩
  ·
   obtain ⟨rfl, rfl⟩ : first = false ∧ m = 0 := by
    refine ⟨?_, by omega⟩
    cases first
    ·
     rfl
    ·
     exact absurd (.inl rfl) hgo
   clear hgo
   have hst := string_tail w arr p acc HL.out.hcell (20 - p) (20 - p) HL.out.hacc.symm
   have he := HL.out.exit
   have hp20 := HL.out.hp
   subst he
   have hsl := slice_arr w.heap.size p HL.out.lt
   clear HL
   go_wp2
   go_ret
   exact ⟨rfl, (Below.refl _ _).alloc (Nat.le_refl _) _⟩
set_option maxHeartbeats 2000000 in
set_option maxRecDepth 100000 in
theorem loop_neg (n : Int) (U : Nat) (w : World) (hn : decide (n < 0) = true) (hU : -n = (U : Int)) (hU20 : U < 10 ^ 20) (M : Int) (hM : IntKind.u64.wrap n = M) (hU64 : IntKind.u64.wrap (-M) = (U : Int)) (hU64' : (U : Int) ≤ 18446744073709551615) :
  Calls Tryd.prog 26 #[.int .i64 n] w fun e w' => e = .returned (.string ⟨(45 :: dec U).toArray⟩) ∧ Below w.heap.size w w' := by
 have HU := Aside0.mk hU
 clear hU
 have HU20 := Aside0.mk hU20
 clear hU20
 go_enter Tryd.func26, Tryd.ntmps26
 go_wp2
 go_loopg [3, 5, 6] 30 (fun kq v3 v5 v6 wr => ∃ (p m : Nat) (first : Bool) (acc : List UInt8) (arr : Array Value), v3 = .int .u64 (m : Int) ∧ v5 = .int .i64 (p : Int) ∧ v6 = .bool first ∧ wr = w.alloc (.cells arr 89) ∧ Aside0 (IntLoop U p m first acc arr) ∧ Aside0 (p < kq) ∧ (m : Int) ≤ 18446744073709551615)
 case atStart => exact ⟨20, U, true, [], _, by first | rfl | simp [hU64], rfl, rfl, rfl, ⟨IntLoop.start U HU20.out _ rfl zeros20⟩, ⟨by omega⟩, hU64'⟩
 case round =>
  obtain ⟨p, m, first, acc, arr, rfl, rfl, rfl, rfl, HL, HK, hmm⟩ := hrel
  by_cases hgo : first = true ∨ 0 < m
  ·
   have hp := HL.out.pos hgo
   obtain ⟨q, rfl⟩ : ∃ q, p = q + 1 := ⟨p - 1, by omega⟩
   have hp20 := HL.out.hp
   obtain ⟨ov, hov⟩ := HL.out.hold q (by omega)
   have hcell := cell_arr w arr 89 q _ hov
   have hfz := frozen_arr w arr 89 q
   clear hov
   have HR := Aside0.mk (HL.out.round hgo)
   clear HL
   have HG := Aside0.mk hgo
   clear hgo
   cases first with
   | true =>
    go_wp2
    go_roundg (gk - 1)
    case measure => have := HK.out; omega
    case rel => exact ⟨q, m / 10, false, _, _, by go_num, by go_num, rfl, rfl, HR, ⟨by have := HK.out; omega⟩, by omega⟩
   | false =>
    have hm : decide (0 < (m : Int)) = true := by rcases HG.out with h | h; cases h; simpa using h
    have hm2 : decide (0 < m) = true := by simpa using hm
    go_wp2
    go_roundg (gk - 1)
    case measure => have := HK.out; omega
    case rel => exact ⟨q, m / 10, false, _, _, by go_num, by go_num, rfl, rfl, HR, ⟨by have := HK.out; omega⟩, by omega⟩
  ·
   obtain ⟨rfl, rfl⟩ : first = false ∧ m = 0 := by
    refine ⟨?_, by omega⟩
    cases first
    ·
     rfl
    ·
     exact absurd (.inl rfl) hgo
   clear hgo
   have hst := string_tail w arr p acc HL.out.hcell (20 - p) (20 - p) HL.out.hacc.symm
   have he := HL.out.exit
   have hp20 := HL.out.hp
   subst he
   have hsl := slice_arr w.heap.size p HL.out.lt
   clear HL
   have hdl := dec_length U
   go_wp2
   go_ret
   exact ⟨by first | rfl | (congr 2), (Below.refl _ _).alloc (Nat.le_refl _) _⟩
theorem num_IntText.calls (a0 : Int) (r : ByteArray) (w : World) (h : num_IntText.f a0 = some r) :
  Calls Tryd.prog 26 #[.int .i64 a0] w fun e w' => e = .returned (.string r) ∧ Below w.heap.size w w' := by
 unfold num_IntText.f at h
 split at h
 ·
  rename_i hb
  cases h
  unfold intText
  by_cases hn : a0 < 0
  ·
   rw [if_pos hn]
   refine loop_neg a0 (-a0).toNat w (decide_eq_true hn) (by omega) (by omega) (a0 + 18446744073709551616) ?_ ?_ (by omega)
   ·
    unfold IntKind.wrap; simp [IntKind.bits, IntKind.signed]; omega
   ·
    unfold IntKind.wrap; simp [IntKind.bits, IntKind.signed]; omega
  ·
   rw [if_neg hn]
   refine loop_pos a0 a0.toNat w (decide_eq_false hn) (by omega) (by omega) ?_ (by omega)
   unfold IntKind.wrap; simp [IntKind.bits, IntKind.signed]; omega
 ·
  cases h
end Go.Proofs.YtjlnfnfdibfniaaDoor.Hd
namespace Go.Proofs.YtjlnfnfdibfniaaDoor.F
open Go.RowKit Go.Proofs.YW.PWords Go.Proofs.YW.PLast Go.Proofs.YW.PMore
attribute [local go_sem] max2_int min2_int max_two min_two max_three min_three max_four min_four
set_option linter.unusedVariables false
set_option linter.unusedSimpArgs false
set_option maxRecDepth 100000
def num_scientific.j0 : Nat → Int → ByteArray → Option (ByteArray)
 | 0, _, _ => none
 | k + 1, x1, x5 => if x5.size + 1 ≤ 9223372036854775807 then ((some (x5 ++ (⟨#[101]⟩ : ByteArray) : ByteArray)).bind fun y477 => (if x1 < 0 then (if y477.size + 1 ≤ 9223372036854775807 then ((some (y477 ++ (⟨#[45]⟩ : ByteArray) : ByteArray)).bind fun y478 => (if (wrap64 (-x1)) < 10 then (if y478.size + 1 ≤ 9223372036854775807 then ((some (y478 ++ (⟨#[48]⟩ : ByteArray) : ByteArray)).bind fun y479 => ((Hd.num_IntText.f (wrap64 (-x1))).bind fun t480 => (if y479.size + t480.size ≤ 9223372036854775807 then (some (y479 ++ t480)) else (none)))) else (none)) else ((Hd.num_IntText.f (wrap64 (-x1))).bind fun t482 => (if y478.size + t482.size ≤ 9223372036854775807 then (some (y478 ++ t482)) else (none))))) else (none)) else (if y477.size + 1 ≤ 9223372036854775807 then ((some (y477 ++ (⟨#[43]⟩ : ByteArray) : ByteArray)).bind fun y484 => (if x1 < 10 then (if y484.size + 1 ≤ 9223372036854775807 then ((some (y484 ++ (⟨#[48]⟩ : ByteArray) : ByteArray)).bind fun y485 => ((Hd.num_IntText.f x1).bind fun t486 => (if y485.size + t486.size ≤ 9223372036854775807 then (some (y485 ++ t486)) else (none)))) else (none)) else ((Hd.num_IntText.f x1).bind fun t488 => (if y484.size + t488.size ≤ 9223372036854775807 then (some (y484 ++ t488)) else (none))))) else (none)))) else (none)
def num_scientific.f (k : Nat) (a0 : ByteArray) (a1 : Int) : Option (ByteArray) := if 0 ≤ 1 then (if 1 ≤ (a0.size : Int) then ((some (a0.extract 0 1 : ByteArray)).bind fun y473 => (if (a0.size : Int) > 1 then ((some (a0.extract 1 a0.size : ByteArray)).bind fun y474 => (if 1 + y474.size ≤ 9223372036854775807 then ((some ((⟨#[46]⟩ : ByteArray) ++ y474 : ByteArray)).bind fun y475 => (if y473.size + y475.size ≤ 9223372036854775807 then (num_scientific.j0 k a1 (y473 ++ y475)) else (none))) else (none))) else (num_scientific.j0 k a1 y473))) else (none)) else (none)
theorem num_scientific.mono_l : ∀ k, (∀ y0 y1, LeO (num_scientific.j0 k y0 y1) (num_scientific.j0 (k + 1) y0 y1))
 | 0 => fun _ _ r h => by simp [num_scientific.j0] at h
 | k + 1 => by
  have ih0 := num_scientific.mono_l k
  ·
   intro y0 y1
   unfold num_scientific.j0
   repeat' (with_reducible first | apply ih0 | apply LeO.refl | apply LeO.none | apply LeO.ite | refine LeO.bind ?_ (fun _ => ?_))
theorem num_scientific.mono : ∀ a0 a1 k, LeO (num_scientific.f k a0 a1) (num_scientific.f (k + 1) a0 a1) := by
 intro a0 a1 k
 have ih0 := num_scientific.mono_l k
 unfold num_scientific.f
 repeat' (with_reducible first | apply ih0 | apply LeO.refl | apply LeO.none | apply LeO.ite | refine LeO.bind ?_ (fun _ => ?_))
set_option maxHeartbeats 8000000 in
theorem num_scientific.calls (k : Nat) (a0 : ByteArray) (a1 : Int) (r : ByteArray) (w : World) (h : num_scientific.f k a0 a1 = some r) :
  Calls Tryd.prog 61 #[.string a0, .int .i64 a1] w fun e w' => e = .returned (.string r) ∧ Below w.heap.size w w' := by
 have HB := am (Below.refl w.heap.size w)
 have H : (if 0 ≤ 1 then (if 1 ≤ (a0.size : Int) then ((some (a0.extract 0 1 : ByteArray)).bind fun y473 => (if (a0.size : Int) > 1 then ((some (a0.extract 1 a0.size : ByteArray)).bind fun y474 => (if 1 + y474.size ≤ 9223372036854775807 then ((some ((⟨#[46]⟩ : ByteArray) ++ y474 : ByteArray)).bind fun y475 => (if y473.size + y475.size ≤ 9223372036854775807 then (num_scientific.j0 k a1 (y473 ++ y475)) else (none))) else (none))) else (num_scientific.j0 k a1 y473))) else (none)) else (none)) = some r := h
 clear h
 by_cases c3 : 0 ≤ 1
 ·
  rw [if_pos c3] at H
  have c3b0 := eq_true c3
  have c3b1 := dt c3
  clear c3
  by_cases c4 : 1 ≤ (a0.size : Int)
  ·
   rw [if_pos c4] at H
   have c4b0 := eq_true c4
   have c4b1 := dt c4
   clear c4
   obtain ⟨y473, Ny473, H⟩ := yb H
   have HC5 := am H
   clear H
   have hcs6 := Hd.str_to (P := Tryd.prog) (k := .i64) Tryd.underlying9 (j := 1) (s := a0) (y := y473) oo oo Ny473.out
   go_enter Tryd.func61, Tryd.ntmps61
   go_upto_if 10 with (fail)
   go_cut [5] (fun v5 wc => ∃ (kq : Nat) (x5_4 : ByteArray), v5 = .string x5_4 ∧ Aside0 (num_scientific.j0 kq a1 x5_4 = some r) ∧ Aside0 (kq ≤ k) ∧ Aside0 (Below w.heap.size w wc))
   case first =>
    have H := HC5.out
    clear HC5
    by_cases c7 : (a0.size : Int) > 1
    ·
     rw [if_pos c7] at H
     have c7b0 : decide (1 < (a0.size : Int)) = true := dt c7
     have c7b1 : decide (1 < a0.size) = true := dt (by omega)
     clear c7
     (first | rw [c7b0] | (simp only [i64_w, i32_w]; rw [c7b0]) | skip)
     have c8b0 := eq_true (od : 1 ≤ (a0.size : Int))
     obtain ⟨y474, Ny474, H⟩ := yb H
     by_cases c9 : 1 + y474.size ≤ 9223372036854775807
     ·
      rw [if_pos c9] at H
      have c9b0 := eq_true c9
      have c9b1 := dt c9
      obtain ⟨y475, Ny475, H⟩ := yb H
      by_cases c10 : y473.size + y475.size ≤ 9223372036854775807
      ·
       rw [if_pos c10] at H
       have c10b0 := eq_true c10
       have c10b1 := dt c10
       obtain ⟨y476, hy476⟩ : ∃ y_ : ByteArray, y_ = (y473 ++ y475) := ⟨_, rfl⟩
       replace H : (num_scientific.j0 k a1 y476) = some r := by first | (rw [hy476]; exact H) | exact H
       have Ny476 := am hy476
       clear hy476
       have H' := am H
       clear H
       have hcs11 := Hd.str_from (P := Tryd.prog) (k := .i64) Tryd.underlying9 (i := 1) (s := a0) (y := y474) oo oo Ny474.out
       obtain ⟨hcs12, hcs12'⟩ := sc Ny475
       obtain ⟨hcs13, hcs13'⟩ := sc Ny476
       go_wp2
       go_meet
       case rel => exact ⟨_, (y476), eqd, H', ol, ⟨lk HB⟩⟩
      rw [if_neg c10] at H
      exact absurd H (by simp)
     rw [if_neg c9] at H
     exact absurd H (by simp)
    rw [if_neg c7] at H
    have c7b0 : decide (1 < (a0.size : Int)) = false := decide_eq_false c7
    have c7b1 : decide (1 < a0.size) = false := decide_eq_false (by omega)
    clear c7
    (first | rw [c7b0] | (simp only [i64_w, i32_w]; rw [c7b0]) | skip)
    have H' := am H
    clear H
    go_wp2
    go_meet
    case rel => exact ⟨_, (y473), eqd, H', ol, ⟨lk HB⟩⟩
   case rest =>
    clear HC5
    obtain ⟨kq, x5_4, rfl, HA, HJ4, HB⟩ := hcut
    cases kq with
    | zero => exact absurd HA.out (by simp [num_scientific.j0])
    | succ kj4 =>
     have H := HA.out
     clear HA
     simp only [num_scientific.j0] at H
     by_cases c14 : x5_4.size + 1 ≤ 9223372036854775807
     ·
      rw [if_pos c14] at H
      have c14b0 := eq_true c14
      have c14b1 := dt c14
      obtain ⟨y477, Ny477, H⟩ := yb H
      by_cases c15 : a1 < 0
      ·
       rw [if_pos c15] at H
       have c15b0 := dt c15
       clear c15
       by_cases c16 : y477.size + 1 ≤ 9223372036854775807
       ·
        rw [if_pos c16] at H
        have c16b0 := eq_true c16
        have c16b1 := dt c16
        obtain ⟨y478, Ny478, H⟩ := yb H
        by_cases c17 : (wrap64 (-a1)) < 10
        ·
         rw [if_pos c17] at H
         have c17b0 := dt c17
         clear c17
         by_cases c18 : y478.size + 1 ≤ 9223372036854775807
         ·
          rw [if_pos c18] at H
          have c18b0 := eq_true c18
          have c18b1 := dt c18
          obtain ⟨y479, Ny479, H⟩ := yb H
          replace H := bm H
          obtain ⟨t480, A190, H⟩ := H
          have A19 := am A190
          clear A190
          by_cases c20 : y479.size + t480.size ≤ 9223372036854775807
          ·
           rw [if_pos c20] at H
           have c20b0 := eq_true c20
           have c20b1 := dt c20
           obtain ⟨y481, hy481⟩ : ∃ y_ : ByteArray, y_ = (y479 ++ t480) := ⟨_, rfl⟩
           replace H : (some y481) = some r := by first | (rw [hy481]; exact H) | exact H
           have Ny481 := am hy481
           clear hy481
           obtain rfl := Option.some.inj H
           obtain ⟨hcs21, hcs21'⟩ := sc Ny477
           obtain ⟨hcs22, hcs22'⟩ := sc Ny478
           obtain ⟨hcs23, hcs23'⟩ := sc Ny479
           go_wp2_with (first | (refine gL (some 32) Tryd.func26 #[.int .i64 (wrap64 (-a1))] ?_; (with_reducible refine (Hd.num_IntText.calls (wrap64 (-a1)) t480 _ A19.out).mono ?_); rintro e w24 ⟨rfl, hb⟩; refine ⟨_, rfl, ?_⟩; replace HB := lb HB hb; obtain ⟨hcs25, hcs25'⟩ := sc Ny481))
           go_ret
           exact ex (lk HB)
          rw [if_neg c20] at H
          exact absurd H (by simp)
         rw [if_neg c18] at H
         exact absurd H (by simp)
        rw [if_neg c17] at H
        have c17b0 := decide_eq_false c17
        clear c17
        replace H := bm H
        obtain ⟨t482, A260, H⟩ := H
        have A26 := am A260
        clear A260
        by_cases c27 : y478.size + t482.size ≤ 9223372036854775807
        ·
         rw [if_pos c27] at H
         have c27b0 := eq_true c27
         have c27b1 := dt c27
         obtain ⟨y483, hy483⟩ : ∃ y_ : ByteArray, y_ = (y478 ++ t482) := ⟨_, rfl⟩
         replace H : (some y483) = some r := by first | (rw [hy483]; exact H) | exact H
         have Ny483 := am hy483
         clear hy483
         obtain rfl := Option.some.inj H
         obtain ⟨hcs28, hcs28'⟩ := sc Ny477
         obtain ⟨hcs29, hcs29'⟩ := sc Ny478
         go_wp2_with (first | (refine gL (some 32) Tryd.func26 #[.int .i64 (wrap64 (-a1))] ?_; (with_reducible refine (Hd.num_IntText.calls (wrap64 (-a1)) t482 _ A26.out).mono ?_); rintro e w30 ⟨rfl, hb⟩; refine ⟨_, rfl, ?_⟩; replace HB := lb HB hb; obtain ⟨hcs31, hcs31'⟩ := sc Ny483))
         go_ret
         exact ex (lk HB)
        rw [if_neg c27] at H
        exact absurd H (by simp)
       rw [if_neg c16] at H
       exact absurd H (by simp)
      rw [if_neg c15] at H
      have c15b0 := decide_eq_false c15
      clear c15
      by_cases c32 : y477.size + 1 ≤ 9223372036854775807
      ·
       rw [if_pos c32] at H
       have c32b0 := eq_true c32
       have c32b1 := dt c32
       obtain ⟨y484, Ny484, H⟩ := yb H
       by_cases c33 : a1 < 10
       ·
        rw [if_pos c33] at H
        have c33b0 := dt c33
        clear c33
        by_cases c34 : y484.size + 1 ≤ 9223372036854775807
        ·
         rw [if_pos c34] at H
         have c34b0 := eq_true c34
         have c34b1 := dt c34
         obtain ⟨y485, Ny485, H⟩ := yb H
         replace H := bm H
         obtain ⟨t486, A350, H⟩ := H
         have A35 := am A350
         clear A350
         by_cases c36 : y485.size + t486.size ≤ 9223372036854775807
         ·
          rw [if_pos c36] at H
          have c36b0 := eq_true c36
          have c36b1 := dt c36
          obtain ⟨y487, hy487⟩ : ∃ y_ : ByteArray, y_ = (y485 ++ t486) := ⟨_, rfl⟩
          replace H : (some y487) = some r := by first | (rw [hy487]; exact H) | exact H
          have Ny487 := am hy487
          clear hy487
          obtain rfl := Option.some.inj H
          obtain ⟨hcs37, hcs37'⟩ := sc Ny477
          obtain ⟨hcs38, hcs38'⟩ := sc Ny484
          obtain ⟨hcs39, hcs39'⟩ := sc Ny485
          go_wp2_with (first | (refine gL (some 32) Tryd.func26 #[.int .i64 a1] ?_; (with_reducible refine (Hd.num_IntText.calls a1 t486 _ A35.out).mono ?_); rintro e w40 ⟨rfl, hb⟩; refine ⟨_, rfl, ?_⟩; replace HB := lb HB hb; obtain ⟨hcs41, hcs41'⟩ := sc Ny487))
          go_ret
          exact ex (lk HB)
         rw [if_neg c36] at H
         exact absurd H (by simp)
        rw [if_neg c34] at H
        exact absurd H (by simp)
       rw [if_neg c33] at H
       have c33b0 := decide_eq_false c33
       clear c33
       replace H := bm H
       obtain ⟨t488, A420, H⟩ := H
       have A42 := am A420
       clear A420
       by_cases c43 : y484.size + t488.size ≤ 9223372036854775807
       ·
        rw [if_pos c43] at H
        have c43b0 := eq_true c43
        have c43b1 := dt c43
        obtain ⟨y489, hy489⟩ : ∃ y_ : ByteArray, y_ = (y484 ++ t488) := ⟨_, rfl⟩
        replace H : (some y489) = some r := by first | (rw [hy489]; exact H) | exact H
        have Ny489 := am hy489
        clear hy489
        obtain rfl := Option.some.inj H
        obtain ⟨hcs44, hcs44'⟩ := sc Ny477
        obtain ⟨hcs45, hcs45'⟩ := sc Ny484
        go_wp2_with (first | (refine gL (some 32) Tryd.func26 #[.int .i64 a1] ?_; (with_reducible refine (Hd.num_IntText.calls a1 t488 _ A42.out).mono ?_); rintro e w46 ⟨rfl, hb⟩; refine ⟨_, rfl, ?_⟩; replace HB := lb HB hb; obtain ⟨hcs47, hcs47'⟩ := sc Ny489))
        go_ret
        exact ex (lk HB)
       rw [if_neg c43] at H
       exact absurd H (by simp)
      rw [if_neg c32] at H
      exact absurd H (by simp)
     rw [if_neg c14] at H
     exact absurd H (by simp)
  rw [if_neg c4] at H
  exact absurd H (by simp)
 rw [if_neg c3] at H
 exact absurd H (by simp)
mutual
def num_DurationText.j0 : Nat → Int → ByteArray → Option (ByteArray)
 | 0, _, _ => none
 | k + 1, x3, x4 => (num_units.f).bind fun t609 => (num_DurationText.l0 k x3 x4 t609 (t609.length : Int) 0)
def num_DurationText.l0 : Nat → Int → ByteArray → List (S98) → Int → Int → Option (ByteArray)
 | 0, _, _, _, _, _ => none
 | k + 1, x3, x4, x16, x17, x18 => if x18 < x17 then (if 0 ≤ x18 then (if x18 < (x16.length : Int) then (if (IntKind.u64.wrap ((rd_T98 x16 x18).f1)) = 0 then (none) else (if (IntKind.u64.wrap (Int.tdiv x3 (IntKind.u64.wrap ((rd_T98 x16 x18).f1)))) > 0 then ((Hd.num_IntText.f (wrap64 (IntKind.u64.wrap (Int.tdiv x3 (IntKind.u64.wrap ((rd_T98 x16 x18).f1)))))).bind fun t614 => (if t614.size + ((rd_T98 x16 x18).f0).size ≤ 9223372036854775807 then ((some (t614 ++ ((rd_T98 x16 x18).f0) : ByteArray)).bind fun y615 => (if x4.size + y615.size ≤ 9223372036854775807 then (num_DurationText.l0 k (Int.tmod x3 (IntKind.u64.wrap ((rd_T98 x16 x18).f1))) (x4 ++ y615) x16 x17 (wrap64 (x18 + 1))) else (none))) else (none))) else (num_DurationText.l0 k x3 x4 x16 x17 (wrap64 (x18 + 1))))) else (none)) else (none)) else (some x4)
end
def num_DurationText.f (k : Nat) (a0 : Int) : Option (ByteArray) := if a0 = 0 then (some (⟨#[48, 115]⟩ : ByteArray)) else (if a0 < 0 then (num_DurationText.j0 k (IntKind.u64.wrap (-(IntKind.u64.wrap (a0)))) (⟨#[45]⟩ : ByteArray)) else (num_DurationText.j0 k (IntKind.u64.wrap (a0)) (⟨#[]⟩ : ByteArray)))
theorem num_DurationText.mono_l : ∀ k, (∀ y0 y1, LeO (num_DurationText.j0 k y0 y1) (num_DurationText.j0 (k + 1) y0 y1)) ∧ (∀ y0 y1 y2 y3 y4, LeO (num_DurationText.l0 k y0 y1 y2 y3 y4) (num_DurationText.l0 (k + 1) y0 y1 y2 y3 y4))
 | 0 => ⟨fun _ _ r h => by simp [num_DurationText.j0] at h, fun _ _ _ _ _ r h => by simp [num_DurationText.l0] at h⟩
 | k + 1 => by
  obtain ⟨ih0, ih1⟩ := num_DurationText.mono_l k
  refine ⟨?_, ?_⟩ <;> intros <;> (first | unfold num_DurationText.j0 | unfold num_DurationText.l0) <;> repeat' (with_reducible first | apply ih0 | apply ih1 | apply LeO.refl | apply LeO.none | apply LeO.ite | refine LeO.bind ?_ (fun _ => ?_))
theorem num_DurationText.mono : ∀ a0 k, LeO (num_DurationText.f k a0) (num_DurationText.f (k + 1) a0) := by
 intro a0 k
 obtain ⟨ih0, ih1⟩ := num_DurationText.mono_l k
 unfold num_DurationText.f
 repeat' (with_reducible first | apply ih0 | apply ih1 | apply LeO.refl | apply LeO.none | apply LeO.ite | refine LeO.bind ?_ (fun _ => ?_))
def num_DurationText.T11 : Bool × List (List Nat × List Nat) := (true, [([], []), ([], []), ([1], [1]), ([2], [2]), ([], []), ([4], [4]), ([3, 5], [3, 5]), ([0, 6], [0, 6]), ([7, 3, 0, 1, 2, 3, 4, 5, 6, 7], [0, 7])])
def num_DurationText.B11 : List Nat := [0, 0, 2, 6, 0, 16, 62, 127, 255]
theorem num_DurationText.tab11 : rtab .any (opsOf Tryd.f38 11) = num_DurationText.T11 := by kernel_rfl
theorem num_DurationText.bits11 : waitsOk num_DurationText.T11.2 num_DurationText.B11 = true := by kernel_rfl
set_option maxHeartbeats 8000000 in
theorem num_DurationText.calls (k : Nat) (a0 : Int) (r : ByteArray) (w : World) (h : num_DurationText.f k a0 = some r) :
  Calls Tryd.prog 38 #[.int .i64 a0] w fun e w' => e = .returned (.string r) ∧ Below w.heap.size w w' := by
 have hu98 := Tryd.underlying98
 have HB := am (Below.refl w.heap.size w)
 have H : (if a0 = 0 then (some (⟨#[48, 115]⟩ : ByteArray)) else (if a0 < 0 then (num_DurationText.j0 k (IntKind.u64.wrap (-(IntKind.u64.wrap (a0)))) (⟨#[45]⟩ : ByteArray)) else (num_DurationText.j0 k (IntKind.u64.wrap (a0)) (⟨#[]⟩ : ByteArray)))) = some r := h
 clear h
 by_cases c2 : a0 = 0
 ·
  rw [if_pos c2] at H
  have c2b0 : (a0 == 0) = true := beq_iff_eq.mpr c2
  have c2b1 : (a0 != 0) = false := bne_eq_false_iff_eq.mpr c2
  clear c2
  obtain rfl := Option.some.inj H
  go_enter Tryd.func38, Tryd.ntmps38
  go_wp2
  go_ret
  exact ex (lk HB)
 rw [if_neg c2] at H
 have c2b0 : (a0 == 0) = false := beq_eq_false_iff_ne.mpr c2
 have c2b1 : (a0 != 0) = true := bne_iff_ne.mpr c2
 have HC3 := am H
 clear H
 go_enter Tryd.func38, Tryd.ntmps38
 go_upto_if 13 with (fail)
 go_cut [3, 4] (fun v3 v4 wc => ∃ (kq : Nat) (x3_2 : Int) (x4_2 : ByteArray), v3 = .int .u64 x3_2 ∧ v4 = .string x4_2 ∧ Aside0 (num_DurationText.j0 kq x3_2 x4_2 = some r) ∧ Aside0 (kq ≤ k) ∧ Aside0 (Below w.heap.size w wc))
 case first =>
  have H := HC3.out
  clear HC3
  by_cases c4 : a0 < 0
  ·
   rw [if_pos c4] at H
   have c4b0 := dt c4
   clear c4
   (first | rw [c4b0] | (simp only [i64_w, i32_w]; rw [c4b0]) | skip)
   have H' := am H
   clear H
   go_wp2
   go_meet
   case rel => exact ⟨_, (IntKind.u64.wrap (-(IntKind.u64.wrap (a0)))), ((⟨#[45]⟩ : ByteArray)), eqd, eqd, H', ol, ⟨lk HB⟩⟩
  rw [if_neg c4] at H
  have c4b0 := decide_eq_false c4
  clear c4
  (first | rw [c4b0] | (simp only [i64_w, i32_w]; rw [c4b0]) | skip)
  have H' := am H
  clear H
  go_wp2
  go_meet
  case rel => exact ⟨_, (IntKind.u64.wrap (a0)), ((⟨#[]⟩ : ByteArray)), eqd, eqd, H', ol, ⟨lk HB⟩⟩
 case rest =>
  clear HC3
  obtain ⟨kq, x3_2, x4_2, rfl, rfl, HA, HJ2, HB⟩ := hcut
  cases kq with
  | zero => exact absurd HA.out (by simp [num_DurationText.j0])
  | succ kj2 =>
   have H := HA.out
   clear HA
   simp only [num_DurationText.j0] at H
   replace H := bm H
   obtain ⟨t609, A50, H⟩ := H
   have A5 := am A50
   clear A50
   have H' := am H
   clear H
   go_wp2_with (first | (refine gL (some 16) Tryd.func77 #[] ?_; (with_reducible refine (num_units.calls  t609 _ A5.out).mono ?_); rintro e w6 ⟨v610, rfl, ho0, hb⟩; refine ⟨_, rfl, ?_⟩; have HO611 := am (Kd.R_lower ho0 (below_size (lk HB))); replace HB := lb HB hb; obtain ⟨Ao7, co7, eo7⟩ := Kd.R_slice HO611.out; subst eo7))
   go_loopg [3, 4, 18] kj2 (fun kq v3 v4 v18 w' => ∃ (x3_2 : Int) (x4_2 : ByteArray) (x18_2 : Int), v3 = .int .u64 x3_2 ∧ v4 = .string x4_2 ∧ v18 = .int .i64 x18_2 ∧ Aside0 (num_DurationText.l0 kq x3_2 x4_2 t609 (t609.length : Int) x18_2 = some r) ∧ Aside0 (kq ≤ kj2) ∧ Aside0 (Kd.R k98 98 w' w.heap.size (fun _ => True) (.slice Ao7 t609.length co7) t609) ∧ Aside0 (Below w.heap.size w w'))
   case atStart => exact ⟨(x3_2), (x4_2), (0), eqd, eqd, eqd, H', ⟨Nat.le_refl _⟩, ⟨rk HO611⟩, ⟨lk HB⟩⟩
   case round =>
    clear H'
    obtain ⟨x3_2, x4_2, x18_2, rfl, rfl, rfl, HA, HK2, HO_16, HB⟩ := hrel
    cases gk with
    | zero => exact absurd HA.out (by simp [num_DurationText.l0])
    | succ k2 =>
     have H := HA.out
     clear HA
     simp only [num_DurationText.l0] at H
     by_cases c8 : x18_2 < (t609.length : Int)
     ·
      rw [if_pos c8] at H
      have c8b0 := dt c8
      clear c8
      by_cases c9 : 0 ≤ x18_2
      ·
       rw [if_pos c9] at H
       have c9b0 := dt c9
       clear c9
       by_cases c10 : x18_2 < (t609.length : Int)
       ·
        rw [if_pos c10] at H
        have c10b0 := dt c10
        clear c10
        by_cases c11 : (IntKind.u64.wrap ((rd_T98 t609 x18_2).f1)) = 0
        ·
         rw [if_pos c11] at H
         exact absurd H (by simp)
        rw [if_neg c11] at H
        have c11b0 : ((IntKind.u64.wrap ((rd_T98 t609 x18_2).f1)) == 0) = false := beq_eq_false_iff_ne.mpr c11
        have c11b1 : ((IntKind.u64.wrap ((rd_T98 t609 x18_2).f1)) != 0) = true := bne_iff_ne.mpr c11
        by_cases c12 : (IntKind.u64.wrap (Int.tdiv x3_2 (IntKind.u64.wrap ((rd_T98 t609 x18_2).f1)))) > 0
        ·
         rw [if_pos c12] at H
         have c12b0 : decide (0 < (IntKind.u64.wrap (Int.tdiv x3_2 (IntKind.u64.wrap ((rd_T98 t609 x18_2).f1))))) = true := dt c12
         clear c12
         replace H := bm H
         obtain ⟨t614, A130, H⟩ := H
         have A13 := am A130
         clear A130
         by_cases c14 : t614.size + ((rd_T98 t609 x18_2).f0).size ≤ 9223372036854775807
         ·
          rw [if_pos c14] at H
          have c14b0 := eq_true c14
          have c14b1 := dt c14
          obtain ⟨y615, Ny615, H⟩ := yb H
          by_cases c15 : x4_2.size + y615.size ≤ 9223372036854775807
          ·
           rw [if_pos c15] at H
           have c15b0 := eq_true c15
           have c15b1 := dt c15
           obtain ⟨y616, hy616⟩ : ∃ y_ : ByteArray, y_ = (x4_2 ++ y615) := ⟨_, rfl⟩
           replace H : (num_DurationText.l0 k2 (Int.tmod x3_2 (IntKind.u64.wrap ((rd_T98 t609 x18_2).f1))) y616 t609 (t609.length : Int) (wrap64 (x18_2 + 1))) = some r := by first | (rw [hy616]; exact H) | exact H
           have Ny616 := am hy616
           clear hy616
           have H' := am H
           clear H
           have p612 : 0 ≤ (x18_2 : Int) := od
           have q612 : x18_2 < (t609.length : Int) := od
           obtain ⟨ad612, e612, hx612_0, hx612_1⟩ := at_T98 (Kd.R_reads' HO_16.out).2.2 x18_2 p612 q612
           cases e612
           replace p612 := eq_true p612
           replace q612 := eq_true q612
           try go_wp2_with (first | ((with_reducible refine gate_dst (N := 6) rfl ?_); refine box_event ?hg (N := 6) ?hd (cs := #[.string (⟨#[]⟩ : ByteArray), .int .i64 0]) (t := 98) ?hr ?_; (case hd => rfl); (case hg => rfl); (case hr => first | (go_simp; done) | (go_simp; rfl)); intro gb613 hg w16 hbox hb; replace HO_16 := am (Kd.R_below (Kd.R_elderB (rk HO_16) gb613 (Nat.le_of_eq hg.symm)) hb); have BK613 := am (hbox); have GW613 := am ((by rw [hg]; exact (below_size (lk HB)) : w.heap.size ≤ gb613)); have GE613 := GW613; replace HB := lb HB hb; clear hb hbox hg; have hcz17_0 : w16.cell? ⟨gb613, 0, none⟩ = some (.string (⟨#[]⟩ : ByteArray)) := (blk_cell BK613.out 0).trans rfl; have hcz17_1 : w16.cell? ⟨gb613, 1, none⟩ = some (.int .i64 0) := (blk_cell BK613.out 1).trans rfl; have hfz17_0 := blk_frozen BK613.out 0; have hfz17_1 := blk_frozen BK613.out 1))
           (first | refine Hd.letter_ (fun w18 hw => ?_) | refine Hd.letterL_ (fun w18 hw => ?_) | refine Hd.letterE_ (fun w18 hw => ?_))
           have n0_ : Aside0 (Kd.R k98 98 w18 w.heap.size (fun k_ => k_ ≠ gb613) (.slice (some ad612) t609.length co7) t609) := ⟨by rw [hw]; exact (by exact ry <| Kd.R_mono (Kd.R_far (p := ⟨gb613, 1, none⟩) (Kd.R_far (p := ⟨gb613, 0, none⟩) (Kd.R_mono HO_16.out (fun k_ hk => (⟨hk, hk.2⟩ : _ ∧ k_ ≠ gb613))) (fun _ hk => hk.2) (.string ((rd_T98 t609 x18_2).f0))) (fun _ hk => hk.2) (.int .i64 ((rd_T98 t609 x18_2).f1))) (fun _ hk => hk.1.2))⟩
           have n1_ : Aside0 (w18.heap[gb613]? = some (.cells #[.string ((rd_T98 t609 x18_2).f0), .int .i64 ((rd_T98 t609 x18_2).f1)] 98 (0, 0))) := ⟨by rw [hw]; exact (by (with_reducible repeat (first | refine blk_drewN ?_ _ | refine blk_drew ?_ | refine blk_alloc ?_ _)); refine blk_put (cs := #[.string ((rd_T98 t609 x18_2).f0), .int .i64 0]) ?_ 1 _ rfl; (with_reducible repeat (first | refine blk_drewN ?_ _ | refine blk_drew ?_ | refine blk_alloc ?_ _)); refine blk_put (cs := #[.string (⟨#[]⟩ : ByteArray), .int .i64 0]) ?_ 0 _ rfl; exact bk BK613)⟩
           have n2_ : Aside0 (Below w.heap.size w w18) := ⟨by rw [hw]; exact (lk HB)⟩
           clear hw
           (try clear HO_16)
           (try clear BK613)
           (try clear HB)
           have HO_16 := n0_
           have BK613 := n1_
           have HB := n2_
           clear n0_ n1_ n2_
           have n0_ := am (Kd.R_drew HO_16.out)
           have n1_ := am (blk_drew BK613.out)
           have n2_ := am (below_drew1 HB.out)
           clear HO_16
           clear BK613
           clear HB
           have HO_16 := n0_
           have BK613 := n1_
           have HB := n2_
           clear n0_ n1_ n2_
           refine start_ (n := 9) (S := fun w' => w'.cell? ⟨gb613, 0, none⟩ = some (.string ((rd_T98 t609 x18_2).f0)) ∧ w'.cell? ⟨gb613, 1, none⟩ = some (.int .i64 ((rd_T98 t609 x18_2).f1))) (ds := []) #[false, false, false, false, false, false, false, false, false] (by kernel_rfl) rfl rfl ⟨(blk_cell BK613.out 0).trans rfl, (blk_cell BK613.out 1).trans rfl⟩ (fun hHeld => ?_); refine with_tabW num_DurationText.tab11 num_DurationText.bits11 (fun HT_ HW_ => ?_)
           generalize w18.drew = w19 at HO_16 BK613 HB hHeld ⊢
           refine pure_ (i := 0) (N := some 29) (v := ?_) (a' := ?_) #[true, false, false, false, false, false, false, false, false] rfl rfl (any_of HT_.out (by kernel_rfl)) (fun _ _ _ h => h) (Or.inl ⟨by rfl, ?_⟩) ?_ ?_
           rotate_left
           ·
            intro w'
            go_simp
            with_reducible rfl
           rotate_left
           ·
            exact pz
           refine pure_ (i := 1) (N := some 30) (v := ?_) (a' := ?_) #[true, true, false, false, false, false, false, false, false] rfl rfl (any_of HT_.out (by kernel_rfl)) (fun _ _ _ h => h) (Or.inl ⟨by rfl, ?_⟩) ?_ ?_
           rotate_left
           ·
            intro w'
            go_simp
            with_reducible rfl
           rotate_left
           ·
            exact pz
           refine pure_ (i := 2) (N := some 31) (v := ?_) (a' := ?_) #[true, true, true, false, false, false, false, false, false] rfl rfl (any_of HT_.out (by kernel_rfl)) (fun _ _ _ h => h) (Or.inl ⟨by rfl, ?_⟩) ?_ ?_
           rotate_left
           ·
            intro w'
            go_simp
            with_reducible rfl
           rotate_left
           ·
            exact pz
           refine pure_ (i := 4) (N := some 33) (v := ?_) (a' := ?_) #[true, true, true, false, true, false, false, false, false] rfl rfl (any_of HT_.out (by kernel_rfl)) (fun _ _ _ h => h) (Or.inl ⟨by rfl, ?_⟩) ?_ ?_
           rotate_left
           ·
            intro w'
            go_simp
            with_reducible rfl
           rotate_left
           ·
            exact pz
           refine take_ (i := 5) (N := some 34) (v := ?_) (a' := ?_) #[true, true, true, false, true, true, false, false, false] rfl rfl (take_ofW HT_.out HW_.out (by kernel_rfl)) (fun _ _ _ h => h) (Or.inl ⟨by rfl, ?_⟩) hHeld ?_ ?_
           rotate_left
           ·
            rintro w' ⟨s0, s1⟩
            go_simp
            with_reducible rfl
           rotate_left
           ·
            exact pz
           refine one_ (i := 3) (N := some 32) #[true, true, true, true, true, true, false, false, false] rfl rfl (one_of HT_.out (by kernel_rfl)) (by decide) (fun K hK => ?_)
           refine goes_ Tryd.func26 (by kernel_rfl) rfl #[.int .i64 (wrap64 (IntKind.u64.wrap (Int.tdiv x3_2 (IntKind.u64.wrap ((rd_T98 t609 x18_2).f1)))))] (by rfl) rfl rfl (by (try simp only [List.map_toArray, List.map_cons, List.map_nil]); first | done | rfl | (simp only [List.length_drop, List.length_take]; rfl) | (simp [Act.eval, Hd.wrap_u8]; done)) ?_
           with_reducible refine (Hd.num_IntText.calls (wrap64 (IntKind.u64.wrap (Int.tdiv x3_2 (IntKind.u64.wrap ((rd_T98 t609 x18_2).f1))))) t614 _ A13.out).mono ?_
           rintro e w20 ⟨rfl, hb⟩
           refine ⟨_, rfl, ?_⟩
           have n0_ := am (Kd.R_below (rk HO_16) hb)
           have n1_ := bb BK613 hb
           have n2_ := lb HB hb
           clear HO_16
           clear BK613
           clear HB
           have HO_16 := n0_
           have BK613 := n1_
           have HB := n2_
           clear n0_ n1_ n2_
           (try clear hb)
           (try clear hb2)
           (try clear hk)
           (try clear hi)
           obtain ⟨hcs21, hcs21'⟩ := sc Ny615
           obtain ⟨hcs22, hcs22'⟩ := sc Ny616
           refine hK.out _ _ ⟨(blk_cell BK613.out 0).trans rfl, (blk_cell BK613.out 1).trans rfl⟩ (fun hHeld => ?_)
           clear hK K
           refine norm_ (a' := ?_) ?_ ?_
           rotate_left
           ·
            show Act.put _ (some 32) _ = _
            exact pz
           refine pure_ (i := 6) (N := some 35) (v := ?_) (a' := ?_) #[true, true, true, true, true, true, true, false, false] rfl rfl (any_of HT_.out (by kernel_rfl)) (fun _ _ _ h => h) (Or.inl ⟨by rfl, ?_⟩) ?_ ?_
           rotate_left
           ·
            intro w'
            go_simp
            with_reducible rfl
           rotate_left
           ·
            exact pz
           refine pure_ (i := 7) (N := some 36) (v := ?_) (a' := ?_) #[true, true, true, true, true, true, true, true, false] rfl rfl (any_of HT_.out (by kernel_rfl)) (fun _ _ _ h => h) (Or.inl ⟨by rfl, ?_⟩) ?_ ?_
           rotate_left
           ·
            intro w'
            go_simp
            with_reducible rfl
           rotate_left
           ·
            exact pz
           refine pure_ (i := 8) (N := some 4) (v := ?_) (a' := ?_) #[true, true, true, true, true, true, true, true, true] rfl rfl (any_of HT_.out (by kernel_rfl)) (fun _ _ _ h => h) (Or.inl ⟨by rfl, ?_⟩) ?_ ?_
           rotate_left
           ·
            intro w'
            go_simp
            with_reducible rfl
           rotate_left
           ·
            exact pz
           refine done_ (done_of HT_.out (by kernel_rfl)) ?_
           have hcz23_0 : w20.cell? ⟨gb613, 0, none⟩ = some (.string ((rd_T98 t609 x18_2).f0)) := (blk_cell BK613.out 0).trans rfl
           have hcz23_1 : w20.cell? ⟨gb613, 1, none⟩ = some (.int .i64 ((rd_T98 t609 x18_2).f1)) := (blk_cell BK613.out 1).trans rfl
           have hfz23_0 := blk_frozen BK613.out 0
           have hfz23_1 := blk_frozen BK613.out 1
           try go_wp2
           go_roundg k2
           case measure => have := HJ2.out; have := HK2.out; omega
           case rel => exact ⟨(Int.tmod x3_2 (IntKind.u64.wrap ((rd_T98 t609 x18_2).f1))), (y616), (wrap64 (x18_2 + 1)), eqd, eqd, eqd, H', ⟨by have := HJ2.out; have := HK2.out; omega⟩, ⟨by exact ry <| Kd.R_mono HO_16.out (fun _ hk => trivial)⟩, ⟨lk HB⟩⟩
          rw [if_neg c15] at H
          exact absurd H (by simp)
         rw [if_neg c14] at H
         exact absurd H (by simp)
        rw [if_neg c12] at H
        have c12b0 : decide (0 < (IntKind.u64.wrap (Int.tdiv x3_2 (IntKind.u64.wrap ((rd_T98 t609 x18_2).f1))))) = false := decide_eq_false c12
        clear c12
        have H' := am H
        clear H
        have p612 : 0 ≤ (x18_2 : Int) := od
        have q612 : x18_2 < (t609.length : Int) := od
        obtain ⟨ad612, e612, hx612_0, hx612_1⟩ := at_T98 (Kd.R_reads' HO_16.out).2.2 x18_2 p612 q612
        cases e612
        replace p612 := eq_true p612
        replace q612 := eq_true q612
        go_wp2_with (first | ((with_reducible refine gate_dst (N := 6) rfl ?_); refine box_event ?hg (N := 6) ?hd (cs := #[.string (⟨#[]⟩ : ByteArray), .int .i64 0]) (t := 98) ?hr ?_; (case hd => rfl); (case hg => rfl); (case hr => first | (go_simp; done) | (go_simp; rfl)); intro gb613 hg w24 hbox hb; replace HO_16 := am (Kd.R_below (Kd.R_elderB (rk HO_16) gb613 (Nat.le_of_eq hg.symm)) hb); have BK613 := am (hbox); have GW613 := am ((by rw [hg]; exact (below_size (lk HB)) : w.heap.size ≤ gb613)); have GE613 := GW613; replace HB := lb HB hb; clear hb hbox hg; have hcz25_0 : w24.cell? ⟨gb613, 0, none⟩ = some (.string (⟨#[]⟩ : ByteArray)) := (blk_cell BK613.out 0).trans rfl; have hcz25_1 : w24.cell? ⟨gb613, 1, none⟩ = some (.int .i64 0) := (blk_cell BK613.out 1).trans rfl; have hfz25_0 := blk_frozen BK613.out 0; have hfz25_1 := blk_frozen BK613.out 1))
        go_roundg k2
        case measure => have := HJ2.out; have := HK2.out; omega
        case rel => exact ⟨(x3_2), (x4_2), (wrap64 (x18_2 + 1)), eqd, eqd, eqd, H', ⟨by have := HJ2.out; have := HK2.out; omega⟩, ⟨by exact ry <| Kd.R_mono (Kd.R_far (p := ⟨gb613, 1, none⟩) (Kd.R_far (p := ⟨gb613, 0, none⟩) (Kd.R_mono HO_16.out (fun k_ hk => (⟨hk, hk.2⟩ : _ ∧ k_ ≠ gb613))) (fun _ hk => hk.2) (.string ((rd_T98 t609 x18_2).f0))) (fun _ hk => hk.2) (.int .i64 ((rd_T98 t609 x18_2).f1))) (fun _ hk => trivial)⟩, ⟨lk HB⟩⟩
       rw [if_neg c10] at H
       exact absurd H (by simp)
      rw [if_neg c9] at H
      exact absurd H (by simp)
     rw [if_neg c8] at H
     have c8b0 := decide_eq_false c8
     clear c8
     obtain rfl := Option.some.inj H
     go_wp2
     go_ret
     exact ex (lk HB)
def num_Seconds.j0 : Nat → Int → ByteArray → Option (ByteArray)
 | 0, _, _ => none
 | k + 1, x3, x4 => (Hd.num_IntText.f (wrap64 (IntKind.u64.wrap (Int.tdiv x3 1000)))).bind fun t818 => (if x4.size + t818.size ≤ 9223372036854775807 then ((some (x4 ++ t818 : ByteArray)).bind fun y819 => ((Hd.num_IntText.f (wrap64 (IntKind.u64.wrap (1000 + (Int.tmod x3 1000))))).bind fun t820 => (if 1 ≤ (t820.size : Int) then ((strings_TrimRight.f k (t820.extract 1 t820.size) (⟨#[48]⟩ : ByteArray)).bind fun t822 => (if t822.toList = ([] : List UInt8) then (some y819) else (if 1 + t822.size ≤ 9223372036854775807 then ((some ((⟨#[46]⟩ : ByteArray) ++ t822 : ByteArray)).bind fun y823 => (if y819.size + y823.size ≤ 9223372036854775807 then (some (y819 ++ y823)) else (none))) else (none)))) else (none)))) else (none))
def num_Seconds.f (k : Nat) (a0 : Int) : Option (ByteArray) := if a0 < 0 then (num_Seconds.j0 k (IntKind.u64.wrap (-(IntKind.u64.wrap (a0)))) (⟨#[45]⟩ : ByteArray)) else (num_Seconds.j0 k (IntKind.u64.wrap (a0)) (⟨#[]⟩ : ByteArray))
theorem num_Seconds.mono_l : ∀ k, (∀ y0 y1, LeO (num_Seconds.j0 k y0 y1) (num_Seconds.j0 (k + 1) y0 y1))
 | 0 => fun _ _ r h => by simp [num_Seconds.j0] at h
 | k + 1 => by
  have ih0 := num_Seconds.mono_l k
  ·
   intro y0 y1
   unfold num_Seconds.j0
   repeat' (with_reducible first | apply ih0 | apply strings_TrimRight.mono | apply LeO.refl | apply LeO.none | apply LeO.ite | refine LeO.bind ?_ (fun _ => ?_))
theorem num_Seconds.mono : ∀ a0 k, LeO (num_Seconds.f k a0) (num_Seconds.f (k + 1) a0) := by
 intro a0 k
 have ih0 := num_Seconds.mono_l k
 unfold num_Seconds.f
 repeat' (with_reducible first | apply ih0 | apply strings_TrimRight.mono | apply LeO.refl | apply LeO.none | apply LeO.ite | refine LeO.bind ?_ (fun _ => ?_))
set_option maxHeartbeats 8000000 in
theorem num_Seconds.calls (k : Nat) (a0 : Int) (r : ByteArray) (w : World) (h : num_Seconds.f k a0 = some r) :
  Calls Tryd.prog 40 #[.int .i64 a0] w fun e w' => e = .returned (.string r) ∧ Below w.heap.size w w' := by
 have HB := am (Below.refl w.heap.size w)
 have H : (if a0 < 0 then (num_Seconds.j0 k (IntKind.u64.wrap (-(IntKind.u64.wrap (a0)))) (⟨#[45]⟩ : ByteArray)) else (num_Seconds.j0 k (IntKind.u64.wrap (a0)) (⟨#[]⟩ : ByteArray))) = some r := h
 clear h
 have HC2 := am H
 clear H
 go_enter Tryd.func40, Tryd.ntmps40
 go_upto_if 9 with (fail)
 go_cut [3, 4] (fun v3 v4 wc => ∃ (kq : Nat) (x3_1 : Int) (x4_1 : ByteArray), v3 = .int .u64 x3_1 ∧ v4 = .string x4_1 ∧ Aside0 (num_Seconds.j0 kq x3_1 x4_1 = some r) ∧ Aside0 (kq ≤ k) ∧ Aside0 (Below w.heap.size w wc))
 case first =>
  have H := HC2.out
  clear HC2
  by_cases c3 : a0 < 0
  ·
   rw [if_pos c3] at H
   have c3b0 := dt c3
   clear c3
   (first | rw [c3b0] | (simp only [i64_w, i32_w]; rw [c3b0]) | skip)
   have H' := am H
   clear H
   go_wp2
   go_meet
   case rel => exact ⟨_, (IntKind.u64.wrap (-(IntKind.u64.wrap (a0)))), ((⟨#[45]⟩ : ByteArray)), eqd, eqd, H', ol, ⟨lk HB⟩⟩
  rw [if_neg c3] at H
  have c3b0 := decide_eq_false c3
  clear c3
  (first | rw [c3b0] | (simp only [i64_w, i32_w]; rw [c3b0]) | skip)
  have H' := am H
  clear H
  go_wp2
  go_meet
  case rel => exact ⟨_, (IntKind.u64.wrap (a0)), ((⟨#[]⟩ : ByteArray)), eqd, eqd, H', ol, ⟨lk HB⟩⟩
 case rest =>
  clear HC2
  obtain ⟨kq, x3_1, x4_1, rfl, rfl, HA, HJ1, HB⟩ := hcut
  cases kq with
  | zero => exact absurd HA.out (by simp [num_Seconds.j0])
  | succ kj1 =>
   have H := HA.out
   clear HA
   simp only [num_Seconds.j0] at H
   replace H := bm H
   obtain ⟨t818, A40, H⟩ := H
   have A4 := am A40
   clear A40
   by_cases c5 : x4_1.size + t818.size ≤ 9223372036854775807
   ·
    rw [if_pos c5] at H
    have c5b0 := eq_true c5
    have c5b1 := dt c5
    obtain ⟨y819, Ny819, H⟩ := yb H
    replace H := bm H
    obtain ⟨t820, A60, H⟩ := H
    have A6 := am A60
    clear A60
    by_cases c7 : 1 ≤ (t820.size : Int)
    ·
     rw [if_pos c7] at H
     have c7b0 := eq_true c7
     have c7b1 := dt c7
     clear c7
     obtain ⟨y821, hy821⟩ : ∃ y_ : ByteArray, y_ = (t820.extract 1 t820.size) := ⟨_, rfl⟩
     replace H : ((strings_TrimRight.f kj1 y821 (⟨#[48]⟩ : ByteArray)).bind fun t822 => (if t822.toList = ([] : List UInt8) then (some y819) else (if 1 + t822.size ≤ 9223372036854775807 then ((some ((⟨#[46]⟩ : ByteArray) ++ t822 : ByteArray)).bind fun y823 => (if y819.size + y823.size ≤ 9223372036854775807 then (some (y819 ++ y823)) else (none))) else (none)))) = some r := by first | (rw [hy821]; exact H) | exact H
     have Ny821 := am hy821
     clear hy821
     replace H := bm H
     obtain ⟨t822, A80, H⟩ := H
     have A8 := am A80
     clear A80
     by_cases c9 : t822.toList = ([] : List UInt8)
     ·
      rw [if_pos c9] at H
      have c9b0 : (t822.toList == ([] : List UInt8)) = true := beq_iff_eq.mpr c9
      have c9b1 : (t822.toList != ([] : List UInt8)) = false := bne_eq_false_iff_eq.mpr c9
      clear c9
      obtain rfl := Option.some.inj H
      go_wp2_with (first | (refine gL (some 16) Tryd.func26 #[.int .i64 (wrap64 (IntKind.u64.wrap (Int.tdiv x3_1 1000)))] ?_; (with_reducible refine (Hd.num_IntText.calls (wrap64 (IntKind.u64.wrap (Int.tdiv x3_1 1000))) t818 _ A4.out).mono ?_); rintro e w10 ⟨rfl, hb⟩; refine ⟨_, rfl, ?_⟩; replace HB := lb HB hb; obtain ⟨hcs11, hcs11'⟩ := sc Ny819) | (refine gL (some 22) Tryd.func26 #[.int .i64 (wrap64 (IntKind.u64.wrap (1000 + (Int.tmod x3_1 1000))))] ?_; (with_reducible refine (Hd.num_IntText.calls (wrap64 (IntKind.u64.wrap (1000 + (Int.tmod x3_1 1000)))) t820 _ A6.out).mono ?_); rintro e w12 ⟨rfl, hb⟩; refine ⟨_, rfl, ?_⟩; replace HB := lb HB hb; have hcs13 := Hd.str_from (P := Tryd.prog) (k := .i64) Tryd.underlying9 (i := 1) (s := t820) (y := y821) oo oo Ny821.out) | (refine gL (some 24) Tryd.func81 #[.string y821, .string (⟨#[48]⟩ : ByteArray)] ?_; (with_reducible refine (strings_TrimRight.calls kj1 y821 (⟨#[48]⟩ : ByteArray) t822 _ A8.out).mono ?_); rintro e w14 ⟨rfl, hb⟩; refine ⟨_, rfl, ?_⟩; replace HB := lb HB hb))
      go_ret
      exact ex (lk HB)
     rw [if_neg c9] at H
     have c9b0 : (t822.toList == ([] : List UInt8)) = false := beq_eq_false_iff_ne.mpr c9
     have c9b1 : (t822.toList != ([] : List UInt8)) = true := bne_iff_ne.mpr c9
     by_cases c15 : 1 + t822.size ≤ 9223372036854775807
     ·
      rw [if_pos c15] at H
      have c15b0 := eq_true c15
      have c15b1 := dt c15
      obtain ⟨y823, Ny823, H⟩ := yb H
      by_cases c16 : y819.size + y823.size ≤ 9223372036854775807
      ·
       rw [if_pos c16] at H
       have c16b0 := eq_true c16
       have c16b1 := dt c16
       obtain ⟨y824, hy824⟩ : ∃ y_ : ByteArray, y_ = (y819 ++ y823) := ⟨_, rfl⟩
       replace H : (some y824) = some r := by first | (rw [hy824]; exact H) | exact H
       have Ny824 := am hy824
       clear hy824
       obtain rfl := Option.some.inj H
       go_wp2_with (first | (refine gL (some 16) Tryd.func26 #[.int .i64 (wrap64 (IntKind.u64.wrap (Int.tdiv x3_1 1000)))] ?_; (with_reducible refine (Hd.num_IntText.calls (wrap64 (IntKind.u64.wrap (Int.tdiv x3_1 1000))) t818 _ A4.out).mono ?_); rintro e w17 ⟨rfl, hb⟩; refine ⟨_, rfl, ?_⟩; replace HB := lb HB hb; obtain ⟨hcs18, hcs18'⟩ := sc Ny819) | (refine gL (some 22) Tryd.func26 #[.int .i64 (wrap64 (IntKind.u64.wrap (1000 + (Int.tmod x3_1 1000))))] ?_; (with_reducible refine (Hd.num_IntText.calls (wrap64 (IntKind.u64.wrap (1000 + (Int.tmod x3_1 1000)))) t820 _ A6.out).mono ?_); rintro e w19 ⟨rfl, hb⟩; refine ⟨_, rfl, ?_⟩; replace HB := lb HB hb; have hcs20 := Hd.str_from (P := Tryd.prog) (k := .i64) Tryd.underlying9 (i := 1) (s := t820) (y := y821) oo oo Ny821.out) | (refine gL (some 24) Tryd.func81 #[.string y821, .string (⟨#[48]⟩ : ByteArray)] ?_; (with_reducible refine (strings_TrimRight.calls kj1 y821 (⟨#[48]⟩ : ByteArray) t822 _ A8.out).mono ?_); rintro e w21 ⟨rfl, hb⟩; refine ⟨_, rfl, ?_⟩; replace HB := lb HB hb; obtain ⟨hcs22, hcs22'⟩ := sc Ny823; obtain ⟨hcs23, hcs23'⟩ := sc Ny824))
       go_ret
       exact ex (lk HB)
      rw [if_neg c16] at H
      exact absurd H (by simp)
     rw [if_neg c15] at H
     exact absurd H (by simp)
    rw [if_neg c7] at H
    exact absurd H (by simp)
   rw [if_neg c5] at H
   exact absurd H (by simp)
end Go.Proofs.YtjlnfnfdibfniaaDoor.F
namespace Go.Proofs.YtjlnfnfdibfniaaDoor.Hd
open Go.RowKit Go.Proofs.YW.PWords Go.Proofs.YW.PLast
def unitN (i : Int) : Option (ByteArray × Int) :=
 if i = 0 then some (⟨#[121]⟩, 31536000000) else if i = 1 then some (⟨#[119]⟩, 604800000) else if i = 2 then some (⟨#[100]⟩, 86400000) else if i = 3 then some (⟨#[104]⟩, 3600000)
 else if i = 4 then some (⟨#[109]⟩, 60000) else if i = 5 then some (⟨#[115]⟩, 1000) else if i = 6 then some (⟨#[109, 115]⟩, 1) else none
def r_unit.f (a0 : Int) : Option (ByteArray × Int) := unitN a0
set_option maxHeartbeats 2000000 in
set_option maxRecDepth 100000 in
theorem unit0 (w : World) : Calls Tryd.prog 80 #[.int .i64 0] w fun e w' => e = .returned (.tuple #[.string ⟨#[121]⟩, .int .i64 31536000000]) ∧ Below w.heap.size w w' := by
 go_enter Tryd.func80, Tryd.ntmps80
 go_wp2
 go_quiet (fail)
 go_wp2
 go_ret2
 exact ⟨rfl, below_drewN (((Below.refl _ _).alloc (Nat.le_refl _) _).alloc (by simp) _) _⟩
set_option maxHeartbeats 2000000 in
set_option maxRecDepth 100000 in
theorem unit1 (w : World) : Calls Tryd.prog 80 #[.int .i64 1] w fun e w' => e = .returned (.tuple #[.string ⟨#[119]⟩, .int .i64 604800000]) ∧ Below w.heap.size w w' := by
 go_enter Tryd.func80, Tryd.ntmps80
 go_wp2
 go_quiet (fail)
 go_wp2
 go_ret2
 exact ⟨rfl, below_drewN (((Below.refl _ _).alloc (Nat.le_refl _) _).alloc (by simp) _) _⟩
set_option maxHeartbeats 2000000 in
set_option maxRecDepth 100000 in
theorem unit2 (w : World) : Calls Tryd.prog 80 #[.int .i64 2] w fun e w' => e = .returned (.tuple #[.string ⟨#[100]⟩, .int .i64 86400000]) ∧ Below w.heap.size w w' := by
 go_enter Tryd.func80, Tryd.ntmps80
 go_wp2
 go_quiet (fail)
 go_wp2
 go_ret2
 exact ⟨rfl, below_drewN (((Below.refl _ _).alloc (Nat.le_refl _) _).alloc (by simp) _) _⟩
set_option maxHeartbeats 2000000 in
set_option maxRecDepth 100000 in
theorem unit3 (w : World) : Calls Tryd.prog 80 #[.int .i64 3] w fun e w' => e = .returned (.tuple #[.string ⟨#[104]⟩, .int .i64 3600000]) ∧ Below w.heap.size w w' := by
 go_enter Tryd.func80, Tryd.ntmps80
 go_wp2
 go_quiet (fail)
 go_wp2
 go_ret2
 exact ⟨rfl, below_drewN (((Below.refl _ _).alloc (Nat.le_refl _) _).alloc (by simp) _) _⟩
set_option maxHeartbeats 2000000 in
set_option maxRecDepth 100000 in
theorem unit4 (w : World) : Calls Tryd.prog 80 #[.int .i64 4] w fun e w' => e = .returned (.tuple #[.string ⟨#[109]⟩, .int .i64 60000]) ∧ Below w.heap.size w w' := by
 go_enter Tryd.func80, Tryd.ntmps80
 go_wp2
 go_quiet (fail)
 go_wp2
 go_ret2
 exact ⟨rfl, below_drewN (((Below.refl _ _).alloc (Nat.le_refl _) _).alloc (by simp) _) _⟩
set_option maxHeartbeats 2000000 in
set_option maxRecDepth 100000 in
theorem unit5 (w : World) : Calls Tryd.prog 80 #[.int .i64 5] w fun e w' => e = .returned (.tuple #[.string ⟨#[115]⟩, .int .i64 1000]) ∧ Below w.heap.size w w' := by
 go_enter Tryd.func80, Tryd.ntmps80
 go_wp2
 go_quiet (fail)
 go_wp2
 go_ret2
 exact ⟨rfl, below_drewN (((Below.refl _ _).alloc (Nat.le_refl _) _).alloc (by simp) _) _⟩
set_option maxHeartbeats 2000000 in
set_option maxRecDepth 100000 in
theorem unit6 (w : World) : Calls Tryd.prog 80 #[.int .i64 6] w fun e w' => e = .returned (.tuple #[.string ⟨#[109, 115]⟩, .int .i64 1]) ∧ Below w.heap.size w w' := by
 go_enter Tryd.func80, Tryd.ntmps80
 go_wp2
 go_quiet (fail)
 go_wp2
 go_ret2
 exact ⟨rfl, below_drewN (((Below.refl _ _).alloc (Nat.le_refl _) _).alloc (by simp) _) _⟩
theorem r_unit.calls (a0 : Int) (r1 : ByteArray) (r2 : Int) (w : World) (h : r_unit.f a0 = some (r1, r2)) :
  Calls Tryd.prog 80 #[.int .i64 a0] w fun e w' => e = .returned (.tuple #[.string r1, .int .i64 r2]) ∧ Below w.heap.size w w' := by
 unfold r_unit.f unitN at h
 split at h
 ·
  subst a0; simp only [Option.some.injEq, Prod.mk.injEq] at h; obtain ⟨rfl, rfl⟩ := h; exact unit0 w
 split at h
 ·
  subst a0; simp only [Option.some.injEq, Prod.mk.injEq] at h; obtain ⟨rfl, rfl⟩ := h; exact unit1 w
 split at h
 ·
  subst a0; simp only [Option.some.injEq, Prod.mk.injEq] at h; obtain ⟨rfl, rfl⟩ := h; exact unit2 w
 split at h
 ·
  subst a0; simp only [Option.some.injEq, Prod.mk.injEq] at h; obtain ⟨rfl, rfl⟩ := h; exact unit3 w
 split at h
 ·
  subst a0; simp only [Option.some.injEq, Prod.mk.injEq] at h; obtain ⟨rfl, rfl⟩ := h; exact unit4 w
 split at h
 ·
  subst a0; simp only [Option.some.injEq, Prod.mk.injEq] at h; obtain ⟨rfl, rfl⟩ := h; exact unit5 w
 split at h
 ·
  subst a0; simp only [Option.some.injEq, Prod.mk.injEq] at h; obtain ⟨rfl, rfl⟩ := h; exact unit6 w
 cases h
end Go.Proofs.YtjlnfnfdibfniaaDoor.Hd
namespace Go.Proofs.YtjlnfnfdibfniaaDoor.F
open Go.RowKit Go.Proofs.YW.PWords Go.Proofs.YW.PLast Go.Proofs.YW.PMore
attribute [local go_sem] max2_int min2_int max_two min_two max_three min_three max_four min_four
set_option linter.unusedVariables false
set_option linter.unusedSimpArgs false
set_option maxRecDepth 100000
mutual
def r_DurationText.j0 : Nat → Int → ByteArray → Int → Option (ByteArray)
 | 0, _, _, _ => none
 | k + 1, x0, x3, x4 => r_DurationText.l0 k x0 x3 x4 0
def r_DurationText.l0 : Nat → Int → ByteArray → Int → Int → Option (ByteArray)
 | 0, _, _, _, _ => none
 | k + 1, x0, x3, x4, x5 => if x5 < 7 then ((Hd.r_unit.f x5).bind fun bt811 => (if bt811.2 = 0 then (none) else (if (wrap64 ((wrap64 (Int.tdiv x0 bt811.2)) * x4)) = 0 then (r_DurationText.l0 k (Int.tmod x0 bt811.2) x3 x4 (wrap64 (x5 + 1))) else ((r_plain.f k (wrap64 ((wrap64 (Int.tdiv x0 bt811.2)) * x4))).bind fun t813 => (if x3.size + t813.size ≤ 9223372036854775807 then ((some (x3 ++ t813 : ByteArray)).bind fun y814 => (if y814.size + bt811.1.size ≤ 9223372036854775807 then (r_DurationText.l0 k (Int.tmod x0 bt811.2) (y814 ++ bt811.1) x4 (wrap64 (x5 + 1))) else (none))) else (none)))))) else (some x3)
end
def r_DurationText.f (k : Nat) (a0 : Int) : Option (ByteArray) := if a0 = 0 then (some (⟨#[48, 115]⟩ : ByteArray)) else (if a0 < 0 then (r_DurationText.j0 k a0 (⟨#[45]⟩ : ByteArray) (-1)) else (r_DurationText.j0 k a0 (⟨#[]⟩ : ByteArray) 1))
theorem r_DurationText.mono_l : ∀ k, (∀ y0 y1 y2, LeO (r_DurationText.j0 k y0 y1 y2) (r_DurationText.j0 (k + 1) y0 y1 y2)) ∧ (∀ y0 y1 y2 y3, LeO (r_DurationText.l0 k y0 y1 y2 y3) (r_DurationText.l0 (k + 1) y0 y1 y2 y3))
 | 0 => ⟨fun _ _ _ r h => by simp [r_DurationText.j0] at h, fun _ _ _ _ r h => by simp [r_DurationText.l0] at h⟩
 | k + 1 => by
  obtain ⟨ih0, ih1⟩ := r_DurationText.mono_l k
  refine ⟨?_, ?_⟩ <;> intros <;> (first | unfold r_DurationText.j0 | unfold r_DurationText.l0) <;> repeat' (with_reducible first | apply ih0 | apply ih1 | apply r_plain.mono | apply LeO.refl | apply LeO.none | apply LeO.ite | refine LeO.bind ?_ (fun _ => ?_))
theorem r_DurationText.mono : ∀ a0 k, LeO (r_DurationText.f k a0) (r_DurationText.f (k + 1) a0) := by
 intro a0 k
 obtain ⟨ih0, ih1⟩ := r_DurationText.mono_l k
 unfold r_DurationText.f
 repeat' (with_reducible first | apply ih0 | apply ih1 | apply r_plain.mono | apply LeO.refl | apply LeO.none | apply LeO.ite | refine LeO.bind ?_ (fun _ => ?_))
set_option maxHeartbeats 8000000 in
theorem r_DurationText.calls (k : Nat) (a0 : Int) (r : ByteArray) (w : World) (h : r_DurationText.f k a0 = some r) :
  Calls Tryd.prog 39 #[.int .i64 a0] w fun e w' => e = .returned (.string r) ∧ Below w.heap.size w w' := by
 have HB := am (Below.refl w.heap.size w)
 have H : (if a0 = 0 then (some (⟨#[48, 115]⟩ : ByteArray)) else (if a0 < 0 then (r_DurationText.j0 k a0 (⟨#[45]⟩ : ByteArray) (-1)) else (r_DurationText.j0 k a0 (⟨#[]⟩ : ByteArray) 1))) = some r := h
 clear h
 by_cases c2 : a0 = 0
 ·
  rw [if_pos c2] at H
  have c2b0 : (a0 == 0) = true := beq_iff_eq.mpr c2
  have c2b1 : (a0 != 0) = false := bne_eq_false_iff_eq.mpr c2
  clear c2
  obtain rfl := Option.some.inj H
  go_enter Tryd.func39, Tryd.ntmps39
  go_wp2
  go_ret
  exact ex (lk HB)
 rw [if_neg c2] at H
 have c2b0 : (a0 == 0) = false := beq_eq_false_iff_ne.mpr c2
 have c2b1 : (a0 != 0) = true := bne_iff_ne.mpr c2
 have HC3 := am H
 clear H
 go_enter Tryd.func39, Tryd.ntmps39
 go_upto_if 12 with (fail)
 go_cut [3, 4] (fun v3 v4 wc => ∃ (kq : Nat) (x3_2 : ByteArray) (x4_2 : Int), v3 = .string x3_2 ∧ v4 = .int .i64 x4_2 ∧ Aside0 (r_DurationText.j0 kq a0 x3_2 x4_2 = some r) ∧ Aside0 (kq ≤ k) ∧ Aside0 (Below w.heap.size w wc))
 case first =>
  have H := HC3.out
  clear HC3
  by_cases c4 : a0 < 0
  ·
   rw [if_pos c4] at H
   have c4b0 := dt c4
   clear c4
   (first | rw [c4b0] | (simp only [i64_w, i32_w]; rw [c4b0]) | skip)
   have H' := am H
   clear H
   go_wp2
   go_meet
   case rel => exact ⟨_, ((⟨#[45]⟩ : ByteArray)), ((-1)), eqd, eqd, H', ol, ⟨lk HB⟩⟩
  rw [if_neg c4] at H
  have c4b0 := decide_eq_false c4
  clear c4
  (first | rw [c4b0] | (simp only [i64_w, i32_w]; rw [c4b0]) | skip)
  have H' := am H
  clear H
  go_wp2
  go_meet
  case rel => exact ⟨_, ((⟨#[]⟩ : ByteArray)), (1), eqd, eqd, H', ol, ⟨lk HB⟩⟩
 case rest =>
  clear HC3
  obtain ⟨kq, x3_2, x4_2, rfl, rfl, HA, HJ2, HB⟩ := hcut
  cases kq with
  | zero => exact absurd HA.out (by simp [r_DurationText.j0])
  | succ kj2 =>
   have H := HA.out
   clear HA
   simp only [r_DurationText.j0] at H
   have H' := am H
   clear H
   go_wp2
   go_loopg [0, 3, 5] kj2 (fun kq v0 v3 v5 w' => ∃ (x0_2 : Int) (x3_2 : ByteArray) (x5_2 : Int), v0 = .int .i64 x0_2 ∧ v3 = .string x3_2 ∧ v5 = .int .i64 x5_2 ∧ Aside0 (r_DurationText.l0 kq x0_2 x3_2 x4_2 x5_2 = some r) ∧ Aside0 (kq ≤ kj2) ∧ Aside0 (Below w.heap.size w w'))
   case atStart => exact ⟨(a0), (x3_2), (0), eqd, eqd, eqd, H', ⟨Nat.le_refl _⟩, ⟨lk HB⟩⟩
   case round =>
    clear H'
    obtain ⟨x0_2, x3_2, x5_2, rfl, rfl, rfl, HA, HK2, HB⟩ := hrel
    cases gk with
    | zero => exact absurd HA.out (by simp [r_DurationText.l0])
    | succ k2 =>
     have H := HA.out
     clear HA
     simp only [r_DurationText.l0] at H
     by_cases c5 : x5_2 < 7
     ·
      rw [if_pos c5] at H
      have c5b0 := dt c5
      clear c5
      replace H := bm H
      obtain ⟨⟨t811, t812⟩, A60, H⟩ := H
      replace H : (if t812 = 0 then (none) else (if (wrap64 ((wrap64 (Int.tdiv x0_2 t812)) * x4_2)) = 0 then (r_DurationText.l0 k2 (Int.tmod x0_2 t812) x3_2 x4_2 (wrap64 (x5_2 + 1))) else ((r_plain.f k2 (wrap64 ((wrap64 (Int.tdiv x0_2 t812)) * x4_2))).bind fun t813 => (if x3_2.size + t813.size ≤ 9223372036854775807 then ((some (x3_2 ++ t813 : ByteArray)).bind fun y814 => (if y814.size + t811.size ≤ 9223372036854775807 then (r_DurationText.l0 k2 (Int.tmod x0_2 t812) (y814 ++ t811) x4_2 (wrap64 (x5_2 + 1))) else (none))) else (none))))) = some r := H
      have A6 := am A60
      clear A60
      by_cases c7 : t812 = 0
      ·
       rw [if_pos c7] at H
       exact absurd H (by simp)
      rw [if_neg c7] at H
      have c7b0 : (t812 == 0) = false := beq_eq_false_iff_ne.mpr c7
      have c7b1 : (t812 != 0) = true := bne_iff_ne.mpr c7
      by_cases c8 : (wrap64 ((wrap64 (Int.tdiv x0_2 t812)) * x4_2)) = 0
      ·
       rw [if_pos c8] at H
       have c8b0 : ((wrap64 ((wrap64 (Int.tdiv x0_2 t812)) * x4_2)) == 0) = true := beq_iff_eq.mpr c8
       have c8b1 : ((wrap64 ((wrap64 (Int.tdiv x0_2 t812)) * x4_2)) != 0) = false := bne_eq_false_iff_eq.mpr c8
       clear c8
       have H' := am H
       clear H
       go_wp2_with (first | (refine gL (some 19) Tryd.func80 #[.int .i64 x5_2] ?_; (with_reducible refine (Hd.r_unit.calls x5_2 t811 t812 _ A6.out).mono ?_); rintro e w9 ⟨rfl, hb⟩; refine ⟨_, rfl, ?_⟩; replace HB := lb HB hb))
       go_roundg k2
       case measure => have := HJ2.out; have := HK2.out; omega
       case rel => exact ⟨(Int.tmod x0_2 t812), (x3_2), (wrap64 (x5_2 + 1)), eqd, eqd, eqd, H', ⟨by have := HJ2.out; have := HK2.out; omega⟩, ⟨lk HB⟩⟩
      rw [if_neg c8] at H
      have c8b0 : ((wrap64 ((wrap64 (Int.tdiv x0_2 t812)) * x4_2)) == 0) = false := beq_eq_false_iff_ne.mpr c8
      have c8b1 : ((wrap64 ((wrap64 (Int.tdiv x0_2 t812)) * x4_2)) != 0) = true := bne_iff_ne.mpr c8
      replace H := bm H
      obtain ⟨t813, A100, H⟩ := H
      have A10 := am A100
      clear A100
      by_cases c11 : x3_2.size + t813.size ≤ 9223372036854775807
      ·
       rw [if_pos c11] at H
       have c11b0 := eq_true c11
       have c11b1 := dt c11
       obtain ⟨y814, Ny814, H⟩ := yb H
       by_cases c12 : y814.size + t811.size ≤ 9223372036854775807
       ·
        rw [if_pos c12] at H
        have c12b0 := eq_true c12
        have c12b1 := dt c12
        obtain ⟨y815, hy815⟩ : ∃ y_ : ByteArray, y_ = (y814 ++ t811) := ⟨_, rfl⟩
        replace H : (r_DurationText.l0 k2 (Int.tmod x0_2 t812) y815 x4_2 (wrap64 (x5_2 + 1))) = some r := by first | (rw [hy815]; exact H) | exact H
        have Ny815 := am hy815
        clear hy815
        have H' := am H
        clear H
        go_wp2_with (first | (refine gL (some 19) Tryd.func80 #[.int .i64 x5_2] ?_; (with_reducible refine (Hd.r_unit.calls x5_2 t811 t812 _ A6.out).mono ?_); rintro e w13 ⟨rfl, hb⟩; refine ⟨_, rfl, ?_⟩; replace HB := lb HB hb) | (refine gL (some 34) Tryd.func63 #[.int .i64 (wrap64 ((wrap64 (Int.tdiv x0_2 t812)) * x4_2))] ?_; (with_reducible refine (r_plain.calls k2 (wrap64 ((wrap64 (Int.tdiv x0_2 t812)) * x4_2)) t813 _ A10.out).mono ?_); rintro e w14 ⟨rfl, hb⟩; refine ⟨_, rfl, ?_⟩; replace HB := lb HB hb; obtain ⟨hcs15, hcs15'⟩ := sc Ny814; obtain ⟨hcs16, hcs16'⟩ := sc Ny815))
        go_roundg k2
        case measure => have := HJ2.out; have := HK2.out; omega
        case rel => exact ⟨(Int.tmod x0_2 t812), (y815), (wrap64 (x5_2 + 1)), eqd, eqd, eqd, H', ⟨by have := HJ2.out; have := HK2.out; omega⟩, ⟨lk HB⟩⟩
       rw [if_neg c12] at H
       exact absurd H (by simp)
      rw [if_neg c11] at H
      exact absurd H (by simp)
     rw [if_neg c5] at H
     have c5b0 := decide_eq_false c5
     clear c5
     obtain rfl := Option.some.inj H
     go_wp2
     go_ret
     exact ex (lk HB)
mutual
def r_Duration.l0 : Nat → ByteArray → Int → Int → Bool → Int → Option (Int × Int)
 | 0, _, _, _, _, _ => none
 | k + 1, x0, x4, x5, x6, x7 => if x7 < (x0.size : Int) then (r_Duration.j1 k x0 x4 x5 x6 x7 true) else (r_Duration.j1 k x0 x4 x5 x6 x7 (x7 == 0))
def r_Duration.j1 : Nat → ByteArray → Int → Int → Bool → Int → Bool → Option (Int × Int)
 | 0, _, _, _, _, _, _ => none
 | k + 1, x0, x4, x5, x6, x7, x24 => if x24 = true then (r_Duration.l1 k x0 x4 x5 x6 x7 x7 0) else (if x6 = true then (some (0, 9)) else (some (x4, 0)))
def r_Duration.j3 : Nat → ByteArray → Int → Int → Bool → Int → Int → Int → Option (Int × Int)
 | 0, _, _, _, _, _, _, _ => none
 | k + 1, x0, x4, x5, x6, x7, x8, x9 => if x7 = x8 then (r_Duration.j4 k x0 x4 x5 x6 x7 x9 true) else (r_Duration.j4 k x0 x4 x5 x6 x7 x9 (decide ((wrap64 (x7 - x8)) > 15)))
def r_Duration.j4 : Nat → ByteArray → Int → Int → Bool → Int → Int → Bool → Option (Int × Int)
 | 0, _, _, _, _, _, _, _ => none
 | k + 1, x0, x4, x5, x6, x7, x9, x60 => if x60 = true then (some (0, 8)) else (r_Duration.l2 k x0 x4 x5 x6 x7 x9 x7)
def r_Duration.j6 : Nat → ByteArray → Int → Int → Bool → Int → Int → Int → Option (Int × Int)
 | 0, _, _, _, _, _, _, _ => none
 | k + 1, x0, x4, x5, x6, x7, x9, x10 => r_Duration.l3 k x0 x4 x5 x6 x7 x9 x10 false x5
def r_Duration.l3 : Nat → ByteArray → Int → Int → Bool → Int → Int → Int → Bool → Int → Option (Int × Int)
 | 0, _, _, _, _, _, _, _, _, _ => none
 | k + 1, x0, x4, x5, x6, x7, x9, x10, x11, x12 => if x12 < 7 then (r_Duration.j8 k x0 x4 x5 x6 x7 x9 x10 x11 x12 (!x11)) else (r_Duration.j8 k x0 x4 x5 x6 x7 x9 x10 x11 x12 false)
def r_Duration.j8 : Nat → ByteArray → Int → Int → Bool → Int → Int → Int → Bool → Int → Bool → Option (Int × Int)
 | 0, _, _, _, _, _, _, _, _, _, _ => none
 | k + 1, x0, x4, x5, x6, x7, x9, x10, x11, x12, x86 => if x86 = true then ((Hd.r_unit.f x12).bind fun bt808 => (if 0 ≤ x7 then (if x7 ≤ x10 then (if x10 ≤ (x0.size : Int) then (if (x0.extract (x7 : Int).toNat (x10 : Int).toNat).toList = bt808.1.toList then (if x9 > 0 then (if x9 = 0 then (none) else (if bt808.2 > (wrap64 (Int.tdiv (wrap64 (9007199254740992 - x4)) x9)) then (r_Duration.l3 k x0 x4 (wrap64 (x12 + 1)) true x7 x9 x10 true (wrap64 (x12 + 1))) else (if x6 = true then (r_Duration.l3 k x0 x4 (wrap64 (x12 + 1)) true x7 x9 x10 true (wrap64 (x12 + 1))) else (r_Duration.l3 k x0 (wrap64 (x4 + (wrap64 (x9 * bt808.2)))) (wrap64 (x12 + 1)) x6 x7 x9 x10 true (wrap64 (x12 + 1)))))) else (if x6 = true then (r_Duration.l3 k x0 x4 (wrap64 (x12 + 1)) true x7 x9 x10 true (wrap64 (x12 + 1))) else (r_Duration.l3 k x0 (wrap64 (x4 + (wrap64 (x9 * bt808.2)))) (wrap64 (x12 + 1)) x6 x7 x9 x10 true (wrap64 (x12 + 1))))) else (r_Duration.l3 k x0 x4 x5 x6 x7 x9 x10 x11 (wrap64 (x12 + 1)))) else (none)) else (none)) else (none))) else (if x11 = true then (r_Duration.l0 k x0 x4 x5 x6 x10) else (some (0, 8)))
def r_Duration.l2 : Nat → ByteArray → Int → Int → Bool → Int → Int → Int → Option (Int × Int)
 | 0, _, _, _, _, _, _, _ => none
 | k + 1, x0, x4, x5, x6, x7, x9, x10 => if x10 < (x0.size : Int) then (if 0 ≤ x10 then (if (bt x0 x10) ≥ 97 then (if (bt x0 x10) ≤ 122 then (r_Duration.l2 k x0 x4 x5 x6 x7 x9 (wrap64 (x10 + 1))) else (r_Duration.j6 k x0 x4 x5 x6 x7 x9 x10)) else (r_Duration.j6 k x0 x4 x5 x6 x7 x9 x10)) else (none)) else (r_Duration.j6 k x0 x4 x5 x6 x7 x9 x10)
def r_Duration.l1 : Nat → ByteArray → Int → Int → Bool → Int → Int → Int → Option (Int × Int)
 | 0, _, _, _, _, _, _, _ => none
 | k + 1, x0, x4, x5, x6, x7, x8, x9 => if x7 < (x0.size : Int) then (if 0 ≤ x7 then ((r_digit.f (bt x0 x7)).bind fun t807 => (if t807 = true then (if (wrap64 (x7 - x8)) < 16 then (r_Duration.l1 k x0 x4 x5 x6 (wrap64 (x7 + 1)) x8 (wrap64 ((wrap64 (10 * x9)) + (((bt x0 x7) - 48) % 256)))) else (r_Duration.j3 k x0 x4 x5 x6 x7 x8 x9)) else (r_Duration.j3 k x0 x4 x5 x6 x7 x8 x9))) else (none)) else (r_Duration.j3 k x0 x4 x5 x6 x7 x8 x9)
end
def r_Duration.f (k : Nat) (a0 : ByteArray) : Option (Int × Int) := if a0.toList = ([48] : List UInt8) then (some (0, 0)) else (r_Duration.l0 k a0 0 0 false 0)
theorem r_Duration.mono_l : ∀ k, (∀ y0 y1 y2 y3 y4, LeO (r_Duration.l0 k y0 y1 y2 y3 y4) (r_Duration.l0 (k + 1) y0 y1 y2 y3 y4)) ∧ (∀ y0 y1 y2 y3 y4 y5, LeO (r_Duration.j1 k y0 y1 y2 y3 y4 y5) (r_Duration.j1 (k + 1) y0 y1 y2 y3 y4 y5)) ∧ (∀ y0 y1 y2 y3 y4 y5 y6, LeO (r_Duration.j3 k y0 y1 y2 y3 y4 y5 y6) (r_Duration.j3 (k + 1) y0 y1 y2 y3 y4 y5 y6)) ∧ (∀ y0 y1 y2 y3 y4 y5 y6, LeO (r_Duration.j4 k y0 y1 y2 y3 y4 y5 y6) (r_Duration.j4 (k + 1) y0 y1 y2 y3 y4 y5 y6)) ∧ (∀ y0 y1 y2 y3 y4 y5 y6, LeO (r_Duration.j6 k y0 y1 y2 y3 y4 y5 y6) (r_Duration.j6 (k + 1) y0 y1 y2 y3 y4 y5 y6)) ∧ (∀ y0 y1 y2 y3 y4 y5 y6 y7 y8, LeO (r_Duration.l3 k y0 y1 y2 y3 y4 y5 y6 y7 y8) (r_Duration.l3 (k + 1) y0 y1 y2 y3 y4 y5 y6 y7 y8)) ∧ (∀ y0 y1 y2 y3 y4 y5 y6 y7 y8 y9, LeO (r_Duration.j8 k y0 y1 y2 y3 y4 y5 y6 y7 y8 y9) (r_Duration.j8 (k + 1) y0 y1 y2 y3 y4 y5 y6 y7 y8 y9)) ∧ (∀ y0 y1 y2 y3 y4 y5 y6, LeO (r_Duration.l2 k y0 y1 y2 y3 y4 y5 y6) (r_Duration.l2 (k + 1) y0 y1 y2 y3 y4 y5 y6)) ∧ (∀ y0 y1 y2 y3 y4 y5 y6, LeO (r_Duration.l1 k y0 y1 y2 y3 y4 y5 y6) (r_Duration.l1 (k + 1) y0 y1 y2 y3 y4 y5 y6))
 | 0 => ⟨fun _ _ _ _ _ r h => by simp [r_Duration.l0] at h, fun _ _ _ _ _ _ r h => by simp [r_Duration.j1] at h, fun _ _ _ _ _ _ _ r h => by simp [r_Duration.j3] at h, fun _ _ _ _ _ _ _ r h => by simp [r_Duration.j4] at h, fun _ _ _ _ _ _ _ r h => by simp [r_Duration.j6] at h, fun _ _ _ _ _ _ _ _ _ r h => by simp [r_Duration.l3] at h, fun _ _ _ _ _ _ _ _ _ _ r h => by simp [r_Duration.j8] at h, fun _ _ _ _ _ _ _ r h => by simp [r_Duration.l2] at h, fun _ _ _ _ _ _ _ r h => by simp [r_Duration.l1] at h⟩
 | k + 1 => by
  obtain ⟨ih0, ih1, ih2, ih3, ih4, ih5, ih6, ih7, ih8⟩ := r_Duration.mono_l k
  refine ⟨?_, ?_, ?_, ?_, ?_, ?_, ?_, ?_, ?_⟩ <;> intros <;> (first | unfold r_Duration.l0 | unfold r_Duration.j1 | unfold r_Duration.j3 | unfold r_Duration.j4 | unfold r_Duration.j6 | unfold r_Duration.l3 | unfold r_Duration.j8 | unfold r_Duration.l2 | unfold r_Duration.l1) <;> repeat' (with_reducible first | apply ih0 | apply ih1 | apply ih2 | apply ih3 | apply ih4 | apply ih5 | apply ih6 | apply ih7 | apply ih8 | apply LeO.refl | apply LeO.none | apply LeO.ite | refine LeO.bind ?_ (fun _ => ?_))
theorem r_Duration.mono : ∀ a0 k, LeO (r_Duration.f k a0) (r_Duration.f (k + 1) a0) := by
 intro a0 k
 obtain ⟨ih0, ih1, ih2, ih3, ih4, ih5, ih6, ih7, ih8⟩ := r_Duration.mono_l k
 unfold r_Duration.f
 repeat' (with_reducible first | apply ih0 | apply ih1 | apply ih2 | apply ih3 | apply ih4 | apply ih5 | apply ih6 | apply ih7 | apply ih8 | apply LeO.refl | apply LeO.none | apply LeO.ite | refine LeO.bind ?_ (fun _ => ?_))
set_option maxHeartbeats 8000000 in
theorem r_Duration.calls (k : Nat) (a0 : ByteArray) (r1 : Int) (r2 : Int) (w : World) (h : r_Duration.f k a0 = some (r1, r2)) :
  Calls Tryd.prog 37 #[.string a0] w fun e w' => e = .returned (.tuple #[.int .i64 r1, .int .i64 r2]) ∧ Below w.heap.size w w' := by
 have HB := am (Below.refl w.heap.size w)
 have H : (if a0.toList = ([48] : List UInt8) then (some (0, 0)) else (r_Duration.l0 k a0 0 0 false 0)) = some (r1, r2) := h
 clear h
 by_cases c2 : a0.toList = ([48] : List UInt8)
 ·
  rw [if_pos c2] at H
  have c2b0 : (a0.toList == ([48] : List UInt8)) = true := beq_iff_eq.mpr c2
  have c2b1 : (a0.toList != ([48] : List UInt8)) = false := bne_eq_false_iff_eq.mpr c2
  clear c2
  simp only [Option.some.injEq, Prod.mk.injEq] at H
  obtain ⟨rfl, rfl⟩ := H
  go_enter Tryd.func37, Tryd.ntmps37
  go_wp2
  go_ret2
  exact ex (lk HB)
 rw [if_neg c2] at H
 have c2b0 : (a0.toList == ([48] : List UInt8)) = false := beq_eq_false_iff_ne.mpr c2
 have c2b1 : (a0.toList != ([48] : List UInt8)) = true := bne_iff_ne.mpr c2
 have H' := am H
 clear H
 go_enter Tryd.func37, Tryd.ntmps37
 go_wp2
 go_loopg [4, 5, 6, 7] k (fun kq v4 v5 v6 v7 w' => ∃ (x4_1 : Int) (x5_1 : Int) (x6_1 : Bool) (x7_1 : Int), v4 = .int .i64 x4_1 ∧ v5 = .int .i64 x5_1 ∧ v6 = .bool x6_1 ∧ v7 = .int .i64 x7_1 ∧ Aside0 (r_Duration.l0 kq a0 x4_1 x5_1 x6_1 x7_1 = some (r1, r2)) ∧ Aside0 (kq ≤ k) ∧ Aside0 (Below w.heap.size w w'))
 case atStart => exact ⟨(0), (0), (false), (0), eqd, eqd, eqd, eqd, H', ⟨Nat.le_refl _⟩, ⟨lk HB⟩⟩
 case round =>
  clear H'
  obtain ⟨x4_1, x5_1, x6_1, x7_1, rfl, rfl, rfl, rfl, HA, HK1, HB⟩ := hrel
  cases gk with
  | zero => exact absurd HA.out (by simp [r_Duration.l0])
  | succ k1 =>
   have H := HA.out
   clear HA
   simp only [r_Duration.l0] at H
   have HC3 := am H
   clear H
   go_upto_region 7 with (fail)
   go_cut [24] (fun v24 wc => ∃ (kq : Nat) (x24_2 : Bool), v24 = .bool x24_2 ∧ Aside0 (r_Duration.j1 kq a0 x4_1 x5_1 x6_1 x7_1 x24_2 = some (r1, r2)) ∧ Aside0 (kq ≤ k1) ∧ Aside0 (Below w.heap.size w wc))
   case first =>
    have H := HC3.out
    clear HC3
    by_cases c4 : x7_1 < (a0.size : Int)
    ·
     rw [if_pos c4] at H
     have c4b0 := dt c4
     clear c4
     (first | rw [c4b0] | (simp only [i64_w, i32_w]; rw [c4b0]) | skip)
     have H' := am H
     clear H
     go_wp2
     go_meet
     case rel => exact ⟨_, (true), eqd, H', ⟨by have := HK1.out; first | omega | exact Nat.le_refl _⟩, ⟨lk HB⟩⟩
    rw [if_neg c4] at H
    have c4b0 := decide_eq_false c4
    clear c4
    (first | rw [c4b0] | (simp only [i64_w, i32_w]; rw [c4b0]) | skip)
    have H' := am H
    clear H
    go_wp2
    go_meet
    case rel => exact ⟨_, ((x7_1 == 0)), eqd, H', ⟨by have := HK1.out; first | omega | exact Nat.le_refl _⟩, ⟨lk HB⟩⟩
   case rest =>
    clear HC3
    obtain ⟨kq, x24_2, rfl, HA, HJ2, HB⟩ := hcut
    cases kq with
    | zero => exact absurd HA.out (by simp [r_Duration.j1])
    | succ kj2 =>
     have H := HA.out
     clear HA
     simp only [r_Duration.j1] at H
     by_cases c5 : x24_2 = true
     ·
      subst c5
      have H1 : (r_Duration.l1 kj2 a0 x4_1 x5_1 x6_1 x7_1 x7_1 0) = some (r1, r2) := by rw [if_pos rfl] at H; exact H
      clear H
      have H := H1
      clear H1
      have HC6 := am H
      clear H
      go_upto_block 2 with (fail)
      go_cut [7, 9] (fun v7 v9 wc => ∃ (kq : Nat) (x7_5 : Int) (x9_5 : Int), v7 = .int .i64 x7_5 ∧ v9 = .int .i64 x9_5 ∧ Aside0 (r_Duration.j3 kq a0 x4_1 x5_1 x6_1 x7_5 x7_1 x9_5 = some (r1, r2)) ∧ Aside0 (kq ≤ kj2) ∧ Aside0 (Below w.heap.size w wc))
      case first =>
       have H := HC6.out
       clear HC6
       have H' := am H
       clear H
       go_wp2
       go_loopg [7, 9] kj2 (fun kq v7 v9 w' => ∃ (x7_3 : Int) (x9_3 : Int), v7 = .int .i64 x7_3 ∧ v9 = .int .i64 x9_3 ∧ Aside0 (r_Duration.l1 kq a0 x4_1 x5_1 x6_1 x7_3 x7_1 x9_3 = some (r1, r2)) ∧ Aside0 (kq ≤ kj2) ∧ Aside0 (Below w.heap.size w w'))
       case atStart => exact ⟨(x7_1), (0), eqd, eqd, H', ⟨Nat.le_refl _⟩, ⟨lk HB⟩⟩
       case round =>
        clear H'
        obtain ⟨x7_3, x9_3, rfl, rfl, HA, HK3, HB⟩ := hrel
        cases gk with
        | zero => exact absurd HA.out (by simp [r_Duration.l1])
        | succ k3 =>
         have H := HA.out
         clear HA
         simp only [r_Duration.l1] at H
         by_cases c7 : x7_3 < (a0.size : Int)
         ·
          rw [if_pos c7] at H
          have c7b0 := dt c7
          clear c7
          (first | rw [c7b0] | (simp only [i64_w, i32_w]; rw [c7b0]) | skip)
          by_cases c8 : 0 ≤ x7_3
          ·
           rw [if_pos c8] at H
           have c8b0 := dt c8
           clear c8
           replace H := bm H
           obtain ⟨t807, A100, H⟩ := H
           replace H : (if t807 = true then (if (wrap64 (x7_3 - x7_1)) < 16 then (r_Duration.l1 k3 a0 x4_1 x5_1 x6_1 (wrap64 (x7_3 + 1)) x7_1 (wrap64 ((wrap64 (10 * x9_3)) + (((bt a0 x7_3) - 48) % 256)))) else (r_Duration.j3 k3 a0 x4_1 x5_1 x6_1 x7_3 x7_1 x9_3)) else (r_Duration.j3 k3 a0 x4_1 x5_1 x6_1 x7_3 x7_1 x9_3)) = some (r1, r2) := H
           have A10 := am A100
           clear A100
           by_cases c11 : t807 = true
           ·
            subst c11
            have H1 : (if (wrap64 (x7_3 - x7_1)) < 16 then (r_Duration.l1 k3 a0 x4_1 x5_1 x6_1 (wrap64 (x7_3 + 1)) x7_1 (wrap64 ((wrap64 (10 * x9_3)) + (((bt a0 x7_3) - 48) % 256)))) else (r_Duration.j3 k3 a0 x4_1 x5_1 x6_1 x7_3 x7_1 x9_3)) = some (r1, r2) := by rw [if_pos rfl] at H; exact H
            clear H
            have H := H1
            clear H1
            by_cases c12 : (wrap64 (x7_3 - x7_1)) < 16
            ·
             rw [if_pos c12] at H
             have c12b0 := dt c12
             clear c12
             have H' := am H
             clear H
             have p9 : 0 ≤ (x7_3 : Int) := od
             have q9 : x7_3 < (a0.size : Int) := od
             have hx9 := bt_at a0 x7_3
             replace p9 := eq_true p9
             replace q9 := eq_true q9
             go_wp2_with (first | (go_at_call 71; (with_reducible refine (r_digit.calls (bt a0 x7_3) true _ A10.out).mono ?_); rintro e w' ⟨rfl, ⟨nd, rfl⟩⟩; have p13 : 0 ≤ (x7_3 : Int) := od; have q13 : x7_3 < (a0.size : Int) := od; have hx13 := bt_at a0 x7_3; replace p13 := eq_true p13; replace q13 := eq_true q13))
             go_roundg k3
             case measure => have := HK1.out; have := HJ2.out; have := HK3.out; omega
             case rel => exact ⟨(wrap64 (x7_3 + 1)), (wrap64 ((wrap64 (10 * x9_3)) + (((bt a0 x7_3) - 48) % 256))), eqd, eqd, H', ⟨by have := HK1.out; have := HJ2.out; have := HK3.out; omega⟩, ⟨lk HB⟩⟩
            rw [if_neg c12] at H
            have c12b0 := decide_eq_false c12
            clear c12
            have H' := am H
            clear H
            have p9 : 0 ≤ (x7_3 : Int) := od
            have q9 : x7_3 < (a0.size : Int) := od
            have hx9 := bt_at a0 x7_3
            replace p9 := eq_true p9
            replace q9 := eq_true q9
            go_wp2_with (first | (go_at_call 71; (with_reducible refine (r_digit.calls (bt a0 x7_3) true _ A10.out).mono ?_); rintro e w' ⟨rfl, ⟨nd, rfl⟩⟩))
            go_meet
            case rel => exact ⟨_, (x7_3), (x9_3), eqd, eqd, H', ⟨by have := HK1.out; have := HJ2.out; have := HK3.out; first | omega | exact Nat.le_refl _⟩, ⟨lk HB⟩⟩
           replace c11 := Bool.eq_false_iff.mpr c11
           subst c11
           have H1 : (r_Duration.j3 k3 a0 x4_1 x5_1 x6_1 x7_3 x7_1 x9_3) = some (r1, r2) := by rw [if_neg (show ¬ (false = true) by decide)] at H; exact H
           clear H
           have H := H1
           clear H1
           have H' := am H
           clear H
           have p9 : 0 ≤ (x7_3 : Int) := od
           have q9 : x7_3 < (a0.size : Int) := od
           have hx9 := bt_at a0 x7_3
           replace p9 := eq_true p9
           replace q9 := eq_true q9
           go_wp2_with (first | (go_at_call 71; (with_reducible refine (r_digit.calls (bt a0 x7_3) false _ A10.out).mono ?_); rintro e w' ⟨rfl, ⟨nd, rfl⟩⟩))
           go_meet
           case rel => exact ⟨_, (x7_3), (x9_3), eqd, eqd, H', ⟨by have := HK1.out; have := HJ2.out; have := HK3.out; first | omega | exact Nat.le_refl _⟩, ⟨lk HB⟩⟩
          rw [if_neg c8] at H
          exact absurd H (by simp)
         rw [if_neg c7] at H
         have c7b0 := decide_eq_false c7
         clear c7
         (first | rw [c7b0] | (simp only [i64_w, i32_w]; rw [c7b0]) | skip)
         have H' := am H
         clear H
         go_wp2
         go_meet
         case rel => exact ⟨_, (x7_3), (x9_3), eqd, eqd, H', ⟨by have := HK1.out; have := HJ2.out; have := HK3.out; first | omega | exact Nat.le_refl _⟩, ⟨lk HB⟩⟩
      case rest =>
       clear HC6
       obtain ⟨kq, x7_5, x9_5, rfl, rfl, HA, HJ5, HB⟩ := hcut
       cases kq with
       | zero => exact absurd HA.out (by simp [r_Duration.j3])
       | succ kj5 =>
        have H := HA.out
        clear HA
        simp only [r_Duration.j3] at H
        have HC14 := am H
        clear H
        go_upto_region 13 with (fail)
        go_cut [60] (fun v60 wc => ∃ (kq : Nat) (x60_13 : Bool), v60 = .bool x60_13 ∧ Aside0 (r_Duration.j4 kq a0 x4_1 x5_1 x6_1 x7_5 x9_5 x60_13 = some (r1, r2)) ∧ Aside0 (kq ≤ kj5) ∧ Aside0 (Below w.heap.size w wc))
        case first =>
         have H := HC14.out
         clear HC14
         by_cases c15 : x7_5 = x7_1
         ·
          rw [if_pos c15] at H
          have c15b0 : (x7_5 == x7_1) = true := beq_iff_eq.mpr c15
          have c15b1 : (x7_5 != x7_1) = false := bne_eq_false_iff_eq.mpr c15
          clear c15
          (first | rw [c15b0] | (simp only [i64_w, i32_w]; rw [c15b0]) | skip)
          have H' := am H
          clear H
          go_wp2
          go_meet
          case rel => exact ⟨_, (true), eqd, H', ⟨by have := HK1.out; have := HJ2.out; have := HJ5.out; first | omega | exact Nat.le_refl _⟩, ⟨lk HB⟩⟩
         rw [if_neg c15] at H
         have c15b0 : (x7_5 == x7_1) = false := beq_eq_false_iff_ne.mpr c15
         have c15b1 : (x7_5 != x7_1) = true := bne_iff_ne.mpr c15
         (first | rw [c15b0] | (simp only [i64_w, i32_w]; rw [c15b0]) | skip)
         have H' := am H
         clear H
         go_wp2
         go_meet
         case rel => exact ⟨_, (decide ((wrap64 (x7_5 - x7_1)) > 15)), eqd, H', ⟨by have := HK1.out; have := HJ2.out; have := HJ5.out; first | omega | exact Nat.le_refl _⟩, ⟨lk HB⟩⟩
        case rest =>
         clear HC14
         obtain ⟨kq, x60_13, rfl, HA, HJ13, HB⟩ := hcut
         cases kq with
         | zero => exact absurd HA.out (by simp [r_Duration.j4])
         | succ kj13 =>
          have H := HA.out
          clear HA
          simp only [r_Duration.j4] at H
          by_cases c16 : x60_13 = true
          ·
           subst c16
           have H1 : (some (0, 8)) = some (r1, r2) := by rw [if_pos rfl] at H; exact H
           clear H
           have H := H1
           clear H1
           simp only [Option.some.injEq, Prod.mk.injEq] at H
           obtain ⟨rfl, rfl⟩ := H
           go_wp2
           go_ret2
           exact ex (lk HB)
          replace c16 := Bool.eq_false_iff.mpr c16
          subst c16
          have H1 : (r_Duration.l2 kj13 a0 x4_1 x5_1 x6_1 x7_5 x9_5 x7_5) = some (r1, r2) := by rw [if_neg (show ¬ (false = true) by decide)] at H; exact H
          clear H
          have H := H1
          clear H1
          have HC17 := am H
          clear H
          go_upto_block 4 with (fail)
          go_cut [10] (fun v10 wc => ∃ (kq : Nat) (x10_16 : Int), v10 = .int .i64 x10_16 ∧ Aside0 (r_Duration.j6 kq a0 x4_1 x5_1 x6_1 x7_5 x9_5 x10_16 = some (r1, r2)) ∧ Aside0 (kq ≤ kj13) ∧ Aside0 (Below w.heap.size w wc))
          case first =>
           have H := HC17.out
           clear HC17
           have H' := am H
           clear H
           go_wp2
           go_loopg [10] kj13 (fun kq v10 w' => ∃ (x10_5 : Int), v10 = .int .i64 x10_5 ∧ Aside0 (r_Duration.l2 kq a0 x4_1 x5_1 x6_1 x7_5 x9_5 x10_5 = some (r1, r2)) ∧ Aside0 (kq ≤ kj13) ∧ Aside0 (Below w.heap.size w w'))
           case atStart => exact ⟨(x7_5), eqd, H', ⟨Nat.le_refl _⟩, ⟨lk HB⟩⟩
           case round =>
            clear H'
            obtain ⟨x10_5, rfl, HA, HK5, HB⟩ := hrel
            cases gk with
            | zero => exact absurd HA.out (by simp [r_Duration.l2])
            | succ k5 =>
             have H := HA.out
             clear HA
             simp only [r_Duration.l2] at H
             by_cases c18 : x10_5 < (a0.size : Int)
             ·
              rw [if_pos c18] at H
              have c18b0 := dt c18
              clear c18
              (first | rw [c18b0] | (simp only [i64_w, i32_w]; rw [c18b0]) | skip)
              by_cases c19 : 0 ≤ x10_5
              ·
               rw [if_pos c19] at H
               have c19b0 := dt c19
               clear c19
               by_cases c21 : (bt a0 x10_5) ≥ 97
               ·
                rw [if_pos c21] at H
                have c21b0 : decide (97 ≤ (bt a0 x10_5)) = true := dt c21
                clear c21
                by_cases c23 : (bt a0 x10_5) ≤ 122
                ·
                 rw [if_pos c23] at H
                 have c23b0 := dt c23
                 clear c23
                 have H' := am H
                 clear H
                 have p20 : 0 ≤ (x10_5 : Int) := od
                 have q20 : x10_5 < (a0.size : Int) := od
                 have hx20 := bt_at a0 x10_5
                 replace p20 := eq_true p20
                 replace q20 := eq_true q20
                 have p22 : 0 ≤ (x10_5 : Int) := od
                 have q22 : x10_5 < (a0.size : Int) := od
                 have hx22 := bt_at a0 x10_5
                 replace p22 := eq_true p22
                 replace q22 := eq_true q22
                 go_wp2
                 go_roundg k5
                 case measure => have := HK1.out; have := HJ2.out; have := HJ5.out; have := HJ13.out; have := HK5.out; omega
                 case rel => exact ⟨(wrap64 (x10_5 + 1)), eqd, H', ⟨by have := HK1.out; have := HJ2.out; have := HJ5.out; have := HJ13.out; have := HK5.out; omega⟩, ⟨lk HB⟩⟩
                rw [if_neg c23] at H
                have c23b0 := decide_eq_false c23
                clear c23
                have H' := am H
                clear H
                have p20 : 0 ≤ (x10_5 : Int) := od
                have q20 : x10_5 < (a0.size : Int) := od
                have hx20 := bt_at a0 x10_5
                replace p20 := eq_true p20
                replace q20 := eq_true q20
                have p22 : 0 ≤ (x10_5 : Int) := od
                have q22 : x10_5 < (a0.size : Int) := od
                have hx22 := bt_at a0 x10_5
                replace p22 := eq_true p22
                replace q22 := eq_true q22
                go_wp2
                go_meet
                case rel => exact ⟨_, (x10_5), eqd, H', ⟨by have := HK1.out; have := HJ2.out; have := HJ5.out; have := HJ13.out; have := HK5.out; first | omega | exact Nat.le_refl _⟩, ⟨lk HB⟩⟩
               rw [if_neg c21] at H
               have c21b0 : decide (97 ≤ (bt a0 x10_5)) = false := decide_eq_false c21
               clear c21
               have H' := am H
               clear H
               have p20 : 0 ≤ (x10_5 : Int) := od
               have q20 : x10_5 < (a0.size : Int) := od
               have hx20 := bt_at a0 x10_5
               replace p20 := eq_true p20
               replace q20 := eq_true q20
               go_wp2
               go_meet
               case rel => exact ⟨_, (x10_5), eqd, H', ⟨by have := HK1.out; have := HJ2.out; have := HJ5.out; have := HJ13.out; have := HK5.out; first | omega | exact Nat.le_refl _⟩, ⟨lk HB⟩⟩
              rw [if_neg c19] at H
              exact absurd H (by simp)
             rw [if_neg c18] at H
             have c18b0 := decide_eq_false c18
             clear c18
             (first | rw [c18b0] | (simp only [i64_w, i32_w]; rw [c18b0]) | skip)
             have H' := am H
             clear H
             go_wp2
             go_meet
             case rel => exact ⟨_, (x10_5), eqd, H', ⟨by have := HK1.out; have := HJ2.out; have := HJ5.out; have := HJ13.out; have := HK5.out; first | omega | exact Nat.le_refl _⟩, ⟨lk HB⟩⟩
          case rest =>
           clear HC17
           obtain ⟨kq, x10_16, rfl, HA, HJ16, HB⟩ := hcut
           cases kq with
           | zero => exact absurd HA.out (by simp [r_Duration.j6])
           | succ kj16 =>
            have H := HA.out
            clear HA
            simp only [r_Duration.j6] at H
            have H' := am H
            clear H
            go_wp2
            go_loopg [4, 5, 6, 11, 12] kj16 (fun kq v4 v5 v6 v11 v12 w' => ∃ (x4_6 : Int) (x5_6 : Int) (x6_6 : Bool) (x11_6 : Bool) (x12_6 : Int), v4 = .int .i64 x4_6 ∧ v5 = .int .i64 x5_6 ∧ v6 = .bool x6_6 ∧ v11 = .bool x11_6 ∧ v12 = .int .i64 x12_6 ∧ Aside0 (r_Duration.l3 kq a0 x4_6 x5_6 x6_6 x7_5 x9_5 x10_16 x11_6 x12_6 = some (r1, r2)) ∧ Aside0 (kq ≤ kj16) ∧ Aside0 (Below w.heap.size w w'))
            case atStart => exact ⟨(x4_1), (x5_1), (x6_1), (false), (x5_1), eqd, eqd, eqd, eqd, eqd, H', ⟨Nat.le_refl _⟩, ⟨lk HB⟩⟩
            case round =>
             clear H'
             obtain ⟨x4_6, x5_6, x6_6, x11_6, x12_6, rfl, rfl, rfl, rfl, rfl, HA, HK6, HB⟩ := hrel
             cases gk with
             | zero => exact absurd HA.out (by simp [r_Duration.l3])
             | succ k6 =>
              have H := HA.out
              clear HA
              simp only [r_Duration.l3] at H
              have HC24 := am H
              clear H
              go_upto_region 20 with (fail)
              go_cut [86] (fun v86 wc => ∃ (kq : Nat) (x86_23 : Bool), v86 = .bool x86_23 ∧ Aside0 (r_Duration.j8 kq a0 x4_6 x5_6 x6_6 x7_5 x9_5 x10_16 x11_6 x12_6 x86_23 = some (r1, r2)) ∧ Aside0 (kq ≤ k6) ∧ Aside0 (Below w.heap.size w wc))
              case first =>
               have H := HC24.out
               clear HC24
               by_cases c25 : x12_6 < 7
               ·
                rw [if_pos c25] at H
                have c25b0 := dt c25
                clear c25
                (first | rw [c25b0] | (simp only [i64_w, i32_w]; rw [c25b0]) | skip)
                have H' := am H
                clear H
                go_wp2
                go_meet
                case rel => exact ⟨_, (!x11_6), eqd, H', ⟨by have := HK1.out; have := HJ2.out; have := HJ5.out; have := HJ13.out; have := HJ16.out; have := HK6.out; first | omega | exact Nat.le_refl _⟩, ⟨lk HB⟩⟩
               rw [if_neg c25] at H
               have c25b0 := decide_eq_false c25
               clear c25
               (first | rw [c25b0] | (simp only [i64_w, i32_w]; rw [c25b0]) | skip)
               have H' := am H
               clear H
               go_wp2
               go_meet
               case rel => exact ⟨_, (false), eqd, H', ⟨by have := HK1.out; have := HJ2.out; have := HJ5.out; have := HJ13.out; have := HJ16.out; have := HK6.out; first | omega | exact Nat.le_refl _⟩, ⟨lk HB⟩⟩
              case rest =>
               clear HC24
               obtain ⟨kq, x86_23, rfl, HA, HJ23, HB⟩ := hcut
               cases kq with
               | zero => exact absurd HA.out (by simp [r_Duration.j8])
               | succ kj23 =>
                have H := HA.out
                clear HA
                simp only [r_Duration.j8] at H
                by_cases c26 : x86_23 = true
                ·
                 subst c26
                 have H1 : ((Hd.r_unit.f x12_6).bind fun bt808 => (if 0 ≤ x7_5 then (if x7_5 ≤ x10_16 then (if x10_16 ≤ (a0.size : Int) then (if (a0.extract (x7_5 : Int).toNat (x10_16 : Int).toNat).toList = bt808.1.toList then (if x9_5 > 0 then (if x9_5 = 0 then (none) else (if bt808.2 > (wrap64 (Int.tdiv (wrap64 (9007199254740992 - x4_6)) x9_5)) then (r_Duration.l3 kj23 a0 x4_6 (wrap64 (x12_6 + 1)) true x7_5 x9_5 x10_16 true (wrap64 (x12_6 + 1))) else (if x6_6 = true then (r_Duration.l3 kj23 a0 x4_6 (wrap64 (x12_6 + 1)) true x7_5 x9_5 x10_16 true (wrap64 (x12_6 + 1))) else (r_Duration.l3 kj23 a0 (wrap64 (x4_6 + (wrap64 (x9_5 * bt808.2)))) (wrap64 (x12_6 + 1)) x6_6 x7_5 x9_5 x10_16 true (wrap64 (x12_6 + 1)))))) else (if x6_6 = true then (r_Duration.l3 kj23 a0 x4_6 (wrap64 (x12_6 + 1)) true x7_5 x9_5 x10_16 true (wrap64 (x12_6 + 1))) else (r_Duration.l3 kj23 a0 (wrap64 (x4_6 + (wrap64 (x9_5 * bt808.2)))) (wrap64 (x12_6 + 1)) x6_6 x7_5 x9_5 x10_16 true (wrap64 (x12_6 + 1))))) else (r_Duration.l3 kj23 a0 x4_6 x5_6 x6_6 x7_5 x9_5 x10_16 x11_6 (wrap64 (x12_6 + 1)))) else (none)) else (none)) else (none))) = some (r1, r2) := by rw [if_pos rfl] at H; exact H
                 clear H
                 have H := H1
                 clear H1
                 replace H := bm H
                 obtain ⟨⟨t808, t809⟩, A270, H⟩ := H
                 replace H : (if 0 ≤ x7_5 then (if x7_5 ≤ x10_16 then (if x10_16 ≤ (a0.size : Int) then (if (a0.extract (x7_5 : Int).toNat (x10_16 : Int).toNat).toList = t808.toList then (if x9_5 > 0 then (if x9_5 = 0 then (none) else (if t809 > (wrap64 (Int.tdiv (wrap64 (9007199254740992 - x4_6)) x9_5)) then (r_Duration.l3 kj23 a0 x4_6 (wrap64 (x12_6 + 1)) true x7_5 x9_5 x10_16 true (wrap64 (x12_6 + 1))) else (if x6_6 = true then (r_Duration.l3 kj23 a0 x4_6 (wrap64 (x12_6 + 1)) true x7_5 x9_5 x10_16 true (wrap64 (x12_6 + 1))) else (r_Duration.l3 kj23 a0 (wrap64 (x4_6 + (wrap64 (x9_5 * t809)))) (wrap64 (x12_6 + 1)) x6_6 x7_5 x9_5 x10_16 true (wrap64 (x12_6 + 1)))))) else (if x6_6 = true then (r_Duration.l3 kj23 a0 x4_6 (wrap64 (x12_6 + 1)) true x7_5 x9_5 x10_16 true (wrap64 (x12_6 + 1))) else (r_Duration.l3 kj23 a0 (wrap64 (x4_6 + (wrap64 (x9_5 * t809)))) (wrap64 (x12_6 + 1)) x6_6 x7_5 x9_5 x10_16 true (wrap64 (x12_6 + 1))))) else (r_Duration.l3 kj23 a0 x4_6 x5_6 x6_6 x7_5 x9_5 x10_16 x11_6 (wrap64 (x12_6 + 1)))) else (none)) else (none)) else (none)) = some (r1, r2) := H
                 have A27 := am A270
                 clear A270
                 by_cases c28 : 0 ≤ x7_5
                 ·
                  rw [if_pos c28] at H
                  have c28b0 := eq_true c28
                  have c28b1 := dt c28
                  clear c28
                  by_cases c29 : x7_5 ≤ x10_16
                  ·
                   rw [if_pos c29] at H
                   have c29b0 := eq_true c29
                   have c29b1 := dt c29
                   clear c29
                   by_cases c30 : x10_16 ≤ (a0.size : Int)
                   ·
                    rw [if_pos c30] at H
                    have c30b0 := eq_true c30
                    have c30b1 := dt c30
                    clear c30
                    obtain ⟨y810, hy810⟩ : ∃ y_ : ByteArray, y_ = (a0.extract (x7_5 : Int).toNat (x10_16 : Int).toNat) := ⟨_, rfl⟩
                    replace H : (if y810.toList = t808.toList then (if x9_5 > 0 then (if x9_5 = 0 then (none) else (if t809 > (wrap64 (Int.tdiv (wrap64 (9007199254740992 - x4_6)) x9_5)) then (r_Duration.l3 kj23 a0 x4_6 (wrap64 (x12_6 + 1)) true x7_5 x9_5 x10_16 true (wrap64 (x12_6 + 1))) else (if x6_6 = true then (r_Duration.l3 kj23 a0 x4_6 (wrap64 (x12_6 + 1)) true x7_5 x9_5 x10_16 true (wrap64 (x12_6 + 1))) else (r_Duration.l3 kj23 a0 (wrap64 (x4_6 + (wrap64 (x9_5 * t809)))) (wrap64 (x12_6 + 1)) x6_6 x7_5 x9_5 x10_16 true (wrap64 (x12_6 + 1)))))) else (if x6_6 = true then (r_Duration.l3 kj23 a0 x4_6 (wrap64 (x12_6 + 1)) true x7_5 x9_5 x10_16 true (wrap64 (x12_6 + 1))) else (r_Duration.l3 kj23 a0 (wrap64 (x4_6 + (wrap64 (x9_5 * t809)))) (wrap64 (x12_6 + 1)) x6_6 x7_5 x9_5 x10_16 true (wrap64 (x12_6 + 1))))) else (r_Duration.l3 kj23 a0 x4_6 x5_6 x6_6 x7_5 x9_5 x10_16 x11_6 (wrap64 (x12_6 + 1)))) = some (r1, r2) := by first | (rw [hy810]; exact H) | exact H
                    have Ny810 := am hy810
                    clear hy810
                    by_cases c31 : y810.toList = t808.toList
                    ·
                     rw [if_pos c31] at H
                     have c31b0 : (y810.toList == t808.toList) = true := beq_iff_eq.mpr c31
                     have c31b1 : (y810.toList != t808.toList) = false := bne_eq_false_iff_eq.mpr c31
                     clear c31
                     by_cases c32 : x9_5 > 0
                     ·
                      rw [if_pos c32] at H
                      have c32b0 : decide (0 < x9_5) = true := dt c32
                      clear c32
                      by_cases c33 : x9_5 = 0
                      ·
                       rw [if_pos c33] at H
                       exact absurd H (by simp)
                      rw [if_neg c33] at H
                      have c33b0 : (x9_5 == 0) = false := beq_eq_false_iff_ne.mpr c33
                      have c33b1 : (x9_5 != 0) = true := bne_iff_ne.mpr c33
                      by_cases c34 : t809 > (wrap64 (Int.tdiv (wrap64 (9007199254740992 - x4_6)) x9_5))
                      ·
                       rw [if_pos c34] at H
                       have c34b0 : decide ((wrap64 (Int.tdiv (wrap64 (9007199254740992 - x4_6)) x9_5)) < t809) = true := dt c34
                       clear c34
                       have H' := am H
                       clear H
                       go_wp2_with (first | (refine gL (some 91) Tryd.func80 #[.int .i64 x12_6] ?_; (with_reducible refine (Hd.r_unit.calls x12_6 t808 t809 _ A27.out).mono ?_); rintro e w35 ⟨rfl, hb⟩; refine ⟨_, rfl, ?_⟩; replace HB := lb HB hb; have hcs36 := Hd.str_cut (P := Tryd.prog) (k := .i64) (k' := .i64) Tryd.underlying9 (i := x7_5) (j := x10_16) (s := a0) (y := y810) oo oo oo Ny810.out))
                       go_roundg kj23
                       case measure => have := HK1.out; have := HJ2.out; have := HJ5.out; have := HJ13.out; have := HJ16.out; have := HK6.out; have := HJ23.out; omega
                       case rel => exact ⟨(x4_6), (wrap64 (x12_6 + 1)), (true), (true), (wrap64 (x12_6 + 1)), eqd, eqd, eqd, eqd, eqd, H', ⟨by have := HK1.out; have := HJ2.out; have := HJ5.out; have := HJ13.out; have := HJ16.out; have := HK6.out; have := HJ23.out; omega⟩, ⟨lk HB⟩⟩
                      rw [if_neg c34] at H
                      have c34b0 : decide ((wrap64 (Int.tdiv (wrap64 (9007199254740992 - x4_6)) x9_5)) < t809) = false := decide_eq_false c34
                      clear c34
                      by_cases c37 : x6_6 = true
                      ·
                       subst c37
                       have H1 : (r_Duration.l3 kj23 a0 x4_6 (wrap64 (x12_6 + 1)) true x7_5 x9_5 x10_16 true (wrap64 (x12_6 + 1))) = some (r1, r2) := by rw [if_pos rfl] at H; exact H
                       clear H
                       have H := H1
                       clear H1
                       have H' := am H
                       clear H
                       go_wp2_with (first | (refine gL (some 91) Tryd.func80 #[.int .i64 x12_6] ?_; (with_reducible refine (Hd.r_unit.calls x12_6 t808 t809 _ A27.out).mono ?_); rintro e w38 ⟨rfl, hb⟩; refine ⟨_, rfl, ?_⟩; replace HB := lb HB hb; have hcs39 := Hd.str_cut (P := Tryd.prog) (k := .i64) (k' := .i64) Tryd.underlying9 (i := x7_5) (j := x10_16) (s := a0) (y := y810) oo oo oo Ny810.out))
                       go_roundg kj23
                       case measure => have := HK1.out; have := HJ2.out; have := HJ5.out; have := HJ13.out; have := HJ16.out; have := HK6.out; have := HJ23.out; omega
                       case rel => exact ⟨(x4_6), (wrap64 (x12_6 + 1)), (true), (true), (wrap64 (x12_6 + 1)), eqd, eqd, eqd, eqd, eqd, H', ⟨by have := HK1.out; have := HJ2.out; have := HJ5.out; have := HJ13.out; have := HJ16.out; have := HK6.out; have := HJ23.out; omega⟩, ⟨lk HB⟩⟩
                      replace c37 := Bool.eq_false_iff.mpr c37
                      subst c37
                      have H1 : (r_Duration.l3 kj23 a0 (wrap64 (x4_6 + (wrap64 (x9_5 * t809)))) (wrap64 (x12_6 + 1)) false x7_5 x9_5 x10_16 true (wrap64 (x12_6 + 1))) = some (r1, r2) := by rw [if_neg (show ¬ (false = true) by decide)] at H; exact H
                      clear H
                      have H := H1
                      clear H1
                      have H' := am H
                      clear H
                      go_wp2_with (first | (refine gL (some 91) Tryd.func80 #[.int .i64 x12_6] ?_; (with_reducible refine (Hd.r_unit.calls x12_6 t808 t809 _ A27.out).mono ?_); rintro e w40 ⟨rfl, hb⟩; refine ⟨_, rfl, ?_⟩; replace HB := lb HB hb; have hcs41 := Hd.str_cut (P := Tryd.prog) (k := .i64) (k' := .i64) Tryd.underlying9 (i := x7_5) (j := x10_16) (s := a0) (y := y810) oo oo oo Ny810.out))
                      go_roundg kj23
                      case measure => have := HK1.out; have := HJ2.out; have := HJ5.out; have := HJ13.out; have := HJ16.out; have := HK6.out; have := HJ23.out; omega
                      case rel => exact ⟨(wrap64 (x4_6 + (wrap64 (x9_5 * t809)))), (wrap64 (x12_6 + 1)), (false), (true), (wrap64 (x12_6 + 1)), eqd, eqd, eqd, eqd, eqd, H', ⟨by have := HK1.out; have := HJ2.out; have := HJ5.out; have := HJ13.out; have := HJ16.out; have := HK6.out; have := HJ23.out; omega⟩, ⟨lk HB⟩⟩
                     rw [if_neg c32] at H
                     have c32b0 : decide (0 < x9_5) = false := decide_eq_false c32
                     clear c32
                     by_cases c42 : x6_6 = true
                     ·
                      subst c42
                      have H1 : (r_Duration.l3 kj23 a0 x4_6 (wrap64 (x12_6 + 1)) true x7_5 x9_5 x10_16 true (wrap64 (x12_6 + 1))) = some (r1, r2) := by rw [if_pos rfl] at H; exact H
                      clear H
                      have H := H1
                      clear H1
                      have H' := am H
                      clear H
                      go_wp2_with (first | (refine gL (some 91) Tryd.func80 #[.int .i64 x12_6] ?_; (with_reducible refine (Hd.r_unit.calls x12_6 t808 t809 _ A27.out).mono ?_); rintro e w43 ⟨rfl, hb⟩; refine ⟨_, rfl, ?_⟩; replace HB := lb HB hb; have hcs44 := Hd.str_cut (P := Tryd.prog) (k := .i64) (k' := .i64) Tryd.underlying9 (i := x7_5) (j := x10_16) (s := a0) (y := y810) oo oo oo Ny810.out))
                      go_roundg kj23
                      case measure => have := HK1.out; have := HJ2.out; have := HJ5.out; have := HJ13.out; have := HJ16.out; have := HK6.out; have := HJ23.out; omega
                      case rel => exact ⟨(x4_6), (wrap64 (x12_6 + 1)), (true), (true), (wrap64 (x12_6 + 1)), eqd, eqd, eqd, eqd, eqd, H', ⟨by have := HK1.out; have := HJ2.out; have := HJ5.out; have := HJ13.out; have := HJ16.out; have := HK6.out; have := HJ23.out; omega⟩, ⟨lk HB⟩⟩
                     replace c42 := Bool.eq_false_iff.mpr c42
                     subst c42
                     have H1 : (r_Duration.l3 kj23 a0 (wrap64 (x4_6 + (wrap64 (x9_5 * t809)))) (wrap64 (x12_6 + 1)) false x7_5 x9_5 x10_16 true (wrap64 (x12_6 + 1))) = some (r1, r2) := by rw [if_neg (show ¬ (false = true) by decide)] at H; exact H
                     clear H
                     have H := H1
                     clear H1
                     have H' := am H
                     clear H
                     go_wp2_with (first | (refine gL (some 91) Tryd.func80 #[.int .i64 x12_6] ?_; (with_reducible refine (Hd.r_unit.calls x12_6 t808 t809 _ A27.out).mono ?_); rintro e w45 ⟨rfl, hb⟩; refine ⟨_, rfl, ?_⟩; replace HB := lb HB hb; have hcs46 := Hd.str_cut (P := Tryd.prog) (k := .i64) (k' := .i64) Tryd.underlying9 (i := x7_5) (j := x10_16) (s := a0) (y := y810) oo oo oo Ny810.out))
                     go_roundg kj23
                     case measure => have := HK1.out; have := HJ2.out; have := HJ5.out; have := HJ13.out; have := HJ16.out; have := HK6.out; have := HJ23.out; omega
                     case rel => exact ⟨(wrap64 (x4_6 + (wrap64 (x9_5 * t809)))), (wrap64 (x12_6 + 1)), (false), (true), (wrap64 (x12_6 + 1)), eqd, eqd, eqd, eqd, eqd, H', ⟨by have := HK1.out; have := HJ2.out; have := HJ5.out; have := HJ13.out; have := HJ16.out; have := HK6.out; have := HJ23.out; omega⟩, ⟨lk HB⟩⟩
                    rw [if_neg c31] at H
                    have c31b0 : (y810.toList == t808.toList) = false := beq_eq_false_iff_ne.mpr c31
                    have c31b1 : (y810.toList != t808.toList) = true := bne_iff_ne.mpr c31
                    have H' := am H
                    clear H
                    go_wp2_with (first | (refine gL (some 91) Tryd.func80 #[.int .i64 x12_6] ?_; (with_reducible refine (Hd.r_unit.calls x12_6 t808 t809 _ A27.out).mono ?_); rintro e w47 ⟨rfl, hb⟩; refine ⟨_, rfl, ?_⟩; replace HB := lb HB hb; have hcs48 := Hd.str_cut (P := Tryd.prog) (k := .i64) (k' := .i64) Tryd.underlying9 (i := x7_5) (j := x10_16) (s := a0) (y := y810) oo oo oo Ny810.out))
                    go_roundg kj23
                    case measure => have := HK1.out; have := HJ2.out; have := HJ5.out; have := HJ13.out; have := HJ16.out; have := HK6.out; have := HJ23.out; omega
                    case rel => exact ⟨(x4_6), (x5_6), (x6_6), (x11_6), (wrap64 (x12_6 + 1)), eqd, eqd, eqd, eqd, eqd, H', ⟨by have := HK1.out; have := HJ2.out; have := HJ5.out; have := HJ13.out; have := HJ16.out; have := HK6.out; have := HJ23.out; omega⟩, ⟨lk HB⟩⟩
                   rw [if_neg c30] at H
                   exact absurd H (by simp)
                  rw [if_neg c29] at H
                  exact absurd H (by simp)
                 rw [if_neg c28] at H
                 exact absurd H (by simp)
                replace c26 := Bool.eq_false_iff.mpr c26
                subst c26
                have H1 : (if x11_6 = true then (r_Duration.l0 kj23 a0 x4_6 x5_6 x6_6 x10_16) else (some (0, 8))) = some (r1, r2) := by rw [if_neg (show ¬ (false = true) by decide)] at H; exact H
                clear H
                have H := H1
                clear H1
                by_cases c49 : x11_6 = true
                ·
                 subst c49
                 have H1 : (r_Duration.l0 kj23 a0 x4_6 x5_6 x6_6 x10_16) = some (r1, r2) := by rw [if_pos rfl] at H; exact H
                 clear H
                 have H := H1
                 clear H1
                 have H' := am H
                 clear H
                 go_wp2
                 go_roundg kj23
                 case measure => have := HK1.out; have := HJ2.out; have := HJ5.out; have := HJ13.out; have := HJ16.out; have := HK6.out; have := HJ23.out; omega
                 case rel => exact ⟨(x4_6), (x5_6), (x6_6), (x10_16), eqd, eqd, eqd, eqd, H', ⟨by have := HK1.out; have := HJ2.out; have := HJ5.out; have := HJ13.out; have := HJ16.out; have := HK6.out; have := HJ23.out; omega⟩, ⟨lk HB⟩⟩
                replace c49 := Bool.eq_false_iff.mpr c49
                subst c49
                have H1 : (some (0, 8)) = some (r1, r2) := by rw [if_neg (show ¬ (false = true) by decide)] at H; exact H
                clear H
                have H := H1
                clear H1
                simp only [Option.some.injEq, Prod.mk.injEq] at H
                obtain ⟨rfl, rfl⟩ := H
                go_wp2
                go_ret2
                exact ex (lk HB)
     replace c5 := Bool.eq_false_iff.mpr c5
     subst c5
     have H1 : (if x6_1 = true then (some (0, 9)) else (some (x4_1, 0))) = some (r1, r2) := by rw [if_neg (show ¬ (false = true) by decide)] at H; exact H
     clear H
     have H := H1
     clear H1
     by_cases c50 : x6_1 = true
     ·
      subst c50
      have H1 : (some (0, 9)) = some (r1, r2) := by rw [if_pos rfl] at H; exact H
      clear H
      have H := H1
      clear H1
      simp only [Option.some.injEq, Prod.mk.injEq] at H
      obtain ⟨rfl, rfl⟩ := H
      go_wp2
      go_ret2
      exact ex (lk HB)
     replace c50 := Bool.eq_false_iff.mpr c50
     subst c50
     have H1 : (some (x4_1, 0)) = some (r1, r2) := by rw [if_neg (show ¬ (false = true) by decide)] at H; exact H
     clear H
     have H := H1
     clear H1
     simp only [Option.some.injEq, Prod.mk.injEq] at H
     obtain ⟨rfl, rfl⟩ := H
     go_wp2
     go_ret2
     exact ex (lk HB)
end Go.Proofs.YtjlnfnfdibfniaaDoor.F
namespace Go.Proofs.YtjlnfnfdibfniaaDoor.Hd
open Go.RowKit Go.Lib Go.Shelf Go.Proofs.YW.PWords Go.Proofs.YW.PLast
def isAz (c : UInt8) : Bool := decide (97 ≤ c.toNat) && decide (c.toNat ≤ 122)
def azRun (s : ByteArray) : Nat := (s.data.toList.takeWhile isAz).length
def azIdx (s : ByteArray) : Int := if azRun s < s.size then (azRun s : Int) else -1
def offR (R : Int) : Bool := decide (R < 97) || decide (R > 122)
theorem off_any (R : Int) (w : World) : Calls Tryd.prog 79 #[.int .i32 R] w fun e w' => e = .returned (.bool (offR R)) ∧ w = w' := by
 by_cases h1 : R < 97
 ·
  have hb : decide (R < 97) = true := decide_eq_true h1
  have hv : offR R = true := by unfold offR; rw [hb]; rfl
  rw [hv]
  go_enter Tryd.func79, Tryd.ntmps79
  go_wp2
  go_ret
  exact ⟨rfl, rfl⟩
 ·
  have hb : decide (R < 97) = false := decide_eq_false h1
  by_cases h2 : 122 < R
  ·
   have hc : decide (122 < R) = true := decide_eq_true h2
   have hv : offR R = true := by unfold offR; rw [decide_eq_true (p := R > 122) h2, Bool.or_true]
   rw [hv]
   go_enter Tryd.func79, Tryd.ntmps79
   go_wp2
   go_ret
   exact ⟨rfl, rfl⟩
  ·
   have hc : decide (122 < R) = false := decide_eq_false h2
   have hv : offR R = false := by unfold offR; rw [decide_eq_false (p := R > 122) h2, hb]; rfl
   rw [hv]
   go_enter Tryd.func79, Tryd.ntmps79
   go_wp2
   go_ret
   exact ⟨rfl, rfl⟩
theorem az_size (s : ByteArray) : s.data.toList.length = s.size := by rw [Array.length_toList]; rfl
theorem tw_stop {p : UInt8 → Bool} : ∀ (l : List UInt8) (i : Nat) (h : i < l.length), i ≤ (l.takeWhile p).length → p l[i] = false → (l.takeWhile p).length = i
 | [], i, h, _, _ => by simp at h
 | c :: r, 0, _, _, hp => by rw [List.takeWhile_cons_of_neg (by rw [List.getElem_cons_zero] at hp; rw [hp]; exact Bool.false_ne_true)]; rfl
 | c :: r, i + 1, h, hi, hp => by
  rw [List.takeWhile_cons] at hi ⊢
  split at hi
  ·
   rename_i g
   rw [if_pos g, List.length_cons]
   simp only [List.length_cons] at hi h
   rw [tw_stop (p := p) r i (by omega) (by omega) (by simpa using hp)]
  ·
   simp at hi
theorem tw_go {p : UInt8 → Bool} : ∀ (l : List UInt8) (i : Nat) (h : i < l.length), i ≤ (l.takeWhile p).length → p l[i] = true → i + 1 ≤ (l.takeWhile p).length
 | [], i, h, _, _ => by simp at h
 | c :: r, 0, _, _, hp => by rw [List.takeWhile_cons_of_pos (by simpa using hp), List.length_cons]; omega
 | c :: r, i + 1, h, hi, hp => by
  rw [List.takeWhile_cons] at hi ⊢
  split at hi
  ·
   rename_i g
   rw [if_pos g, List.length_cons]
   simp only [List.length_cons] at hi h
   have := tw_go (p := p) r i (by omega) (by omega) (by simpa using hp)
   omega
  ·
   simp at hi
theorem az_at (s : ByteArray) (pos : Nat) (h : pos < s.size) : (isAz (s[pos]'h) = true → Utf8.decode s pos = ((s[pos]'h).toNat, 1) ∧ offR ((s[pos]'h).toNat : Nat) = false) ∧ (isAz (s[pos]'h) = false → offR ((Utf8.decode s pos).1 : Nat) = true) := by
 constructor
 ·
  intro g
  simp only [isAz, Bool.and_eq_true, decide_eq_true_eq] at g
  refine ⟨decode_ascii s pos h (by omega), ?_⟩
  unfold offR
  rw [decide_eq_false (by omega), decide_eq_false (by omega)]; rfl
 ·
  intro g
  simp only [isAz, Bool.and_eq_false_iff, decide_eq_false_iff_not] at g
  unfold offR
  rw [Bool.or_eq_true, decide_eq_true_eq, decide_eq_true_eq]
  rcases Nat.lt_or_ge (s[pos]'h).toNat 128 with c | c
  ·
   rw [decode_ascii s pos h c]
   simp only
   omega
  ·
   have := (decode_high s pos h c).1
   omega
set_option maxHeartbeats 2000000 in
set_option maxRecDepth 1000000 in
theorem indexFunc_any (s : ByteArray) (w : World) :
  Calls Tryd.prog 105 #[.string s, .func (.func 79) #[] #[], .bool true] w fun e w' => e = .returned (.int .i64 (azIdx s)) ∧ Below w.heap.size w w' := by
 have e79 : ∀ args w, (callFunc 79 args).run Tryd.prog w = .ok (.enter 79 args) w := enters_of Tryd.func79 (by kernel_rfl) rfl
 have hl := az_size s
 go_enter Tryd.func105, Tryd.ntmps105
 go_wp2
 go_loopg [] s.size (fun g wx => ∃ pos : Nat, wx.heap[w.heap.size]? = some (.stringIter s pos) ∧ Below w.heap.size w wx ∧ pos ≤ azRun s ∧ s.size = pos + g)
 case atStart => exact ⟨0, World.iter_heap w s 0, (Below.refl _ w).alloc (Nat.le_refl _) _, Nat.zero_le _, by omega⟩
 case round =>
  obtain ⟨pos, hit, hbw, hrun, hfu⟩ := hrel
  have hsz : w.heap.size < wr.heap.size := (Array.getElem?_eq_some_iff.1 hit).1
  by_cases hp : pos < s.size
  ·
   obtain ⟨g, rfl⟩ : ∃ g, gk = g + 1 := ⟨gk - 1, by omega⟩
   have hnx : ∀ ty, (Instr.next (.pointer (some ⟨w.heap.size, 0, none⟩)) true ty).run Tryd.prog wr = _ := fun ty => Lib.run_next_any_at wr w.heap.size s pos ty hit hp
   obtain ⟨haz, hno⟩ := az_at s pos hp
   obtain ⟨R, hR⟩ : ∃ R, (Utf8.decode s pos).1 = R := ⟨_, rfl⟩
   obtain ⟨K, hK⟩ : ∃ K, (Utf8.decode s pos).2 = K := ⟨_, rfl⟩
   rw [hR, hK] at hnx
   have hit2 := Lib.iterAt_heap wr w.heap.size s pos (pos + K) hit
   have hbw2 := Lib.below_iterAt hbw (k := w.heap.size) (Nat.le_refl _) s (pos + K)
   obtain ⟨W, hWd⟩ : ∃ W, wr.iterAt w.heap.size s (pos + K) = W := ⟨_, rfl⟩
   rw [hWd] at hnx hit2 hbw2
   have cS := off_any (R : Int) W
   have hel : s.data.toList[pos]'(by rw [hl]; exact hp) = s[pos]'hp := by rw [Array.getElem_toList]; rfl
   cases haB : isAz (s[pos]'hp) with
   | true =>
    obtain ⟨g1, g2⟩ := haz haB
    have hR2 : R = (s[pos]'hp).toNat := by rw [← hR, g1]
    have hK2 : K = 1 := by rw [← hK, g1]
    have hrun2 : pos + 1 ≤ azRun s := tw_go s.data.toList pos (by rw [hl]; exact hp) hrun (by rw [hel]; exact haB)
    rw [hR2, g2] at cS
    rw [hR2] at hnx
    clear haz hno g1 g2 haB hR hR2 hel
    go_wp2_with (go_at_fn 79; go_fit cS; rintro e W' ⟨rfl, rfl⟩)
    go_roundg g
    case measure => omega
    case rel => exact ⟨pos + K, hit2, hbw2, by omega, by omega⟩
   | false =>
    have g2 := hno haB
    rw [hR] at g2
    have hrun2 : azRun s = pos := tw_stop s.data.toList pos (by rw [hl]; exact hp) hrun (by rw [hel]; exact haB)
    rw [g2] at cS
    have hres : azIdx s = (pos : Int) := by unfold azIdx; rw [hrun2, if_pos hp]
    clear haz hno g2 haB hel
    go_wp2_with (go_at_fn 79; go_fit cS; rintro e W' ⟨rfl, rfl⟩)
    go_ret
    exact ⟨by first | rfl | (rw [hres]; rfl), hbw2⟩
  ·
   have hnx : ∀ ty, (Instr.next (.pointer (some ⟨w.heap.size, 0, none⟩)) true ty).run Tryd.prog wr = _ := fun ty => Lib.run_next_end_at wr w.heap.size s pos ty hit hp
   have hres : azIdx s = -1 := by
    unfold azIdx
    rw [if_neg (by omega)]
   go_wp2
   go_ret
   exact ⟨by first | rfl | (rw [hres]; rfl), hbw⟩
theorem ne_nil_bool (l : List UInt8) : (l != []) = !l.isEmpty := by cases l <;> rfl
def strings_IndexFunc.f (s : ByteArray) (_ : Nat) : Option Int := some (azIdx s)
theorem strings_IndexFunc.calls (s : ByteArray) (g : Nat) (r : Int) (w : World) (h : strings_IndexFunc.f s g = some r) (hg : g = 79 := by exact rfl) :
  Calls Tryd.prog 78 #[.string s, .func (.func g) #[] #[]] w fun e w' => e = .returned (.int .i64 r) ∧ Below w.heap.size w w' := by
 cases h
 subst hg
 have c := indexFunc_any s w
 go_enter Tryd.func78, Tryd.ntmps78
 go_wp2_with (go_at_call 105; refine c.mono ?_; rintro e w' ⟨rfl, hb⟩)
 go_ret
 exact ⟨rfl, hb⟩
end Go.Proofs.YtjlnfnfdibfniaaDoor.Hd

