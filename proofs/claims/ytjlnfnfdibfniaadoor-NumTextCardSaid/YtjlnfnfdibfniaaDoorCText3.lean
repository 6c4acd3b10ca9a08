/- Words and walked functions of the proof (part 3). -/
import Derived.Test.YtjlnfnfdibfniaaDoorCText2
namespace Go.Proofs.YtjlnfnfdibfniaaDoor.F
open Go.RowKit Go.Proofs.YW.PWords Go.Proofs.YW.PLast Go.Proofs.YW.PMore
attribute [local go_sem] max2_int min2_int max_two min_two max_three min_three max_four min_four
set_option linter.unusedVariables false
set_option linter.unusedSimpArgs false
set_option maxRecDepth 100000
def IsS3 (w0 W : World) (g : Nat) (f0 : Int) : Prop := W.heap[g]? = some (.cells #[.int .i64 f0] 3 (0, 0)) ∧ w0.heap.size ≤ g
theorem IsS3.grown {w0 W : World} {g : Nat} {f0 : Int} {W1 : World} {row : Option Nat} (h : IsS3 w0 W g f0) (hw : W.grownBy W1 row) (hne : some g ≠ row) : IsS3 w0 W1 g f0 := by
 obtain ⟨hb, hg⟩ := h
 exact ⟨blk_grown hb hw hne, hg⟩
theorem IsS3.own_neN {w0 W : World} {g : Nat} {f0 : Int} {α : Type} {d : Kd α} {e : Nat} {base : Nat} {ok : Nat → Prop} {v : Value} {xs : List α} (h : IsS3 w0 W g f0) (ho : Kd.N d e W base ok v xs) (ht : e ≠ 3) : some g ≠ v.ownBlock := by
 obtain ⟨hb, hg⟩ := h
 exact Kd.N_ne ho hb ht
theorem IsS3.fresh {w0 W : World} {g : Nat} {f0 : Int} (h : IsS3 w0 W g f0) : ∀ k, W.heap.size ≤ k → k ≠ g := by
 obtain ⟨hb, hg⟩ := h
 exact Kd.freshB hb
theorem IsS3.kept {w0 W : World} {g : Nat} {f0 : Int} {W1 : World} {S : Nat → Prop} (h : IsS3 w0 W g f0) (hk : Kept W W1 S) (hne : ¬ S g) : IsS3 w0 W1 g f0 := by
 obtain ⟨hb, hg⟩ := h
 exact ⟨blk_kept hb hk hne, hg⟩
theorem IsS3.below {w0 W : World} {g : Nat} {f0 : Int} {W1 : World} (h : IsS3 w0 W g f0) (hw : Below W.heap.size W W1) : IsS3 w0 W1 g f0 := h.grown (grown_of_below hw none) (by simp)
theorem IsS3.alloc {w0 W : World} {g : Nat} {f0 : Int} (h : IsS3 w0 W g f0) (o : Obj) : IsS3 w0 (W.alloc o) g f0 := h.below (below_alloc (Below.refl _ _) o)
theorem IsS3.drewN {w0 W : World} {g : Nat} {f0 : Int} (h : IsS3 w0 W g f0) (m : Nat) : IsS3 w0 (W.drewN m) g f0 := h
theorem IsS3.drew {w0 W : World} {g : Nat} {f0 : Int} (h : IsS3 w0 W g f0) : IsS3 w0 W.drew g f0 := h
theorem IsS3.at_ {w0 W : World} {g : Nat} {f0 : Int} {w' : World} {m : Nat} (hq : W.drewN m = w') (h : IsS3 w0 W g f0) : IsS3 w0 w' g f0 := by subst hq; exact IsS3.drewN h m
theorem IsS3.apart {w0 W : World} {g : Nat} {f0 : Int} {α : Type} {d : Kd α} {e : Nat} {base : Nat} {ok : Nat → Prop} {v : Value} {xs : List α} (h : IsS3 w0 W g f0) (ho : d.R e W base ok v xs) (ht : ∀ q, q ∈ e :: d.E → q ≠ 3) : d.R e W base (fun k => ok k ∧ k ≠ g) v xs := by
 obtain ⟨hb, hg⟩ := h
 exact Kd.R_types ho hb ht
theorem IsS3.own_ne {w0 W : World} {g : Nat} {f0 : Int} {α : Type} {d : Kd α} {e : Nat} {base : Nat} {ok : Nat → Prop} {v : Value} {xs : List α} (h : IsS3 w0 W g f0) (ho : d.R e W base ok v xs) (ht : e ≠ 3) : some g ≠ v.ownBlock := by
 obtain ⟨hb, hg⟩ := h
 exact Kd.R_ne ho hb ht
theorem IsS3.apartQ {w0 W : World} {g : Nat} {f0 : Int} {α : Type} {d : Kd α} {e : Nat} {base : Nat} {ok : Nat → Prop} {v : Value} {xs : List α} (h : IsS3 w0 W g f0) (ho : d.Q e W base ok v xs) (ht : ∀ q, q ∈ e :: d.E → q ≠ 3) : d.Q e W base (fun k => ok k ∧ k ≠ g) v xs := by
 obtain ⟨hb, hg⟩ := h
 exact Kd.Q_types ho hb ht
theorem IsS3.own_neQ {w0 W : World} {g : Nat} {f0 : Int} {α : Type} {d : Kd α} {e : Nat} {base : Nat} {ok : Nat → Prop} {v : Value} {xs : List α} (h : IsS3 w0 W g f0) (ho : d.Q e W base ok v xs) (ht : e ≠ 3) : some g ≠ v.ownBlock := by
 obtain ⟨hb, hg⟩ := h
 exact Kd.Q_ne ho hb ht
theorem IsS3.apartS {w0 W : World} {g : Nat} {f0 : Int} {α : Type} {d : Kd α} {e : Nat} {base : Nat} {ok : Nat → Prop} {v : Value} {xs : List α} (h : IsS3 w0 W g f0) (ho : d.S e W base ok v xs) (ht : ∀ q, q ∈ e :: d.E → q ≠ 3) : d.S e W base (fun k => ok k ∧ k ≠ g) v xs := by
 obtain ⟨hb, hg⟩ := h
 exact Kd.S_types ho hb ht
theorem IsS3.own_neS {w0 W : World} {g : Nat} {f0 : Int} {α : Type} {d : Kd α} {e : Nat} {base : Nat} {ok : Nat → Prop} {v : Value} {xs : List α} (h : IsS3 w0 W g f0) (ho : d.S e W base ok v xs) (ht : e ≠ 3) : some g ≠ v.ownBlock := by
 obtain ⟨hb, hg⟩ := h
 exact Kd.S_ne ho hb ht
theorem IsS3.lt {w0 W : World} {g : Nat} {f0 : Int} (h : IsS3 w0 W g f0) : g < W.heap.size := by
 obtain ⟨hb, hg⟩ := h
 exact blk_lt hb
theorem IsS3.ge {w0 W : World} {g : Nat} {f0 : Int} (h : IsS3 w0 W g f0) : w0.heap.size ≤ g := by
 obtain ⟨hb, hg⟩ := h
 exact hg
theorem IsS3.ne_blk {w0 W : World} {g : Nat} {f0 : Int} {a : Nat} {cs : Array Value} {t : TypeId} {fr : Nat × Nat} (h : IsS3 w0 W g f0) (hb2 : W.heap[a]? = some (.cells cs t fr)) (ht : t ≠ 3) : g ≠ a := by
 obtain ⟨hb, hg⟩ := h
 rintro rfl
 rw [hb] at hb2
 injection hb2 with hb2
 injection hb2 with _ ht2
 exact ht ht2.symm
theorem IsS3.far {w0 W : World} {g : Nat} {f0 : Int} {p : Addr} (h : IsS3 w0 W g f0) (hne : g ≠ p.block) (u : Value) : IsS3 w0 (W.setCell p u) g f0 := by
 obtain ⟨hb, hg⟩ := h
 exact ⟨blk_far hb hne u, hg⟩
theorem cellS3_0 {W : World} {g : Nat} {f0 : Int} (h : W.heap[g]? = some (.cells #[.int .i64 f0] 3 (0, 0))) : W.cell? ⟨g, 0, none⟩ = some (.int .i64 f0) := (blk_cell h 0).trans rfl
theorem IsS3.set_0 {w0 W : World} {g : Nat} {f0 : Int} (h : IsS3 w0 W g f0) (x : Int) : IsS3 w0 (W.setCell ⟨g, 0, none⟩ (.int .i64 x)) g x := by
 obtain ⟨hb, hg⟩ := h
 exact ⟨by simpa using blk_set hb 0 (.int .i64 x), hg⟩
theorem IsS3.new (w0 W : World) (f0 : Int) (hB : Below w0.heap.size w0 W) : IsS3 w0 (W.alloc (.cells #[.int .i64 f0] 3)) W.heap.size f0 := ⟨by simpa using heap_alloc_new W _, hB.size⟩
theorem ik {w w0 W : World} {g : Nat} {f0 f1 : Int} (h : Aside0 (IsS3 w w0 g f0)) (s : IsS3 w w0 g f0 → IsS3 w W g f1 := by intro h_; repeat (first | (with_reducible first | exact h_ | apply IsS3.alloc | apply IsS3.drewN | apply IsS3.drew | apply IsS3.set_0) | exact h_)) : IsS3 w W g f1 := s h.out
theorem li {w w0 W wi : World} {g : Nat} {f0 : Int} (h : Aside0 (Below w.heap.size w w0)) (hi : Aside0 (IsS3 w wi g f0)) (s : w.heap.size ≤ g → Below w.heap.size w w0 → Below w.heap.size w W := by intro g_ h_; repeat (first | (with_reducible first | exact h_ | apply below_alloc | apply pw_below_drewN | apply below_drew1 | refine below_set ?_ g_) | exact h_)) : Below w.heap.size w W := s (IsS3.ge hi.out) h.out
mutual
def num_shortest.l0 : Nat → List Int → List Int → List Int → List Int → Bool → List Int → Int → Option (List Int × Int)
 | 0, _, _, _, _, _, _, _ => none
 | k + 1, x0, x1, x2, x3, x4, x13, x6q0 => (num_nat_tens.f k x0 1).bind fun t180 => ((num_nat_tens.f k x2 1).bind fun t183 => ((num_nat_tens.f k x3 1).bind fun t186 => (num_shortest.l1 k t180 x1 t183 t186 x4 x13 48 x6q0)))
def num_shortest.l1 : Nat → List Int → List Int → List Int → List Int → Bool → List Int → Int → Int → Option (List Int × Int)
 | 0, _, _, _, _, _, _, _, _ => none
 | k + 1, x0, x1, x2, x3, x4, x13, x14, x6q0 => (num_nat_against.f k x0 x1).bind fun t189 => (if t189 ≥ 0 then ((num_nat_less.f k x0 x1).bind fun t190 => (num_shortest.l1 k t190 x1 x2 x3 x4 x13 ((x14 + 1) % 256) x6q0)) else ((num_nat_against.f k x0 x2).bind fun t193 => ((num_nat_plus.f k x0 x3).bind fun t194 => ((num_nat_against.f k t194 x1).bind fun t197 => (if t193 < 0 then (if t197 > 0 then (num_shortest.j2 k x0 x1 x2 x3 x4 x13 x14 true true x6q0) else (if t197 = 0 then (num_shortest.j2 k x0 x1 x2 x3 x4 x13 x14 true x4 x6q0) else (num_shortest.j2 k x0 x1 x2 x3 x4 x13 x14 true false x6q0))) else (if t193 = 0 then (if t197 > 0 then (num_shortest.j2 k x0 x1 x2 x3 x4 x13 x14 x4 true x6q0) else (if t197 = 0 then (num_shortest.j2 k x0 x1 x2 x3 x4 x13 x14 x4 x4 x6q0) else (num_shortest.j2 k x0 x1 x2 x3 x4 x13 x14 x4 false x6q0))) else (if t197 > 0 then (num_shortest.j2 k x0 x1 x2 x3 x4 x13 x14 false true x6q0) else (if t197 = 0 then (num_shortest.j2 k x0 x1 x2 x3 x4 x13 x14 false x4 x6q0) else (num_shortest.j2 k x0 x1 x2 x3 x4 x13 x14 false false x6q0)))))))))
def num_shortest.j2 : Nat → List Int → List Int → List Int → List Int → Bool → List Int → Int → Bool → Bool → Int → Option (List Int × Int)
 | 0, _, _, _, _, _, _, _, _, _, _ => none
 | k + 1, x0, x1, x2, x3, x4, x13, x14, x17, x18, x6q0 => if (x13.length : Int) = 0 then (if x14 = 48 then (num_shortest.j3 k x0 x1 x2 x3 x4 x13 x14 x17 x18 (!x18) x6q0) else (num_shortest.j3 k x0 x1 x2 x3 x4 x13 x14 x17 x18 false x6q0)) else (num_shortest.j3 k x0 x1 x2 x3 x4 x13 x14 x17 x18 false x6q0)
def num_shortest.j3 : Nat → List Int → List Int → List Int → List Int → Bool → List Int → Int → Bool → Bool → Bool → Int → Option (List Int × Int)
 | 0, _, _, _, _, _, _, _, _, _, _, _ => none
 | k + 1, x0, x1, x2, x3, x4, x13, x14, x17, x18, x71, x6q0 => if x71 = true then (num_shortest.l0 k x0 x1 x2 x3 x4 x13 (wrap64 (x6q0 - 1))) else (if x17 = true then (num_shortest.j4 k x0 x1 x2 x3 x4 x13 x14 x17 x18 false x6q0) else (num_shortest.j4 k x0 x1 x2 x3 x4 x13 x14 x17 x18 (!x18) x6q0))
def num_shortest.j4 : Nat → List Int → List Int → List Int → List Int → Bool → List Int → Int → Bool → Bool → Bool → Int → Option (List Int × Int)
 | 0, _, _, _, _, _, _, _, _, _, _, _ => none
 | k + 1, x0, x1, x2, x3, x4, x13, x14, x17, x18, x82, x6q0 => if x82 = true then (if x13.length < 140737488355328 then (num_shortest.l0 k x0 x1 x2 x3 x4 (x13 ++ [x14]) x6q0) else (none)) else ((num_nat_up.f k x0 1).bind fun t201 => ((num_nat_against.f k t201 x1).bind fun t204 => (if x18 = true then (if x17 = true then (if t204 > 0 then (if x13.length < 140737488355328 then (some ((x13 ++ [(x14 + 1) % 256]), x6q0)) else (none)) else (if t204 = 0 then (if (Int.tmod x14 2) = 1 then (if x13.length < 140737488355328 then (some ((x13 ++ [(x14 + 1) % 256]), x6q0)) else (none)) else (if x13.length < 140737488355328 then (some ((x13 ++ [x14]), x6q0)) else (none))) else (if x13.length < 140737488355328 then (some ((x13 ++ [x14]), x6q0)) else (none)))) else (if x13.length < 140737488355328 then (some ((x13 ++ [(x14 + 1) % 256]), x6q0)) else (none))) else (if x13.length < 140737488355328 then (some ((x13 ++ [x14]), x6q0)) else (none)))))
end
def num_shortest.f (k : Nat) (l0 : List Int) (l1 : List Int) (l2 : List Int) (l3 : List Int) (a4 : Bool) (s5_0 : Int) : Option (List Int × Int) := num_shortest.l0 k l0 l1 l2 l3 a4 ([] : List Int) s5_0
theorem num_shortest.mono_l : ∀ k, (∀ y0 y1 y2 y3 y4 y5 y6, LeO (num_shortest.l0 k y0 y1 y2 y3 y4 y5 y6) (num_shortest.l0 (k + 1) y0 y1 y2 y3 y4 y5 y6)) ∧ (∀ y0 y1 y2 y3 y4 y5 y6 y7, LeO (num_shortest.l1 k y0 y1 y2 y3 y4 y5 y6 y7) (num_shortest.l1 (k + 1) y0 y1 y2 y3 y4 y5 y6 y7)) ∧ (∀ y0 y1 y2 y3 y4 y5 y6 y7 y8 y9, LeO (num_shortest.j2 k y0 y1 y2 y3 y4 y5 y6 y7 y8 y9) (num_shortest.j2 (k + 1) y0 y1 y2 y3 y4 y5 y6 y7 y8 y9)) ∧ (∀ y0 y1 y2 y3 y4 y5 y6 y7 y8 y9 y10, LeO (num_shortest.j3 k y0 y1 y2 y3 y4 y5 y6 y7 y8 y9 y10) (num_shortest.j3 (k + 1) y0 y1 y2 y3 y4 y5 y6 y7 y8 y9 y10)) ∧ (∀ y0 y1 y2 y3 y4 y5 y6 y7 y8 y9 y10, LeO (num_shortest.j4 k y0 y1 y2 y3 y4 y5 y6 y7 y8 y9 y10) (num_shortest.j4 (k + 1) y0 y1 y2 y3 y4 y5 y6 y7 y8 y9 y10))
 | 0 => ⟨fun _ _ _ _ _ _ _ r h => by simp [num_shortest.l0] at h, fun _ _ _ _ _ _ _ _ r h => by simp [num_shortest.l1] at h, fun _ _ _ _ _ _ _ _ _ _ r h => by simp [num_shortest.j2] at h, fun _ _ _ _ _ _ _ _ _ _ _ r h => by simp [num_shortest.j3] at h, fun _ _ _ _ _ _ _ _ _ _ _ r h => by simp [num_shortest.j4] at h⟩
 | k + 1 => by
  obtain ⟨ih0, ih1, ih2, ih3, ih4⟩ := num_shortest.mono_l k
  refine ⟨?_, ?_, ?_, ?_, ?_⟩ <;> intros <;> (first | unfold num_shortest.l0 | unfold num_shortest.l1 | unfold num_shortest.j2 | unfold num_shortest.j3 | unfold num_shortest.j4) <;> repeat' (with_reducible first | apply ih0 | apply ih1 | apply ih2 | apply ih3 | apply ih4 | apply num_nat_against.mono | apply num_nat_less.mono | apply num_nat_plus.mono | apply num_nat_tens.mono | apply num_nat_up.mono | apply LeO.refl | apply LeO.none | apply LeO.ite | refine LeO.bind ?_ (fun _ => ?_))
theorem num_shortest.mono : ∀ a0 a1 a2 a3 a4 a5 k, LeO (num_shortest.f k a0 a1 a2 a3 a4 a5) (num_shortest.f (k + 1) a0 a1 a2 a3 a4 a5) := by
 intro a0 a1 a2 a3 a4 a5 k
 obtain ⟨ih0, ih1, ih2, ih3, ih4⟩ := num_shortest.mono_l k
 unfold num_shortest.f
 repeat' (with_reducible first | apply ih0 | apply ih1 | apply ih2 | apply ih3 | apply ih4 | apply num_nat_against.mono | apply num_nat_less.mono | apply num_nat_plus.mono | apply num_nat_tens.mono | apply num_nat_up.mono | apply LeO.refl | apply LeO.none | apply LeO.ite | refine LeO.bind ?_ (fun _ => ?_))
set_option maxHeartbeats 8000000 in
theorem num_shortest.calls (k : Nat) (P0_ : Nat → Prop) (A0 : Option Addr) (c0 : Nat) (l0 : List Int) (A1 : Option Addr) (c1 : Nat) (l1 : List Int) (P2_ : Nat → Prop) (A2 : Option Addr) (c2 : Nat) (l2 : List Int) (P3_ : Nat → Prop) (A3 : Option Addr) (c3 : Nat) (l3 : List Int) (a4 : Bool) (g : Nat) (s5_0 : Int) (r1 : List Int) (r2 : Int) (w0 w : World) (hI : IsS3 w0 w g s5_0) (hB : Below w0.heap.size w0 w) (hs0 : Kd.V (Kd.int .u32) 102 w w.heap.size (fun k_ => P0_ k_ ∧ k_ ≠ g) (.slice A0 l0.length c0) l0) (hr1 : Kd.C (Kd.int .u32) w A1 l1.length l1) (hc1 : l1.length ≤ c1) (hf1 : ∀ ad, A1 = some ad → 0 < l1.length → ad.block ≠ g) (hs2 : Kd.V (Kd.int .u32) 102 w w.heap.size (fun k_ => P2_ k_ ∧ k_ ≠ g) (.slice A2 l2.length c2) l2) (hs3 : Kd.V (Kd.int .u32) 102 w w.heap.size (fun k_ => P3_ k_ ∧ k_ ≠ g) (.slice A3 l3.length c3) l3) (h : num_shortest.f k l0 l1 l2 l3 a4 s5_0 = some (r1, r2)) :
  Calls Tryd.prog 53 #[.slice A0 l0.length c0, .slice A1 l1.length c1, .slice A2 l2.length c2, .slice A3 l3.length c3, .bool a4, .pointer (some ⟨g, 0, none⟩)] w fun e w' => ∃ v0_ : Value, e = .returned (v0_) ∧ Kd.R (Kd.int .u8) 5 w' w.heap.size (fun k_ => (w.heap.size ≤ k_)) v0_ r1 ∧ IsS3 w0 w' g r2 ∧ Below w0.heap.size w0 w' ∧ KeepBut w w' g none := by
 have HO0 := am (show Kd.V (Kd.int .u32) 102 w w.heap.size (fun k_ => ((P0_ k_ ∨ P2_ k_ ∨ P3_ k_) ∨ w.heap.size ≤ k_) ∧ k_ ≠ g) (.slice A0 l0.length c0) l0 from Kd.V_mono hs0 (fun k_ hk => ⟨.inl (.inl hk.1), hk.2⟩))
 have HR1 := am hr1
 have HC1 := am hc1
 clear hr1 hc1
 have HO2 := am (show Kd.V (Kd.int .u32) 102 w w.heap.size (fun k_ => ((P0_ k_ ∨ P2_ k_ ∨ P3_ k_) ∨ w.heap.size ≤ k_) ∧ k_ ≠ g) (.slice A2 l2.length c2) l2 from Kd.V_mono hs2 (fun k_ hk => ⟨.inl (.inr (.inl hk.1)), hk.2⟩))
 have HO3 := am (show Kd.V (Kd.int .u32) 102 w w.heap.size (fun k_ => ((P0_ k_ ∨ P2_ k_ ∨ P3_ k_) ∨ w.heap.size ≤ k_) ∧ k_ ≠ g) (.slice A3 l3.length c3) l3 from Kd.V_mono hs3 (fun k_ hk => ⟨.inl (.inr (.inr hk.1)), hk.2⟩))
 have HI5 := am hI
 have HK := am (KeepBut.refl w g none)
 have HL := am hB.size
 clear hI
 have HW0 := am hB.size
 have HB := am hB
 clear hB
 have H : (num_shortest.l0 k l0 l1 l2 l3 a4 ([] : List Int) s5_0) = some (r1, r2) := h
 clear h
 have H' := am H
 clear H
 go_enter Tryd.func53, Tryd.ntmps53
 go_wp2
 go_loopg [0, 2, 3, 13] k (fun kq v0 v2 v3 v13 w' => ∃ (x0_1 : List Int) (x2_1 : List Int) (x3_1 : List Int) (x13_1 : List Int) (x6q0_1 : Int), Aside0 (num_shortest.l0 kq x0_1 l1 x2_1 x3_1 a4 x13_1 x6q0_1 = some (r1, r2)) ∧ Aside0 (kq ≤ k) ∧ Aside0 (Kd.V (Kd.int .u32) 102 w' w.heap.size (fun k_ => ((P0_ k_ ∨ P2_ k_ ∨ P3_ k_) ∨ w.heap.size ≤ k_) ∧ some k_ ≠ (v13 : Value).ownBlock ∧ k_ ≠ g) v0 x0_1) ∧ Aside0 (Kd.V (Kd.int .u32) 102 w' w.heap.size (fun k_ => ((P0_ k_ ∨ P2_ k_ ∨ P3_ k_) ∨ w.heap.size ≤ k_) ∧ some k_ ≠ (v13 : Value).ownBlock ∧ k_ ≠ g) v2 x2_1) ∧ Aside0 (Kd.V (Kd.int .u32) 102 w' w.heap.size (fun k_ => ((P0_ k_ ∨ P2_ k_ ∨ P3_ k_) ∨ w.heap.size ≤ k_) ∧ some k_ ≠ (v13 : Value).ownBlock ∧ k_ ≠ g) v3 x3_1) ∧ Aside0 (Kd.R (Kd.int .u8) 5 w' w.heap.size (fun k_ => (w.heap.size ≤ k_)) v13 x13_1) ∧ Aside0 (IsS3 w0 w' g x6q0_1) ∧ Aside0 (KeepBut w w' g none) ∧ Aside0 (Below w0.heap.size w0 w'))
 case atStart => exact ⟨(l0), (l2), (l3), (([] : List Int)), (s5_0), H', ⟨Nat.le_refl _⟩, ⟨by exact vy <| Kd.V_mono HO0.out (fun _ hk => ⟨hk.1, ⟨(by simp [Value.ownBlock]), hk.2⟩⟩)⟩, ⟨by exact vy <| Kd.V_mono HO2.out (fun _ hk => ⟨hk.1, ⟨(by simp [Value.ownBlock]), hk.2⟩⟩)⟩, ⟨by exact vy <| Kd.V_mono HO3.out (fun _ hk => ⟨hk.1, ⟨(by simp [Value.ownBlock]), hk.2⟩⟩)⟩, ⟨by first | exact Kd.R_nil _ _ _ _ _ | exact Kd.N_nil _ _ _ _ _ | exact Kd.V_nil _ _ _ _ _ | exact Kd.Q_nil _ _ _ _ _ | exact Kd.S_nil _ _ _ _ _⟩, ⟨ik HI5⟩, ⟨kk HK⟩, ⟨li HB HI5⟩⟩
 case round =>
  clear H'
  obtain ⟨x0_1, x2_1, x3_1, x13_1, x6q0_1, HA, HK1, HO_0, HO_2, HO_3, HO_13, HI5, HK, HB⟩ := hrel
  cases gk with
  | zero => exact absurd HA.out (by simp [num_shortest.l0])
  | succ k1 =>
   have H := HA.out
   clear HA
   simp only [num_shortest.l0] at H
   replace H := bm H
   obtain ⟨t180, A70, H⟩ := H
   replace H : ((num_nat_tens.f k1 x2_1 1).bind fun t183 => ((num_nat_tens.f k1 x3_1 1).bind fun t186 => (num_shortest.l1 k1 t180 l1 t183 t186 a4 x13_1 48 x6q0_1))) = some (r1, r2) := H
   have A7 := am A70
   clear A70
   replace H := bm H
   obtain ⟨t183, A80, H⟩ := H
   replace H : ((num_nat_tens.f k1 x3_1 1).bind fun t186 => (num_shortest.l1 k1 t180 l1 t183 t186 a4 x13_1 48 x6q0_1)) = some (r1, r2) := H
   have A8 := am A80
   clear A80
   replace H := bm H
   obtain ⟨t186, A90, H⟩ := H
   replace H : (num_shortest.l1 k1 t180 l1 t183 t186 a4 x13_1 48 x6q0_1) = some (r1, r2) := H
   have A9 := am A90
   clear A90
   have H' := am H
   clear H
   obtain ⟨Ao10, co10, eo10⟩ := Kd.V_slice HO_0.out
   subst eo10
   go_wp2_with (first | (refine gL (some 21) Tryd.func52 #[.slice Ao10 x0_1.length co10, .int .i64 1] ?_; (with_reducible refine (num_nat_tens.calls k1 (fun k_ => (((P0_ k_ ∨ P2_ k_ ∨ P3_ k_) ∨ w.heap.size ≤ k_) ∧ (some k_ ≠ (u13 : Value).ownBlock ∧ k_ ≠ g))) _ _ x0_1 1 t180 _ ?side1 A7.out).mono ?_); (case side1 => exact HO_0.out); rintro e w11 ⟨v181, rfl, ho0, hb⟩; refine ⟨_, rfl, ?_⟩; replace HO_0 := vb HO_0 hb; replace HO_2 := vb HO_2 hb; replace HO_3 := vb HO_3 hb; have HO182 := am (Kd.V_lower (Kd.V_mono (ok' := fun k_ => ((P0_ k_ ∨ P2_ k_ ∨ P3_ k_) ∨ w.heap.size ≤ k_) ∧ some k_ ≠ (u13 : Value).ownBlock ∧ k_ ≠ g) ho0 (fun k_ hk_ => ⟨Or.elim hk_ (fun hs_ => hs_.1) (fun hn_ => (.inr (Nat.le_trans (keep_size (kk HK)) hn_))), Or.elim hk_ (fun hs_ => hs_.2.1) (fun hn_ => (Kd.fresh' (Kd.R_lt (rk HO_13)) k_ hn_)), Or.elim hk_ (fun hs_ => hs_.2.2) (fun hn_ => (IsS3.fresh (ik HI5) k_ hn_))⟩)) (keep_size (kk HK))); replace HO_13 := am (Kd.R_below (rk HO_13) hb); replace HK := am (KeepBut.trans (kk HK) (KeepBut.of_below hb g none) (.inl rfl)); replace HB := am (below_step (li HB HI5) hb); replace HI5 := am (IsS3.below (ik HI5) hb); obtain ⟨Ao12, co12, eo12⟩ := Kd.V_slice HO_2.out; subst eo12) | (refine gL (some 23) Tryd.func52 #[.slice Ao12 x2_1.length co12, .int .i64 1] ?_; (with_reducible refine (num_nat_tens.calls k1 (fun k_ => (((P0_ k_ ∨ P2_ k_ ∨ P3_ k_) ∨ w.heap.size ≤ k_) ∧ (some k_ ≠ (u13 : Value).ownBlock ∧ k_ ≠ g))) _ _ x2_1 1 t183 _ ?side1 A8.out).mono ?_); (case side1 => exact HO_2.out); rintro e w13 ⟨v184, rfl, ho0, hb⟩; refine ⟨_, rfl, ?_⟩; replace HO_0 := vb HO_0 hb; replace HO_2 := vb HO_2 hb; replace HO_3 := vb HO_3 hb; replace HO182 := vb HO182 hb; have HO185 := am (Kd.V_lower (Kd.V_mono (ok' := fun k_ => ((P0_ k_ ∨ P2_ k_ ∨ P3_ k_) ∨ w.heap.size ≤ k_) ∧ some k_ ≠ (u13 : Value).ownBlock ∧ k_ ≠ g) ho0 (fun k_ hk_ => ⟨Or.elim hk_ (fun hs_ => hs_.1) (fun hn_ => (.inr (Nat.le_trans (keep_size (kk HK)) hn_))), Or.elim hk_ (fun hs_ => hs_.2.1) (fun hn_ => (Kd.fresh' (Kd.R_lt (rk HO_13)) k_ hn_)), Or.elim hk_ (fun hs_ => hs_.2.2) (fun hn_ => (IsS3.fresh (ik HI5) k_ hn_))⟩)) (keep_size (kk HK))); replace HO_13 := am (Kd.R_below (rk HO_13) hb); replace HK := am (KeepBut.trans (kk HK) (KeepBut.of_below hb g none) (.inl rfl)); replace HB := am (below_step (li HB HI5) hb); replace HI5 := am (IsS3.below (ik HI5) hb); obtain ⟨Ao14, co14, eo14⟩ := Kd.V_slice HO_3.out; subst eo14) | (refine gL (some 25) Tryd.func52 #[.slice Ao14 x3_1.length co14, .int .i64 1] ?_; (with_reducible refine (num_nat_tens.calls k1 (fun k_ => (((P0_ k_ ∨ P2_ k_ ∨ P3_ k_) ∨ w.heap.size ≤ k_) ∧ (some k_ ≠ (u13 : Value).ownBlock ∧ k_ ≠ g))) _ _ x3_1 1 t186 _ ?side1 A9.out).mono ?_); (case side1 => exact HO_3.out); rintro e w15 ⟨v187, rfl, ho0, hb⟩; refine ⟨_, rfl, ?_⟩; replace HO_0 := vb HO_0 hb; replace HO_2 := vb HO_2 hb; replace HO_3 := vb HO_3 hb; replace HO182 := vb HO182 hb; replace HO185 := vb HO185 hb; have HO188 := am (Kd.V_lower (Kd.V_mono (ok' := fun k_ => ((P0_ k_ ∨ P2_ k_ ∨ P3_ k_) ∨ w.heap.size ≤ k_) ∧ some k_ ≠ (u13 : Value).ownBlock ∧ k_ ≠ g) ho0 (fun k_ hk_ => ⟨Or.elim hk_ (fun hs_ => hs_.1) (fun hn_ => (.inr (Nat.le_trans (keep_size (kk HK)) hn_))), Or.elim hk_ (fun hs_ => hs_.2.1) (fun hn_ => (Kd.fresh' (Kd.R_lt (rk HO_13)) k_ hn_)), Or.elim hk_ (fun hs_ => hs_.2.2) (fun hn_ => (IsS3.fresh (ik HI5) k_ hn_))⟩)) (keep_size (kk HK))); replace HO_13 := am (Kd.R_below (rk HO_13) hb); replace HK := am (KeepBut.trans (kk HK) (KeepBut.of_below hb g none) (.inl rfl)); replace HB := am (below_step (li HB HI5) hb); replace HI5 := am (IsS3.below (ik HI5) hb)))
   go_loopg [0, 14] k1 (fun kq v0 v14 w' => ∃ (x0_2 : List Int) (x14_2 : Int), v14 = .int .u8 x14_2 ∧ Aside0 (num_shortest.l1 kq x0_2 l1 t183 t186 a4 x13_1 x14_2 x6q0_1 = some (r1, r2)) ∧ Aside0 (kq ≤ k1) ∧ Aside0 (Kd.V (Kd.int .u32) 102 w' w.heap.size (fun k_ => ((P0_ k_ ∨ P2_ k_ ∨ P3_ k_) ∨ w.heap.size ≤ k_) ∧ some k_ ≠ (u13 : Value).ownBlock ∧ k_ ≠ g) v0 x0_2) ∧ Aside0 (Kd.V (Kd.int .u32) 102 w' w.heap.size (fun k_ => ((P0_ k_ ∨ P2_ k_ ∨ P3_ k_) ∨ w.heap.size ≤ k_) ∧ some k_ ≠ (u13 : Value).ownBlock ∧ k_ ≠ g) v184 t183) ∧ Aside0 (Kd.V (Kd.int .u32) 102 w' w.heap.size (fun k_ => ((P0_ k_ ∨ P2_ k_ ∨ P3_ k_) ∨ w.heap.size ≤ k_) ∧ some k_ ≠ (u13 : Value).ownBlock ∧ k_ ≠ g) v187 t186) ∧ Aside0 (Kd.R (Kd.int .u8) 5 w' w.heap.size (fun k_ => (w.heap.size ≤ k_)) u13 x13_1) ∧ Aside0 (IsS3 w0 w' g x6q0_1) ∧ Aside0 (KeepBut w w' g none) ∧ Aside0 (Below w0.heap.size w0 w'))
   case atStart => exact ⟨(t180), (48), eqd, H', ⟨Nat.le_refl _⟩, ⟨vk HO182⟩, ⟨vk HO185⟩, ⟨vk HO188⟩, ⟨rk HO_13⟩, ⟨ik HI5⟩, ⟨kk HK⟩, ⟨li HB HI5⟩⟩
   case round =>
    clear H'
    obtain ⟨x0_2, x14_2, rfl, HA, HK2, HO_0, HO_2, HO_3, HO_13, HI5, HK, HB⟩ := hrel
    cases gk with
    | zero => exact absurd HA.out (by simp [num_shortest.l1])
    | succ k2 =>
     have H := HA.out
     clear HA
     simp only [num_shortest.l1] at H
     replace H := bm H
     obtain ⟨t189, A160, H⟩ := H
     replace H : (if t189 ≥ 0 then ((num_nat_less.f k2 x0_2 l1).bind fun t190 => (num_shortest.l1 k2 t190 l1 t183 t186 a4 x13_1 ((x14_2 + 1) % 256) x6q0_1)) else ((num_nat_against.f k2 x0_2 t183).bind fun t193 => ((num_nat_plus.f k2 x0_2 t186).bind fun t194 => ((num_nat_against.f k2 t194 l1).bind fun t197 => (if t193 < 0 then (if t197 > 0 then (num_shortest.j2 k2 x0_2 l1 t183 t186 a4 x13_1 x14_2 true true x6q0_1) else (if t197 = 0 then (num_shortest.j2 k2 x0_2 l1 t183 t186 a4 x13_1 x14_2 true a4 x6q0_1) else (num_shortest.j2 k2 x0_2 l1 t183 t186 a4 x13_1 x14_2 true false x6q0_1))) else (if t193 = 0 then (if t197 > 0 then (num_shortest.j2 k2 x0_2 l1 t183 t186 a4 x13_1 x14_2 a4 true x6q0_1) else (if t197 = 0 then (num_shortest.j2 k2 x0_2 l1 t183 t186 a4 x13_1 x14_2 a4 a4 x6q0_1) else (num_shortest.j2 k2 x0_2 l1 t183 t186 a4 x13_1 x14_2 a4 false x6q0_1))) else (if t197 > 0 then (num_shortest.j2 k2 x0_2 l1 t183 t186 a4 x13_1 x14_2 false true x6q0_1) else (if t197 = 0 then (num_shortest.j2 k2 x0_2 l1 t183 t186 a4 x13_1 x14_2 false a4 x6q0_1) else (num_shortest.j2 k2 x0_2 l1 t183 t186 a4 x13_1 x14_2 false false x6q0_1))))))))) = some (r1, r2) := H
     have A16 := am A160
     clear A160
     by_cases c17 : t189 ≥ 0
     ·
      rw [if_pos c17] at H
      have c17b0 : decide (0 ≤ t189) = true := dt c17
      clear c17
      replace H := bm H
      obtain ⟨t190, A180, H⟩ := H
      replace H : (num_shortest.l1 k2 t190 l1 t183 t186 a4 x13_1 ((x14_2 + 1) % 256) x6q0_1) = some (r1, r2) := H
      have A18 := am A180
      clear A180
      have H' := am H
      clear H
      obtain ⟨Ao19, co19, eo19⟩ := Kd.V_slice HO_0.out
      subst eo19
      go_wp2_with (first | (refine gL (some 28) Tryd.func49 #[.slice Ao19 x0_2.length co19, .slice A1 l1.length c1] ?_; (with_reducible refine (num_nat_against.calls k2 _ _ x0_2 _ _ l1 t189 _ ?side1 ?side2 ?side3 ?side4 A16.out).mono ?_); (case side1 => exact ck (Kd.V_reads' HO_0.out).2.2); (case side2 => exact (Kd.V_reads' HO_0.out).2.1); (case side3 => exact Kd.C_keep 0 HR1.out (kk HK) hf1); (case side4 => exact HC1.out); rintro e w' ⟨rfl, ⟨nd, rfl⟩⟩; refine ⟨_, rfl, ?_⟩) | (refine gL (some 32) Tryd.func87 #[.slice Ao19 x0_2.length co19, .slice A1 l1.length c1] ?_; (with_reducible refine (num_nat_less.calls k2 _ _ x0_2 _ _ l1 t190 _ ?side1 ?side2 ?side3 ?side4 A18.out).mono ?_); (case side1 => exact ck (Kd.V_reads' HO_0.out).2.2); (case side2 => exact (Kd.V_reads' HO_0.out).2.1); (case side3 => exact Kd.C_keep 0 HR1.out (kk HK) hf1); (case side4 => exact HC1.out); rintro e w20 ⟨v191, rfl, ho0, hb⟩; refine ⟨_, rfl, ?_⟩; replace HO_0 := vb HO_0 hb; replace HO_2 := vb HO_2 hb; replace HO_3 := vb HO_3 hb; have HO192 := am (Kd.V_lower (Kd.V_mono (ok' := fun k_ => ((P0_ k_ ∨ P2_ k_ ∨ P3_ k_) ∨ w.heap.size ≤ k_) ∧ some k_ ≠ (u13 : Value).ownBlock ∧ k_ ≠ g) ho0 (fun k_ hk_ => ⟨(.inr (Nat.le_trans (keep_size (kk HK)) hk_)), (Kd.fresh' (Kd.R_lt (rk HO_13)) k_ hk_), (IsS3.fresh (ik HI5) k_ hk_)⟩)) (keep_size (kk HK))); replace HO_13 := am (Kd.R_below (rk HO_13) hb); replace HK := am (KeepBut.trans (kk HK) (KeepBut.of_below hb g none) (.inl rfl)); replace HB := am (below_step (li HB HI5) hb); replace HI5 := am (IsS3.below (ik HI5) hb)))
      go_roundg k2
      case measure => have := HK1.out; have := HK2.out; omega
      case rel => exact ⟨(t190), ((x14_2 + 1) % 256), eqd, H', ⟨by have := HK1.out; have := HK2.out; omega⟩, ⟨vk HO192⟩, ⟨vk HO_2⟩, ⟨vk HO_3⟩, ⟨rk HO_13⟩, ⟨ik HI5⟩, ⟨kk HK⟩, ⟨li HB HI5⟩⟩
     rw [if_neg c17] at H
     have c17b0 : decide (0 ≤ t189) = false := decide_eq_false c17
     clear c17
     replace H := bm H
     obtain ⟨t193, A210, H⟩ := H
     replace H : ((num_nat_plus.f k2 x0_2 t186).bind fun t194 => ((num_nat_against.f k2 t194 l1).bind fun t197 => (if t193 < 0 then (if t197 > 0 then (num_shortest.j2 k2 x0_2 l1 t183 t186 a4 x13_1 x14_2 true true x6q0_1) else (if t197 = 0 then (num_shortest.j2 k2 x0_2 l1 t183 t186 a4 x13_1 x14_2 true a4 x6q0_1) else (num_shortest.j2 k2 x0_2 l1 t183 t186 a4 x13_1 x14_2 true false x6q0_1))) else (if t193 = 0 then (if t197 > 0 then (num_shortest.j2 k2 x0_2 l1 t183 t186 a4 x13_1 x14_2 a4 true x6q0_1) else (if t197 = 0 then (num_shortest.j2 k2 x0_2 l1 t183 t186 a4 x13_1 x14_2 a4 a4 x6q0_1) else (num_shortest.j2 k2 x0_2 l1 t183 t186 a4 x13_1 x14_2 a4 false x6q0_1))) else (if t197 > 0 then (num_shortest.j2 k2 x0_2 l1 t183 t186 a4 x13_1 x14_2 false true x6q0_1) else (if t197 = 0 then (num_shortest.j2 k2 x0_2 l1 t183 t186 a4 x13_1 x14_2 false a4 x6q0_1) else (num_shortest.j2 k2 x0_2 l1 t183 t186 a4 x13_1 x14_2 false false x6q0_1))))))) = some (r1, r2) := H
     have A21 := am A210
     clear A210
     replace H := bm H
     obtain ⟨t194, A220, H⟩ := H
     replace H : ((num_nat_against.f k2 t194 l1).bind fun t197 => (if t193 < 0 then (if t197 > 0 then (num_shortest.j2 k2 x0_2 l1 t183 t186 a4 x13_1 x14_2 true true x6q0_1) else (if t197 = 0 then (num_shortest.j2 k2 x0_2 l1 t183 t186 a4 x13_1 x14_2 true a4 x6q0_1) else (num_shortest.j2 k2 x0_2 l1 t183 t186 a4 x13_1 x14_2 true false x6q0_1))) else (if t193 = 0 then (if t197 > 0 then (num_shortest.j2 k2 x0_2 l1 t183 t186 a4 x13_1 x14_2 a4 true x6q0_1) else (if t197 = 0 then (num_shortest.j2 k2 x0_2 l1 t183 t186 a4 x13_1 x14_2 a4 a4 x6q0_1) else (num_shortest.j2 k2 x0_2 l1 t183 t186 a4 x13_1 x14_2 a4 false x6q0_1))) else (if t197 > 0 then (num_shortest.j2 k2 x0_2 l1 t183 t186 a4 x13_1 x14_2 false true x6q0_1) else (if t197 = 0 then (num_shortest.j2 k2 x0_2 l1 t183 t186 a4 x13_1 x14_2 false a4 x6q0_1) else (num_shortest.j2 k2 x0_2 l1 t183 t186 a4 x13_1 x14_2 false false x6q0_1)))))) = some (r1, r2) := H
     have A22 := am A220
     clear A220
     replace H := bm H
     obtain ⟨t197, A230, H⟩ := H
     replace H : (if t193 < 0 then (if t197 > 0 then (num_shortest.j2 k2 x0_2 l1 t183 t186 a4 x13_1 x14_2 true true x6q0_1) else (if t197 = 0 then (num_shortest.j2 k2 x0_2 l1 t183 t186 a4 x13_1 x14_2 true a4 x6q0_1) else (num_shortest.j2 k2 x0_2 l1 t183 t186 a4 x13_1 x14_2 true false x6q0_1))) else (if t193 = 0 then (if t197 > 0 then (num_shortest.j2 k2 x0_2 l1 t183 t186 a4 x13_1 x14_2 a4 true x6q0_1) else (if t197 = 0 then (num_shortest.j2 k2 x0_2 l1 t183 t186 a4 x13_1 x14_2 a4 a4 x6q0_1) else (num_shortest.j2 k2 x0_2 l1 t183 t186 a4 x13_1 x14_2 a4 false x6q0_1))) else (if t197 > 0 then (num_shortest.j2 k2 x0_2 l1 t183 t186 a4 x13_1 x14_2 false true x6q0_1) else (if t197 = 0 then (num_shortest.j2 k2 x0_2 l1 t183 t186 a4 x13_1 x14_2 false a4 x6q0_1) else (num_shortest.j2 k2 x0_2 l1 t183 t186 a4 x13_1 x14_2 false false x6q0_1))))) = some (r1, r2) := H
     have A23 := am A230
     clear A230
     have HC24 := am H
     clear H
     obtain ⟨Ao25, co25, eo25⟩ := Kd.V_slice HO_0.out
     subst eo25
     go_upto_region 8 with (first | (refine gL (some 28) Tryd.func49 #[.slice Ao25 x0_2.length co25, .slice A1 l1.length c1] ?_; (with_reducible refine (num_nat_against.calls k2 _ _ x0_2 _ _ l1 t189 _ ?side1 ?side2 ?side3 ?side4 A16.out).mono ?_); (case side1 => exact ck (Kd.V_reads' HO_0.out).2.2); (case side2 => exact (Kd.V_reads' HO_0.out).2.1); (case side3 => exact Kd.C_keep 0 HR1.out (kk HK) hf1); (case side4 => exact HC1.out); rintro e w' ⟨rfl, ⟨nd, rfl⟩⟩; refine ⟨_, rfl, ?_⟩; obtain ⟨Ao26, co26, eo26⟩ := Kd.V_slice HO_2.out; subst eo26) | (refine gL (some 37) Tryd.func49 #[.slice Ao25 x0_2.length co25, .slice Ao26 t183.length co26] ?_; (with_reducible refine (num_nat_against.calls k2 _ _ x0_2 _ _ t183 t193 _ ?side1 ?side2 ?side3 ?side4 A21.out).mono ?_); (case side1 => exact ck (Kd.V_reads' HO_0.out).2.2); (case side2 => exact (Kd.V_reads' HO_0.out).2.1); (case side3 => exact ck (Kd.V_reads' HO_2.out).2.2); (case side4 => exact (Kd.V_reads' HO_2.out).2.1); rintro e w' ⟨rfl, ⟨nd, rfl⟩⟩; refine ⟨_, rfl, ?_⟩; obtain ⟨Ao27, co27, eo27⟩ := Kd.V_slice HO_3.out; subst eo27) | (refine gL (some 40) Tryd.func48 #[.slice Ao25 x0_2.length co25, .slice Ao27 t186.length co27] ?_; (with_reducible refine (num_nat_plus.calls k2 _ _ x0_2 _ _ t186 t194 _ ?side1 ?side2 ?side3 ?side4 A22.out).mono ?_); (case side1 => exact ck (Kd.V_reads' HO_0.out).2.2); (case side2 => exact (Kd.V_reads' HO_0.out).2.1); (case side3 => exact ck (Kd.V_reads' HO_3.out).2.2); (case side4 => exact (Kd.V_reads' HO_3.out).2.1); rintro e w28 ⟨v195, rfl, ho0, hb⟩; refine ⟨_, rfl, ?_⟩; replace HO_0 := vb HO_0 hb; replace HO_2 := vb HO_2 hb; replace HO_3 := vb HO_3 hb; have HO196 := am (Kd.V_lower (Kd.V_mono (ok' := fun k_ => ((P0_ k_ ∨ P2_ k_ ∨ P3_ k_) ∨ w.heap.size ≤ k_) ∧ some k_ ≠ (u13 : Value).ownBlock ∧ k_ ≠ g) ho0 (fun k_ hk_ => ⟨(.inr (Nat.le_trans (keep_size (kk HK)) hk_)), (Kd.fresh' (Kd.R_lt (rk HO_13)) k_ hk_), (IsS3.fresh (ik HI5) k_ hk_)⟩)) (keep_size (kk HK))); replace HO_13 := am (Kd.R_below (rk HO_13) hb); replace HK := am (KeepBut.trans (kk HK) (KeepBut.of_below hb g none) (.inl rfl)); replace HB := am (below_step (li HB HI5) hb); replace HI5 := am (IsS3.below (ik HI5) hb); obtain ⟨Ao29, co29, eo29⟩ := Kd.V_slice HO196.out; subst eo29) | (refine gL (some 42) Tryd.func49 #[.slice Ao29 t194.length co29, .slice A1 l1.length c1] ?_; (with_reducible refine (num_nat_against.calls k2 _ _ t194 _ _ l1 t197 _ ?side1 ?side2 ?side3 ?side4 A23.out).mono ?_); (case side1 => exact ck (Kd.V_reads' HO196.out).2.2); (case side2 => exact (Kd.V_reads' HO196.out).2.1); (case side3 => exact Kd.C_keep 0 HR1.out (kk HK) hf1); (case side4 => exact HC1.out); rintro e w' ⟨rfl, ⟨nd, rfl⟩⟩; refine ⟨_, rfl, ?_⟩))
     (try simp only [Act.put, List.setIfInBounds_toArray, List.set_cons_zero, List.set_cons_succ])
     go_cut [17, 18] (fun v17 v18 wc => ∃ (kq : Nat) (x17_23 : Bool) (x18_23 : Bool), v17 = .bool x17_23 ∧ v18 = .bool x18_23 ∧ Aside0 (num_shortest.j2 kq x0_2 l1 t183 t186 a4 x13_1 x14_2 x17_23 x18_23 x6q0_1 = some (r1, r2)) ∧ Aside0 (kq ≤ k2) ∧ Aside0 (Kd.V (Kd.int .u32) 102 wc w.heap.size (fun k_ => ((P0_ k_ ∨ P2_ k_ ∨ P3_ k_) ∨ w.heap.size ≤ k_) ∧ some k_ ≠ (u13 : Value).ownBlock ∧ k_ ≠ g) (.slice Ao25 x0_2.length co25) x0_2) ∧ Aside0 (Kd.V (Kd.int .u32) 102 wc w.heap.size (fun k_ => ((P0_ k_ ∨ P2_ k_ ∨ P3_ k_) ∨ w.heap.size ≤ k_) ∧ some k_ ≠ (u13 : Value).ownBlock ∧ k_ ≠ g) (.slice Ao26 t183.length co26) t183) ∧ Aside0 (Kd.V (Kd.int .u32) 102 wc w.heap.size (fun k_ => ((P0_ k_ ∨ P2_ k_ ∨ P3_ k_) ∨ w.heap.size ≤ k_) ∧ some k_ ≠ (u13 : Value).ownBlock ∧ k_ ≠ g) (.slice Ao27 t186.length co27) t186) ∧ Aside0 (Kd.R (Kd.int .u8) 5 wc w.heap.size (fun k_ => (w.heap.size ≤ k_)) u13 x13_1) ∧ Aside0 (IsS3 w0 wc g x6q0_1) ∧ Aside0 (KeepBut w wc g none) ∧ Aside0 (Below w0.heap.size w0 wc))
     case first =>
      have H := HC24.out
      clear HC24
      by_cases c30 : t193 < 0
      ·
       rw [if_pos c30] at H
       have c30b0 := dt c30
       clear c30
       (first | rw [c30b0] | (simp only [i64_w, i32_w]; rw [c30b0]) | skip)
       by_cases c31 : t197 > 0
       ·
        rw [if_pos c31] at H
        have c31b0 : decide (0 < t197) = true := dt c31
        clear c31
        have H' := am H
        clear H
        go_wp2
        go_meet
        case rel => exact ⟨_, (true), (true), eqd, eqd, H', ⟨by have := HK1.out; have := HK2.out; first | omega | exact Nat.le_refl _⟩, ⟨vk HO_0⟩, ⟨vk HO_2⟩, ⟨vk HO_3⟩, ⟨rk HO_13⟩, ⟨ik HI5⟩, ⟨kk HK⟩, ⟨li HB HI5⟩⟩
       rw [if_neg c31] at H
       have c31b0 : decide (0 < t197) = false := decide_eq_false c31
       clear c31
       by_cases c32 : t197 = 0
       ·
        rw [if_pos c32] at H
        have c32b0 : (t197 == 0) = true := beq_iff_eq.mpr c32
        have c32b1 : (t197 != 0) = false := bne_eq_false_iff_eq.mpr c32
        clear c32
        have H' := am H
        clear H
        go_wp2
        go_meet
        case rel => exact ⟨_, (true), (a4), eqd, eqd, H', ⟨by have := HK1.out; have := HK2.out; first | omega | exact Nat.le_refl _⟩, ⟨vk HO_0⟩, ⟨vk HO_2⟩, ⟨vk HO_3⟩, ⟨rk HO_13⟩, ⟨ik HI5⟩, ⟨kk HK⟩, ⟨li HB HI5⟩⟩
       rw [if_neg c32] at H
       have c32b0 : (t197 == 0) = false := beq_eq_false_iff_ne.mpr c32
       have c32b1 : (t197 != 0) = true := bne_iff_ne.mpr c32
       have H' := am H
       clear H
       go_wp2
       go_meet
       case rel => exact ⟨_, (true), (false), eqd, eqd, H', ⟨by have := HK1.out; have := HK2.out; first | omega | exact Nat.le_refl _⟩, ⟨vk HO_0⟩, ⟨vk HO_2⟩, ⟨vk HO_3⟩, ⟨rk HO_13⟩, ⟨ik HI5⟩, ⟨kk HK⟩, ⟨li HB HI5⟩⟩
      rw [if_neg c30] at H
      have c30b0 := decide_eq_false c30
      clear c30
      (first | rw [c30b0] | (simp only [i64_w, i32_w]; rw [c30b0]) | skip)
      by_cases c33 : t193 = 0
      ·
       rw [if_pos c33] at H
       have c33b0 : (t193 == 0) = true := beq_iff_eq.mpr c33
       have c33b1 : (t193 != 0) = false := bne_eq_false_iff_eq.mpr c33
       clear c33
       by_cases c34 : t197 > 0
       ·
        rw [if_pos c34] at H
        have c34b0 : decide (0 < t197) = true := dt c34
        clear c34
        have H' := am H
        clear H
        go_wp2
        go_meet
        case rel => exact ⟨_, (a4), (true), eqd, eqd, H', ⟨by have := HK1.out; have := HK2.out; first | omega | exact Nat.le_refl _⟩, ⟨vk HO_0⟩, ⟨vk HO_2⟩, ⟨vk HO_3⟩, ⟨rk HO_13⟩, ⟨ik HI5⟩, ⟨kk HK⟩, ⟨li HB HI5⟩⟩
       rw [if_neg c34] at H
       have c34b0 : decide (0 < t197) = false := decide_eq_false c34
       clear c34
       by_cases c35 : t197 = 0
       ·
        rw [if_pos c35] at H
        have c35b0 : (t197 == 0) = true := beq_iff_eq.mpr c35
        have c35b1 : (t197 != 0) = false := bne_eq_false_iff_eq.mpr c35
        clear c35
        have H' := am H
        clear H
        go_wp2
        go_meet
        case rel => exact ⟨_, (a4), (a4), eqd, eqd, H', ⟨by have := HK1.out; have := HK2.out; first | omega | exact Nat.le_refl _⟩, ⟨vk HO_0⟩, ⟨vk HO_2⟩, ⟨vk HO_3⟩, ⟨rk HO_13⟩, ⟨ik HI5⟩, ⟨kk HK⟩, ⟨li HB HI5⟩⟩
       rw [if_neg c35] at H
       have c35b0 : (t197 == 0) = false := beq_eq_false_iff_ne.mpr c35
       have c35b1 : (t197 != 0) = true := bne_iff_ne.mpr c35
       have H' := am H
       clear H
       go_wp2
       go_meet
       case rel => exact ⟨_, (a4), (false), eqd, eqd, H', ⟨by have := HK1.out; have := HK2.out; first | omega | exact Nat.le_refl _⟩, ⟨vk HO_0⟩, ⟨vk HO_2⟩, ⟨vk HO_3⟩, ⟨rk HO_13⟩, ⟨ik HI5⟩, ⟨kk HK⟩, ⟨li HB HI5⟩⟩
      rw [if_neg c33] at H
      have c33b0 : (t193 == 0) = false := beq_eq_false_iff_ne.mpr c33
      have c33b1 : (t193 != 0) = true := bne_iff_ne.mpr c33
      by_cases c36 : t197 > 0
      ·
       rw [if_pos c36] at H
       have c36b0 : decide (0 < t197) = true := dt c36
       clear c36
       have H' := am H
       clear H
       go_wp2
       go_meet
       case rel => exact ⟨_, (false), (true), eqd, eqd, H', ⟨by have := HK1.out; have := HK2.out; first | omega | exact Nat.le_refl _⟩, ⟨vk HO_0⟩, ⟨vk HO_2⟩, ⟨vk HO_3⟩, ⟨rk HO_13⟩, ⟨ik HI5⟩, ⟨kk HK⟩, ⟨li HB HI5⟩⟩
      rw [if_neg c36] at H
      have c36b0 : decide (0 < t197) = false := decide_eq_false c36
      clear c36
      by_cases c37 : t197 = 0
      ·
       rw [if_pos c37] at H
       have c37b0 : (t197 == 0) = true := beq_iff_eq.mpr c37
       have c37b1 : (t197 != 0) = false := bne_eq_false_iff_eq.mpr c37
       clear c37
       have H' := am H
       clear H
       go_wp2
       go_meet
       case rel => exact ⟨_, (false), (a4), eqd, eqd, H', ⟨by have := HK1.out; have := HK2.out; first | omega | exact Nat.le_refl _⟩, ⟨vk HO_0⟩, ⟨vk HO_2⟩, ⟨vk HO_3⟩, ⟨rk HO_13⟩, ⟨ik HI5⟩, ⟨kk HK⟩, ⟨li HB HI5⟩⟩
      rw [if_neg c37] at H
      have c37b0 : (t197 == 0) = false := beq_eq_false_iff_ne.mpr c37
      have c37b1 : (t197 != 0) = true := bne_iff_ne.mpr c37
      have H' := am H
      clear H
      go_wp2
      go_meet
      case rel => exact ⟨_, (false), (false), eqd, eqd, H', ⟨by have := HK1.out; have := HK2.out; first | omega | exact Nat.le_refl _⟩, ⟨vk HO_0⟩, ⟨vk HO_2⟩, ⟨vk HO_3⟩, ⟨rk HO_13⟩, ⟨ik HI5⟩, ⟨kk HK⟩, ⟨li HB HI5⟩⟩
     case rest =>
      clear HC24
      obtain ⟨kq, x17_23, x18_23, rfl, rfl, HA, HJ23, HO_0, HO_2, HO_3, HO_13, HI5, HK, HB⟩ := hcut
      cases kq with
      | zero => exact absurd HA.out (by simp [num_shortest.j2])
      | succ kj23 =>
       have H := HA.out
       clear HA
       simp only [num_shortest.j2] at H
       have HC38 := am H
       clear H
       go_upto_region 9 with (fail)
       go_cut [71] (fun v71 wc => ∃ (kq : Nat) (x71_37 : Bool), v71 = .bool x71_37 ∧ Aside0 (num_shortest.j3 kq x0_2 l1 t183 t186 a4 x13_1 x14_2 x17_23 x18_23 x71_37 x6q0_1 = some (r1, r2)) ∧ Aside0 (kq ≤ kj23) ∧ Aside0 (Kd.V (Kd.int .u32) 102 wc w.heap.size (fun k_ => ((P0_ k_ ∨ P2_ k_ ∨ P3_ k_) ∨ w.heap.size ≤ k_) ∧ some k_ ≠ (u13 : Value).ownBlock ∧ k_ ≠ g) (.slice Ao25 x0_2.length co25) x0_2) ∧ Aside0 (Kd.V (Kd.int .u32) 102 wc w.heap.size (fun k_ => ((P0_ k_ ∨ P2_ k_ ∨ P3_ k_) ∨ w.heap.size ≤ k_) ∧ some k_ ≠ (u13 : Value).ownBlock ∧ k_ ≠ g) (.slice Ao26 t183.length co26) t183) ∧ Aside0 (Kd.V (Kd.int .u32) 102 wc w.heap.size (fun k_ => ((P0_ k_ ∨ P2_ k_ ∨ P3_ k_) ∨ w.heap.size ≤ k_) ∧ some k_ ≠ (u13 : Value).ownBlock ∧ k_ ≠ g) (.slice Ao27 t186.length co27) t186) ∧ Aside0 (Kd.R (Kd.int .u8) 5 wc w.heap.size (fun k_ => (w.heap.size ≤ k_)) u13 x13_1) ∧ Aside0 (IsS3 w0 wc g x6q0_1) ∧ Aside0 (KeepBut w wc g none) ∧ Aside0 (Below w0.heap.size w0 wc))
       case first =>
        have H := HC38.out
        clear HC38
        by_cases c39 : (x13_1.length : Int) = 0
        ·
         rw [if_pos c39] at H
         have c39b0 : ((x13_1.length : Int) == 0) = true := beq_iff_eq.mpr c39
         have c39b1 : ((x13_1.length : Int) != 0) = false := bne_eq_false_iff_eq.mpr c39
         clear c39
         (first | rw [c39b0] | (simp only [i64_w, i32_w]; rw [c39b0]) | skip)
         by_cases c40 : x14_2 = 48
         ·
          rw [if_pos c40] at H
          have c40b0 : (x14_2 == 48) = true := beq_iff_eq.mpr c40
          have c40b1 : (x14_2 != 48) = false := bne_eq_false_iff_eq.mpr c40
          clear c40
          have H' := am H
          clear H
          obtain ⟨Ao41, co41, eo41⟩ := Kd.R_slice HO_13.out
          subst eo41
          go_wp2
          go_meet
          case rel => exact ⟨_, (!x18_23), eqd, H', ⟨by have := HK1.out; have := HK2.out; have := HJ23.out; first | omega | exact Nat.le_refl _⟩, ⟨vk HO_0⟩, ⟨vk HO_2⟩, ⟨vk HO_3⟩, ⟨rk HO_13⟩, ⟨ik HI5⟩, ⟨kk HK⟩, ⟨li HB HI5⟩⟩
         rw [if_neg c40] at H
         have c40b0 : (x14_2 == 48) = false := beq_eq_false_iff_ne.mpr c40
         have c40b1 : (x14_2 != 48) = true := bne_iff_ne.mpr c40
         have H' := am H
         clear H
         obtain ⟨Ao42, co42, eo42⟩ := Kd.R_slice HO_13.out
         subst eo42
         go_wp2
         go_meet
         case rel => exact ⟨_, (false), eqd, H', ⟨by have := HK1.out; have := HK2.out; have := HJ23.out; first | omega | exact Nat.le_refl _⟩, ⟨vk HO_0⟩, ⟨vk HO_2⟩, ⟨vk HO_3⟩, ⟨rk HO_13⟩, ⟨ik HI5⟩, ⟨kk HK⟩, ⟨li HB HI5⟩⟩
        rw [if_neg c39] at H
        have c39b0 : ((x13_1.length : Int) == 0) = false := beq_eq_false_iff_ne.mpr c39
        have c39b1 : ((x13_1.length : Int) != 0) = true := bne_iff_ne.mpr c39
        have c39b2 : ¬ (x13_1 = []) := fun h_ => c39 (by rw [h_]; rfl)
        (first | rw [c39b0] | (simp only [i64_w, i32_w]; rw [c39b0]) | skip)
        have H' := am H
        clear H
        obtain ⟨Ao43, co43, eo43⟩ := Kd.R_slice HO_13.out
        subst eo43
        go_wp2
        go_meet
        case rel => exact ⟨_, (false), eqd, H', ⟨by have := HK1.out; have := HK2.out; have := HJ23.out; first | omega | exact Nat.le_refl _⟩, ⟨vk HO_0⟩, ⟨vk HO_2⟩, ⟨vk HO_3⟩, ⟨rk HO_13⟩, ⟨ik HI5⟩, ⟨kk HK⟩, ⟨li HB HI5⟩⟩
       case rest =>
        clear HC38
        obtain ⟨kq, x71_37, rfl, HA, HJ37, HO_0, HO_2, HO_3, HO_13, HI5, HK, HB⟩ := hcut
        cases kq with
        | zero => exact absurd HA.out (by simp [num_shortest.j3])
        | succ kj37 =>
         have H := HA.out
         clear HA
         simp only [num_shortest.j3] at H
         by_cases c44 : x71_37 = true
         ·
          subst c44
          have H1 : (num_shortest.l0 kj37 x0_2 l1 t183 t186 a4 x13_1 (wrap64 (x6q0_1 - 1))) = some (r1, r2) := by rw [if_pos rfl] at H; exact H
          clear H
          have H := H1
          clear H1
          have H' := am H
          clear H
          obtain ⟨HGz45, hgz45⟩ := HI5.out
          have hcz45_0 := cellS3_0 HGz45
          have hfz45_0 := blk_frozen HGz45 0
          clear HGz45 hgz45
          go_wp2
          go_roundg kj37
          case measure => have := HK1.out; have := HK2.out; have := HJ23.out; have := HJ37.out; omega
          case rel => exact ⟨(x0_2), (t183), (t186), (x13_1), (wrap64 (x6q0_1 - 1)), H', ⟨by have := HK1.out; have := HK2.out; have := HJ23.out; have := HJ37.out; omega⟩, ⟨by exact vy <| Kd.V_mono (Kd.V_far (p := ⟨g, 0, none⟩) (Kd.V_mono HO_0.out (fun k_ hk => (⟨hk, hk.2.2⟩ : _ ∧ k_ ≠ g))) (fun _ hk => hk.2) (.int .i64 (wrap64 (x6q0_1 - 1)))) (fun _ hk => ⟨hk.1.1, ⟨hk.1.2.1, hk.1.2.2⟩⟩)⟩, ⟨by exact vy <| Kd.V_mono (Kd.V_far (p := ⟨g, 0, none⟩) (Kd.V_mono HO_2.out (fun k_ hk => (⟨hk, hk.2.2⟩ : _ ∧ k_ ≠ g))) (fun _ hk => hk.2) (.int .i64 (wrap64 (x6q0_1 - 1)))) (fun _ hk => ⟨hk.1.1, ⟨hk.1.2.1, hk.1.2.2⟩⟩)⟩, ⟨by exact vy <| Kd.V_mono (Kd.V_far (p := ⟨g, 0, none⟩) (Kd.V_mono HO_3.out (fun k_ hk => (⟨hk, hk.2.2⟩ : _ ∧ k_ ≠ g))) (fun _ hk => hk.2) (.int .i64 (wrap64 (x6q0_1 - 1)))) (fun _ hk => ⟨hk.1.1, ⟨hk.1.2.1, hk.1.2.2⟩⟩)⟩, ⟨by exact ry <| Kd.R_mono (Kd.R_far (p := ⟨g, 0, none⟩) (IsS3.apart HI5.out HO_13.out (by decide)) (fun _ hk => hk.2) (.int .i64 (wrap64 (x6q0_1 - 1)))) (fun _ hk => hk.1)⟩, ⟨ik HI5⟩, ⟨kk HK⟩, ⟨li HB HI5⟩⟩
         replace c44 := Bool.eq_false_iff.mpr c44
         subst c44
         have H1 : (if x17_23 = true then (num_shortest.j4 kj37 x0_2 l1 t183 t186 a4 x13_1 x14_2 x17_23 x18_23 false x6q0_1) else (num_shortest.j4 kj37 x0_2 l1 t183 t186 a4 x13_1 x14_2 x17_23 x18_23 (!x18_23) x6q0_1)) = some (r1, r2) := by rw [if_neg (show ¬ (false = true) by decide)] at H; exact H
         clear H
         have H := H1
         clear H1
         have HC46 := am H
         clear H
         go_upto_region 11 with (fail)
         go_cut [82] (fun v82 wc => ∃ (kq : Nat) (x82_45 : Bool), v82 = .bool x82_45 ∧ Aside0 (num_shortest.j4 kq x0_2 l1 t183 t186 a4 x13_1 x14_2 x17_23 x18_23 x82_45 x6q0_1 = some (r1, r2)) ∧ Aside0 (kq ≤ kj37) ∧ Aside0 (Kd.V (Kd.int .u32) 102 wc w.heap.size (fun k_ => ((P0_ k_ ∨ P2_ k_ ∨ P3_ k_) ∨ w.heap.size ≤ k_) ∧ some k_ ≠ (u13 : Value).ownBlock ∧ k_ ≠ g) (.slice Ao25 x0_2.length co25) x0_2) ∧ Aside0 (Kd.V (Kd.int .u32) 102 wc w.heap.size (fun k_ => ((P0_ k_ ∨ P2_ k_ ∨ P3_ k_) ∨ w.heap.size ≤ k_) ∧ some k_ ≠ (u13 : Value).ownBlock ∧ k_ ≠ g) (.slice Ao26 t183.length co26) t183) ∧ Aside0 (Kd.V (Kd.int .u32) 102 wc w.heap.size (fun k_ => ((P0_ k_ ∨ P2_ k_ ∨ P3_ k_) ∨ w.heap.size ≤ k_) ∧ some k_ ≠ (u13 : Value).ownBlock ∧ k_ ≠ g) (.slice Ao27 t186.length co27) t186) ∧ Aside0 (Kd.R (Kd.int .u8) 5 wc w.heap.size (fun k_ => (w.heap.size ≤ k_)) u13 x13_1) ∧ Aside0 (IsS3 w0 wc g x6q0_1) ∧ Aside0 (KeepBut w wc g none) ∧ Aside0 (Below w0.heap.size w0 wc))
         case first =>
          have H := HC46.out
          clear HC46
          by_cases c47 : x17_23 = true
          ·
           subst c47
           have H1 : (num_shortest.j4 kj37 x0_2 l1 t183 t186 a4 x13_1 x14_2 true x18_23 false x6q0_1) = some (r1, r2) := by rw [if_pos rfl] at H; exact H
           clear H
           have H := H1
           clear H1
           have H' := am H
           clear H
           go_wp2
           go_meet
           case rel => exact ⟨_, (false), eqd, H', ⟨by have := HK1.out; have := HK2.out; have := HJ23.out; have := HJ37.out; first | omega | exact Nat.le_refl _⟩, ⟨vk HO_0⟩, ⟨vk HO_2⟩, ⟨vk HO_3⟩, ⟨rk HO_13⟩, ⟨ik HI5⟩, ⟨kk HK⟩, ⟨li HB HI5⟩⟩
          replace c47 := Bool.eq_false_iff.mpr c47
          subst c47
          have H1 : (num_shortest.j4 kj37 x0_2 l1 t183 t186 a4 x13_1 x14_2 false x18_23 (!x18_23) x6q0_1) = some (r1, r2) := by rw [if_neg (show ¬ (false = true) by decide)] at H; exact H
          clear H
          have H := H1
          clear H1
          have H' := am H
          clear H
          go_wp2
          go_meet
          case rel => exact ⟨_, (!x18_23), eqd, H', ⟨by have := HK1.out; have := HK2.out; have := HJ23.out; have := HJ37.out; first | omega | exact Nat.le_refl _⟩, ⟨vk HO_0⟩, ⟨vk HO_2⟩, ⟨vk HO_3⟩, ⟨rk HO_13⟩, ⟨ik HI5⟩, ⟨kk HK⟩, ⟨li HB HI5⟩⟩
         case rest =>
          clear HC46
          obtain ⟨kq, x82_45, rfl, HA, HJ45, HO_0, HO_2, HO_3, HO_13, HI5, HK, HB⟩ := hcut
          cases kq with
          | zero => exact absurd HA.out (by simp [num_shortest.j4])
          | succ kj45 =>
           have H := HA.out
           clear HA
           simp only [num_shortest.j4] at H
           by_cases c48 : x82_45 = true
           ·
            subst c48
            have H1 : (if x13_1.length < 140737488355328 then (num_shortest.l0 kj45 x0_2 l1 t183 t186 a4 (x13_1 ++ [x14_2]) x6q0_1) else (none)) = some (r1, r2) := by rw [if_pos rfl] at H; exact H
            clear H
            have H := H1
            clear H1
            by_cases c49 : x13_1.length < 140737488355328
            ·
             rw [if_pos c49] at H
             have LMc49 := am c49
             clear c49
             obtain ⟨y198, hy198⟩ : ∃ y_ : List Int, y_ = (x13_1 ++ [x14_2]) := ⟨_, rfl⟩
             replace H : (num_shortest.l0 kj45 x0_2 l1 t183 t186 a4 y198 x6q0_1) = some (r1, r2) := by first | (rw [hy198]; exact H) | exact H
             have Ny198 := am hy198
             clear hy198
             have H' := am H
             clear H
             go_wp2_with (first | ((with_reducible refine gate_builtin (b := .append) (xs := #[.tmp 83, .tmp 85]) rfl ?_); at_builtin; refine Kd.R_append (Kd.int .u8) w.heap.size rfl (.tmp 83) (.tmp 85) 43 5 (.int .u8 0) 1 rfl Tryd.underlying43 info5 rfl (by decide) (by omega) u13 x13_1 x14_2 [.int .u8 x14_2] (fun k_ => (w.heap.size ≤ k_)) (fun _ => False) rfl rfl ?aP (fun _ hk => hk.elim) ?aF ?aO (Below.refl _ _) ?aS ?aL ?_; (case aP => exact rfl); (case aF => exact (fun k_ hk => (Nat.le_trans (keep_size (kk HK)) hk))); (case aO => exact (rk HO_13)); (case aS => exact (keep_size (kk HK))); (case aL => have := LMc49.out; omega); intro v199 w50 ho hb hg hat; rw [← Ny198.out] at ho; replace HO_0 := am (Kd.V_afterv (ok := (fun k_ => ((P0_ k_ ∨ P2_ k_ ∨ P3_ k_) ∨ w.heap.size ≤ k_) ∧ k_ ≠ g)) (by exact vy <| Kd.V_mono HO_0.out (fun _ hk => ⟨⟨hk.1, hk.2.2⟩, hk.2.1⟩)) hg hat); replace HO_2 := am (Kd.V_afterv (ok := (fun k_ => ((P0_ k_ ∨ P2_ k_ ∨ P3_ k_) ∨ w.heap.size ≤ k_) ∧ k_ ≠ g)) (by exact vy <| Kd.V_mono HO_2.out (fun _ hk => ⟨⟨hk.1, hk.2.2⟩, hk.2.1⟩)) hg hat); replace HO_3 := am (Kd.V_afterv (ok := (fun k_ => ((P0_ k_ ∨ P2_ k_ ∨ P3_ k_) ∨ w.heap.size ≤ k_) ∧ k_ ≠ g)) (by exact vy <| Kd.V_mono HO_3.out (fun _ hk => ⟨⟨hk.1, hk.2.2⟩, hk.2.1⟩)) hg hat); replace HB := am (below_weaken (li HB HI5) HL.out hb); replace HI5 := am (IsS3.grown (ik HI5) hg (IsS3.own_ne HI5.out HO_13.out (by decide))); replace HK := am (KeepBut.trans (kk HK) (KeepBut.of_grown hg g) (Kd.R_base2 HO_13.out)); have HO200 := am (ho); clear HO_13 ho hb hg hat))
             go_roundg kj45
             case measure => have := HK1.out; have := HK2.out; have := HJ23.out; have := HJ37.out; have := HJ45.out; omega
             case rel => exact ⟨(x0_2), (t183), (t186), (y198), (x6q0_1), H', ⟨by have := HK1.out; have := HK2.out; have := HJ23.out; have := HJ37.out; have := HJ45.out; omega⟩, ⟨by exact vy <| Kd.V_mono HO_0.out (fun _ hk => ⟨hk.1.1, ⟨hk.2, hk.1.2⟩⟩)⟩, ⟨by exact vy <| Kd.V_mono HO_2.out (fun _ hk => ⟨hk.1.1, ⟨hk.2, hk.1.2⟩⟩)⟩, ⟨by exact vy <| Kd.V_mono HO_3.out (fun _ hk => ⟨hk.1.1, ⟨hk.2, hk.1.2⟩⟩)⟩, ⟨rk HO200⟩, ⟨ik HI5⟩, ⟨kk HK⟩, ⟨li HB HI5⟩⟩
            rw [if_neg c49] at H
            exact absurd H (by simp)
           replace c48 := Bool.eq_false_iff.mpr c48
           subst c48
           have H1 : ((num_nat_up.f kj45 x0_2 1).bind fun t201 => ((num_nat_against.f kj45 t201 l1).bind fun t204 => (if x18_23 = true then (if x17_23 = true then (if t204 > 0 then (if x13_1.length < 140737488355328 then (some ((x13_1 ++ [(x14_2 + 1) % 256]), x6q0_1)) else (none)) else (if t204 = 0 then (if (Int.tmod x14_2 2) = 1 then (if x13_1.length < 140737488355328 then (some ((x13_1 ++ [(x14_2 + 1) % 256]), x6q0_1)) else (none)) else (if x13_1.length < 140737488355328 then (some ((x13_1 ++ [x14_2]), x6q0_1)) else (none))) else (if x13_1.length < 140737488355328 then (some ((x13_1 ++ [x14_2]), x6q0_1)) else (none)))) else (if x13_1.length < 140737488355328 then (some ((x13_1 ++ [(x14_2 + 1) % 256]), x6q0_1)) else (none))) else (if x13_1.length < 140737488355328 then (some ((x13_1 ++ [x14_2]), x6q0_1)) else (none))))) = some (r1, r2) := by rw [if_neg (show ¬ (false = true) by decide)] at H; exact H
           clear H
           have H := H1
           clear H1
           replace H := bm H
           obtain ⟨t201, A510, H⟩ := H
           replace H : ((num_nat_against.f kj45 t201 l1).bind fun t204 => (if x18_23 = true then (if x17_23 = true then (if t204 > 0 then (if x13_1.length < 140737488355328 then (some ((x13_1 ++ [(x14_2 + 1) % 256]), x6q0_1)) else (none)) else (if t204 = 0 then (if (Int.tmod x14_2 2) = 1 then (if x13_1.length < 140737488355328 then (some ((x13_1 ++ [(x14_2 + 1) % 256]), x6q0_1)) else (none)) else (if x13_1.length < 140737488355328 then (some ((x13_1 ++ [x14_2]), x6q0_1)) else (none))) else (if x13_1.length < 140737488355328 then (some ((x13_1 ++ [x14_2]), x6q0_1)) else (none)))) else (if x13_1.length < 140737488355328 then (some ((x13_1 ++ [(x14_2 + 1) % 256]), x6q0_1)) else (none))) else (if x13_1.length < 140737488355328 then (some ((x13_1 ++ [x14_2]), x6q0_1)) else (none)))) = some (r1, r2) := H
           have A51 := am A510
           clear A510
           replace H := bm H
           obtain ⟨t204, A520, H⟩ := H
           replace H : (if x18_23 = true then (if x17_23 = true then (if t204 > 0 then (if x13_1.length < 140737488355328 then (some ((x13_1 ++ [(x14_2 + 1) % 256]), x6q0_1)) else (none)) else (if t204 = 0 then (if (Int.tmod x14_2 2) = 1 then (if x13_1.length < 140737488355328 then (some ((x13_1 ++ [(x14_2 + 1) % 256]), x6q0_1)) else (none)) else (if x13_1.length < 140737488355328 then (some ((x13_1 ++ [x14_2]), x6q0_1)) else (none))) else (if x13_1.length < 140737488355328 then (some ((x13_1 ++ [x14_2]), x6q0_1)) else (none)))) else (if x13_1.length < 140737488355328 then (some ((x13_1 ++ [(x14_2 + 1) % 256]), x6q0_1)) else (none))) else (if x13_1.length < 140737488355328 then (some ((x13_1 ++ [x14_2]), x6q0_1)) else (none))) = some (r1, r2) := H
           have A52 := am A520
           clear A520
           by_cases c53 : x18_23 = true
           ·
            subst c53
            have H1 : (if x17_23 = true then (if t204 > 0 then (if x13_1.length < 140737488355328 then (some ((x13_1 ++ [(x14_2 + 1) % 256]), x6q0_1)) else (none)) else (if t204 = 0 then (if (Int.tmod x14_2 2) = 1 then (if x13_1.length < 140737488355328 then (some ((x13_1 ++ [(x14_2 + 1) % 256]), x6q0_1)) else (none)) else (if x13_1.length < 140737488355328 then (some ((x13_1 ++ [x14_2]), x6q0_1)) else (none))) else (if x13_1.length < 140737488355328 then (some ((x13_1 ++ [x14_2]), x6q0_1)) else (none)))) else (if x13_1.length < 140737488355328 then (some ((x13_1 ++ [(x14_2 + 1) % 256]), x6q0_1)) else (none))) = some (r1, r2) := by rw [if_pos rfl] at H; exact H
            clear H
            have H := H1
            clear H1
            by_cases c54 : x17_23 = true
            ·
             subst c54
             have H1 : (if t204 > 0 then (if x13_1.length < 140737488355328 then (some ((x13_1 ++ [(x14_2 + 1) % 256]), x6q0_1)) else (none)) else (if t204 = 0 then (if (Int.tmod x14_2 2) = 1 then (if x13_1.length < 140737488355328 then (some ((x13_1 ++ [(x14_2 + 1) % 256]), x6q0_1)) else (none)) else (if x13_1.length < 140737488355328 then (some ((x13_1 ++ [x14_2]), x6q0_1)) else (none))) else (if x13_1.length < 140737488355328 then (some ((x13_1 ++ [x14_2]), x6q0_1)) else (none)))) = some (r1, r2) := by rw [if_pos rfl] at H; exact H
             clear H
             have H := H1
             clear H1
             by_cases c55 : t204 > 0
             ·
              rw [if_pos c55] at H
              have c55b0 : decide (0 < t204) = true := dt c55
              clear c55
              by_cases c56 : x13_1.length < 140737488355328
              ·
               rw [if_pos c56] at H
               have LMc56 := am c56
               clear c56
               obtain ⟨y205, hy205⟩ : ∃ y_ : List Int, y_ = (x13_1 ++ [(x14_2 + 1) % 256]) := ⟨_, rfl⟩
               replace H : (some (y205, x6q0_1)) = some (r1, r2) := by first | (rw [hy205]; exact H) | exact H
               have Ny205 := am hy205
               clear hy205
               simp only [Option.some.injEq, Prod.mk.injEq] at H
               obtain ⟨rfl, rfl⟩ := H
               go_wp2_with (first | (refine gL (some 88) Tryd.func46 #[.slice Ao25 x0_2.length co25, .int .i64 1] ?_; (with_reducible refine (num_nat_up.calls kj45 _ _ x0_2 1 t201 _ ?side1 ?side2 A51.out).mono ?_); (case side1 => exact ck (Kd.V_reads' HO_0.out).2.2); (case side2 => exact (Kd.V_reads' HO_0.out).2.1); rintro e w57 ⟨v202, rfl, ho0, hb⟩; refine ⟨_, rfl, ?_⟩; replace HO_0 := vb HO_0 hb; replace HO_2 := vb HO_2 hb; replace HO_3 := vb HO_3 hb; have HO203 := am (Kd.V_lower (Kd.V_mono (ok' := fun k_ => ((P0_ k_ ∨ P2_ k_ ∨ P3_ k_) ∨ w.heap.size ≤ k_) ∧ some k_ ≠ (u13 : Value).ownBlock ∧ k_ ≠ g) ho0 (fun k_ hk_ => ⟨(.inr (Nat.le_trans (keep_size (kk HK)) hk_)), (Kd.fresh' (Kd.R_lt (rk HO_13)) k_ hk_), (IsS3.fresh (ik HI5) k_ hk_)⟩)) (keep_size (kk HK))); replace HO_13 := am (Kd.R_below (rk HO_13) hb); replace HK := am (KeepBut.trans (kk HK) (KeepBut.of_below hb g none) (.inl rfl)); replace HB := am (below_step (li HB HI5) hb); replace HI5 := am (IsS3.below (ik HI5) hb); obtain ⟨Ao58, co58, eo58⟩ := Kd.V_slice HO203.out; subst eo58) | (refine gL (some 90) Tryd.func49 #[.slice Ao58 t201.length co58, .slice A1 l1.length c1] ?_; (with_reducible refine (num_nat_against.calls kj45 _ _ t201 _ _ l1 t204 _ ?side1 ?side2 ?side3 ?side4 A52.out).mono ?_); (case side1 => exact ck (Kd.V_reads' HO203.out).2.2); (case side2 => exact (Kd.V_reads' HO203.out).2.1); (case side3 => exact Kd.C_keep 0 HR1.out (kk HK) hf1); (case side4 => exact HC1.out); rintro e w' ⟨rfl, ⟨nd, rfl⟩⟩; refine ⟨_, rfl, ?_⟩) | ((with_reducible refine gate_builtin (b := .append) (xs := #[.tmp 111, .tmp 113]) rfl ?_); at_builtin; refine Kd.R_append (Kd.int .u8) w.heap.size rfl (.tmp 111) (.tmp 113) 43 5 (.int .u8 0) 1 rfl Tryd.underlying43 info5 rfl (by decide) (by omega) u13 x13_1 ((x14_2 + 1) % 256) [.int .u8 ((x14_2 + 1) % 256)] (fun k_ => (w.heap.size ≤ k_)) (fun _ => False) rfl rfl ?aP (fun _ hk => hk.elim) ?aF ?aO (Below.refl _ _) ?aS ?aL ?_; (case aP => exact rfl); (case aF => exact (fun k_ hk => (Nat.le_trans (keep_size (kk HK)) hk))); (case aO => exact (rk HO_13)); (case aS => exact (keep_size (kk HK))); (case aL => have := LMc56.out; omega); intro v206 w59 ho hb hg hat; rw [← Ny205.out] at ho; replace HO_0 := am (Kd.V_afterv (ok := (fun k_ => ((P0_ k_ ∨ P2_ k_ ∨ P3_ k_) ∨ w.heap.size ≤ k_) ∧ k_ ≠ g)) (by exact vy <| Kd.V_mono HO_0.out (fun _ hk => ⟨⟨hk.1, hk.2.2⟩, hk.2.1⟩)) hg hat); replace HO_2 := am (Kd.V_afterv (ok := (fun k_ => ((P0_ k_ ∨ P2_ k_ ∨ P3_ k_) ∨ w.heap.size ≤ k_) ∧ k_ ≠ g)) (by exact vy <| Kd.V_mono HO_2.out (fun _ hk => ⟨⟨hk.1, hk.2.2⟩, hk.2.1⟩)) hg hat); replace HO_3 := am (Kd.V_afterv (ok := (fun k_ => ((P0_ k_ ∨ P2_ k_ ∨ P3_ k_) ∨ w.heap.size ≤ k_) ∧ k_ ≠ g)) (by exact vy <| Kd.V_mono HO_3.out (fun _ hk => ⟨⟨hk.1, hk.2.2⟩, hk.2.1⟩)) hg hat); replace HO203 := am (Kd.V_afterv (ok := (fun k_ => ((P0_ k_ ∨ P2_ k_ ∨ P3_ k_) ∨ w.heap.size ≤ k_) ∧ k_ ≠ g)) (by exact vy <| Kd.V_mono HO203.out (fun _ hk => ⟨⟨hk.1, hk.2.2⟩, hk.2.1⟩)) hg hat); replace HB := am (below_weaken (li HB HI5) HL.out hb); replace HI5 := am (IsS3.grown (ik HI5) hg (IsS3.own_ne HI5.out HO_13.out (by decide))); replace HK := am (KeepBut.trans (kk HK) (KeepBut.of_grown hg g) (Kd.R_base2 HO_13.out)); have HO207 := am (ho); clear HO_13 ho hb hg hat))
               go_ret
               exact ⟨_, by first | rfl | (simp [errW_none, errW_some] <;> rfl) | (simp [*, errW_none, errW_some] <;> rfl), rk HO207, by repeat (first | (with_reducible first | exact HI5.out | apply IsS3.alloc | apply IsS3.drewN | apply IsS3.drew | apply IsS3.set_0) | exact HI5.out), by repeat (first | (with_reducible first | exact HB.out | apply below_alloc | apply pw_below_drewN | apply below_drew1 | refine below_set ?_ (IsS3.ge HI5.out)) | exact HB.out), by repeat (first | (with_reducible first | exact HK.out | apply KeepBut.set_ | apply keep_drewN | apply keep_drew | apply keep_alloc) | exact HK.out)⟩
              rw [if_neg c56] at H
              exact absurd H (by simp)
             rw [if_neg c55] at H
             have c55b0 : decide (0 < t204) = false := decide_eq_false c55
             clear c55
             by_cases c60 : t204 = 0
             ·
              rw [if_pos c60] at H
              have c60b0 : (t204 == 0) = true := beq_iff_eq.mpr c60
              have c60b1 : (t204 != 0) = false := bne_eq_false_iff_eq.mpr c60
              clear c60
              by_cases c61 : (Int.tmod x14_2 2) = 1
              ·
               rw [if_pos c61] at H
               have c61b0 : ((Int.tmod x14_2 2) == 1) = true := beq_iff_eq.mpr c61
               have c61b1 : ((Int.tmod x14_2 2) != 1) = false := bne_eq_false_iff_eq.mpr c61
               clear c61
               by_cases c62 : x13_1.length < 140737488355328
               ·
                rw [if_pos c62] at H
                have LMc62 := am c62
                clear c62
                obtain ⟨y208, hy208⟩ : ∃ y_ : List Int, y_ = (x13_1 ++ [(x14_2 + 1) % 256]) := ⟨_, rfl⟩
                replace H : (some (y208, x6q0_1)) = some (r1, r2) := by first | (rw [hy208]; exact H) | exact H
                have Ny208 := am hy208
                clear hy208
                simp only [Option.some.injEq, Prod.mk.injEq] at H
                obtain ⟨rfl, rfl⟩ := H
                go_wp2_with (first | (refine gL (some 88) Tryd.func46 #[.slice Ao25 x0_2.length co25, .int .i64 1] ?_; (with_reducible refine (num_nat_up.calls kj45 _ _ x0_2 1 t201 _ ?side1 ?side2 A51.out).mono ?_); (case side1 => exact ck (Kd.V_reads' HO_0.out).2.2); (case side2 => exact (Kd.V_reads' HO_0.out).2.1); rintro e w63 ⟨v202, rfl, ho0, hb⟩; refine ⟨_, rfl, ?_⟩; replace HO_0 := vb HO_0 hb; replace HO_2 := vb HO_2 hb; replace HO_3 := vb HO_3 hb; have HO203 := am (Kd.V_lower (Kd.V_mono (ok' := fun k_ => ((P0_ k_ ∨ P2_ k_ ∨ P3_ k_) ∨ w.heap.size ≤ k_) ∧ some k_ ≠ (u13 : Value).ownBlock ∧ k_ ≠ g) ho0 (fun k_ hk_ => ⟨(.inr (Nat.le_trans (keep_size (kk HK)) hk_)), (Kd.fresh' (Kd.R_lt (rk HO_13)) k_ hk_), (IsS3.fresh (ik HI5) k_ hk_)⟩)) (keep_size (kk HK))); replace HO_13 := am (Kd.R_below (rk HO_13) hb); replace HK := am (KeepBut.trans (kk HK) (KeepBut.of_below hb g none) (.inl rfl)); replace HB := am (below_step (li HB HI5) hb); replace HI5 := am (IsS3.below (ik HI5) hb); obtain ⟨Ao64, co64, eo64⟩ := Kd.V_slice HO203.out; subst eo64) | (refine gL (some 90) Tryd.func49 #[.slice Ao64 t201.length co64, .slice A1 l1.length c1] ?_; (with_reducible refine (num_nat_against.calls kj45 _ _ t201 _ _ l1 t204 _ ?side1 ?side2 ?side3 ?side4 A52.out).mono ?_); (case side1 => exact ck (Kd.V_reads' HO203.out).2.2); (case side2 => exact (Kd.V_reads' HO203.out).2.1); (case side3 => exact Kd.C_keep 0 HR1.out (kk HK) hf1); (case side4 => exact HC1.out); rintro e w' ⟨rfl, ⟨nd, rfl⟩⟩; refine ⟨_, rfl, ?_⟩) | ((with_reducible refine gate_builtin (b := .append) (xs := #[.tmp 111, .tmp 113]) rfl ?_); at_builtin; refine Kd.R_append (Kd.int .u8) w.heap.size rfl (.tmp 111) (.tmp 113) 43 5 (.int .u8 0) 1 rfl Tryd.underlying43 info5 rfl (by decide) (by omega) u13 x13_1 ((x14_2 + 1) % 256) [.int .u8 ((x14_2 + 1) % 256)] (fun k_ => (w.heap.size ≤ k_)) (fun _ => False) rfl rfl ?aP (fun _ hk => hk.elim) ?aF ?aO (Below.refl _ _) ?aS ?aL ?_; (case aP => exact rfl); (case aF => exact (fun k_ hk => (Nat.le_trans (keep_size (kk HK)) hk))); (case aO => exact (rk HO_13)); (case aS => exact (keep_size (kk HK))); (case aL => have := LMc62.out; omega); intro v209 w65 ho hb hg hat; rw [← Ny208.out] at ho; replace HO_0 := am (Kd.V_afterv (ok := (fun k_ => ((P0_ k_ ∨ P2_ k_ ∨ P3_ k_) ∨ w.heap.size ≤ k_) ∧ k_ ≠ g)) (by exact vy <| Kd.V_mono HO_0.out (fun _ hk => ⟨⟨hk.1, hk.2.2⟩, hk.2.1⟩)) hg hat); replace HO_2 := am (Kd.V_afterv (ok := (fun k_ => ((P0_ k_ ∨ P2_ k_ ∨ P3_ k_) ∨ w.heap.size ≤ k_) ∧ k_ ≠ g)) (by exact vy <| Kd.V_mono HO_2.out (fun _ hk => ⟨⟨hk.1, hk.2.2⟩, hk.2.1⟩)) hg hat); replace HO_3 := am (Kd.V_afterv (ok := (fun k_ => ((P0_ k_ ∨ P2_ k_ ∨ P3_ k_) ∨ w.heap.size ≤ k_) ∧ k_ ≠ g)) (by exact vy <| Kd.V_mono HO_3.out (fun _ hk => ⟨⟨hk.1, hk.2.2⟩, hk.2.1⟩)) hg hat); replace HO203 := am (Kd.V_afterv (ok := (fun k_ => ((P0_ k_ ∨ P2_ k_ ∨ P3_ k_) ∨ w.heap.size ≤ k_) ∧ k_ ≠ g)) (by exact vy <| Kd.V_mono HO203.out (fun _ hk => ⟨⟨hk.1, hk.2.2⟩, hk.2.1⟩)) hg hat); replace HB := am (below_weaken (li HB HI5) HL.out hb); replace HI5 := am (IsS3.grown (ik HI5) hg (IsS3.own_ne HI5.out HO_13.out (by decide))); replace HK := am (KeepBut.trans (kk HK) (KeepBut.of_grown hg g) (Kd.R_base2 HO_13.out)); have HO210 := am (ho); clear HO_13 ho hb hg hat))
                go_ret
                exact ⟨_, by first | rfl | (simp [errW_none, errW_some] <;> rfl) | (simp [*, errW_none, errW_some] <;> rfl), rk HO210, by repeat (first | (with_reducible first | exact HI5.out | apply IsS3.alloc | apply IsS3.drewN | apply IsS3.drew | apply IsS3.set_0) | exact HI5.out), by repeat (first | (with_reducible first | exact HB.out | apply below_alloc | apply pw_below_drewN | apply below_drew1 | refine below_set ?_ (IsS3.ge HI5.out)) | exact HB.out), by repeat (first | (with_reducible first | exact HK.out | apply KeepBut.set_ | apply keep_drewN | apply keep_drew | apply keep_alloc) | exact HK.out)⟩
               rw [if_neg c62] at H
               exact absurd H (by simp)
              rw [if_neg c61] at H
              have c61b0 : ((Int.tmod x14_2 2) == 1) = false := beq_eq_false_iff_ne.mpr c61
              have c61b1 : ((Int.tmod x14_2 2) != 1) = true := bne_iff_ne.mpr c61
              by_cases c66 : x13_1.length < 140737488355328
              ·
               rw [if_pos c66] at H
               have LMc66 := am c66
               clear c66
               obtain ⟨y211, hy211⟩ : ∃ y_ : List Int, y_ = (x13_1 ++ [x14_2]) := ⟨_, rfl⟩
               replace H : (some (y211, x6q0_1)) = some (r1, r2) := by first | (rw [hy211]; exact H) | exact H
               have Ny211 := am hy211
               clear hy211
               simp only [Option.some.injEq, Prod.mk.injEq] at H
               obtain ⟨rfl, rfl⟩ := H
               go_wp2_with (first | (refine gL (some 88) Tryd.func46 #[.slice Ao25 x0_2.length co25, .int .i64 1] ?_; (with_reducible refine (num_nat_up.calls kj45 _ _ x0_2 1 t201 _ ?side1 ?side2 A51.out).mono ?_); (case side1 => exact ck (Kd.V_reads' HO_0.out).2.2); (case side2 => exact (Kd.V_reads' HO_0.out).2.1); rintro e w67 ⟨v202, rfl, ho0, hb⟩; refine ⟨_, rfl, ?_⟩; replace HO_0 := vb HO_0 hb; replace HO_2 := vb HO_2 hb; replace HO_3 := vb HO_3 hb; have HO203 := am (Kd.V_lower (Kd.V_mono (ok' := fun k_ => ((P0_ k_ ∨ P2_ k_ ∨ P3_ k_) ∨ w.heap.size ≤ k_) ∧ some k_ ≠ (u13 : Value).ownBlock ∧ k_ ≠ g) ho0 (fun k_ hk_ => ⟨(.inr (Nat.le_trans (keep_size (kk HK)) hk_)), (Kd.fresh' (Kd.R_lt (rk HO_13)) k_ hk_), (IsS3.fresh (ik HI5) k_ hk_)⟩)) (keep_size (kk HK))); replace HO_13 := am (Kd.R_below (rk HO_13) hb); replace HK := am (KeepBut.trans (kk HK) (KeepBut.of_below hb g none) (.inl rfl)); replace HB := am (below_step (li HB HI5) hb); replace HI5 := am (IsS3.below (ik HI5) hb); obtain ⟨Ao68, co68, eo68⟩ := Kd.V_slice HO203.out; subst eo68) | (refine gL (some 90) Tryd.func49 #[.slice Ao68 t201.length co68, .slice A1 l1.length c1] ?_; (with_reducible refine (num_nat_against.calls kj45 _ _ t201 _ _ l1 t204 _ ?side1 ?side2 ?side3 ?side4 A52.out).mono ?_); (case side1 => exact ck (Kd.V_reads' HO203.out).2.2); (case side2 => exact (Kd.V_reads' HO203.out).2.1); (case side3 => exact Kd.C_keep 0 HR1.out (kk HK) hf1); (case side4 => exact HC1.out); rintro e w' ⟨rfl, ⟨nd, rfl⟩⟩; refine ⟨_, rfl, ?_⟩) | ((with_reducible refine gate_builtin (b := .append) (xs := #[.tmp 111, .tmp 113]) rfl ?_); at_builtin; refine Kd.R_append (Kd.int .u8) w.heap.size rfl (.tmp 111) (.tmp 113) 43 5 (.int .u8 0) 1 rfl Tryd.underlying43 info5 rfl (by decide) (by omega) u13 x13_1 x14_2 [.int .u8 x14_2] (fun k_ => (w.heap.size ≤ k_)) (fun _ => False) rfl rfl ?aP (fun _ hk => hk.elim) ?aF ?aO (Below.refl _ _) ?aS ?aL ?_; (case aP => exact rfl); (case aF => exact (fun k_ hk => (Nat.le_trans (keep_size (kk HK)) hk))); (case aO => exact (rk HO_13)); (case aS => exact (keep_size (kk HK))); (case aL => have := LMc66.out; omega); intro v212 w69 ho hb hg hat; rw [← Ny211.out] at ho; replace HO_0 := am (Kd.V_afterv (ok := (fun k_ => ((P0_ k_ ∨ P2_ k_ ∨ P3_ k_) ∨ w.heap.size ≤ k_) ∧ k_ ≠ g)) (by exact vy <| Kd.V_mono HO_0.out (fun _ hk => ⟨⟨hk.1, hk.2.2⟩, hk.2.1⟩)) hg hat); replace HO_2 := am (Kd.V_afterv (ok := (fun k_ => ((P0_ k_ ∨ P2_ k_ ∨ P3_ k_) ∨ w.heap.size ≤ k_) ∧ k_ ≠ g)) (by exact vy <| Kd.V_mono HO_2.out (fun _ hk => ⟨⟨hk.1, hk.2.2⟩, hk.2.1⟩)) hg hat); replace HO_3 := am (Kd.V_afterv (ok := (fun k_ => ((P0_ k_ ∨ P2_ k_ ∨ P3_ k_) ∨ w.heap.size ≤ k_) ∧ k_ ≠ g)) (by exact vy <| Kd.V_mono HO_3.out (fun _ hk => ⟨⟨hk.1, hk.2.2⟩, hk.2.1⟩)) hg hat); replace HO203 := am (Kd.V_afterv (ok := (fun k_ => ((P0_ k_ ∨ P2_ k_ ∨ P3_ k_) ∨ w.heap.size ≤ k_) ∧ k_ ≠ g)) (by exact vy <| Kd.V_mono HO203.out (fun _ hk => ⟨⟨hk.1, hk.2.2⟩, hk.2.1⟩)) hg hat); replace HB := am (below_weaken (li HB HI5) HL.out hb); replace HI5 := am (IsS3.grown (ik HI5) hg (IsS3.own_ne HI5.out HO_13.out (by decide))); replace HK := am (KeepBut.trans (kk HK) (KeepBut.of_grown hg g) (Kd.R_base2 HO_13.out)); have HO213 := am (ho); clear HO_13 ho hb hg hat))
               go_ret
               exact ⟨_, by first | rfl | (simp [errW_none, errW_some] <;> rfl) | (simp [*, errW_none, errW_some] <;> rfl), rk HO213, by repeat (first | (with_reducible first | exact HI5.out | apply IsS3.alloc | apply IsS3.drewN | apply IsS3.drew | apply IsS3.set_0) | exact HI5.out), by repeat (first | (with_reducible first | exact HB.out | apply below_alloc | apply pw_below_drewN | apply below_drew1 | refine below_set ?_ (IsS3.ge HI5.out)) | exact HB.out), by repeat (first | (with_reducible first | exact HK.out | apply KeepBut.set_ | apply keep_drewN | apply keep_drew | apply keep_alloc) | exact HK.out)⟩
              rw [if_neg c66] at H
              exact absurd H (by simp)
             rw [if_neg c60] at H
             have c60b0 : (t204 == 0) = false := beq_eq_false_iff_ne.mpr c60
             have c60b1 : (t204 != 0) = true := bne_iff_ne.mpr c60
             by_cases c70 : x13_1.length < 140737488355328
             ·
              rw [if_pos c70] at H
              have LMc70 := am c70
              clear c70
              obtain ⟨y214, hy214⟩ : ∃ y_ : List Int, y_ = (x13_1 ++ [x14_2]) := ⟨_, rfl⟩
              replace H : (some (y214, x6q0_1)) = some (r1, r2) := by first | (rw [hy214]; exact H) | exact H
              have Ny214 := am hy214
              clear hy214
              simp only [Option.some.injEq, Prod.mk.injEq] at H
              obtain ⟨rfl, rfl⟩ := H
              go_wp2_with (first | (refine gL (some 88) Tryd.func46 #[.slice Ao25 x0_2.length co25, .int .i64 1] ?_; (with_reducible refine (num_nat_up.calls kj45 _ _ x0_2 1 t201 _ ?side1 ?side2 A51.out).mono ?_); (case side1 => exact ck (Kd.V_reads' HO_0.out).2.2); (case side2 => exact (Kd.V_reads' HO_0.out).2.1); rintro e w71 ⟨v202, rfl, ho0, hb⟩; refine ⟨_, rfl, ?_⟩; replace HO_0 := vb HO_0 hb; replace HO_2 := vb HO_2 hb; replace HO_3 := vb HO_3 hb; have HO203 := am (Kd.V_lower (Kd.V_mono (ok' := fun k_ => ((P0_ k_ ∨ P2_ k_ ∨ P3_ k_) ∨ w.heap.size ≤ k_) ∧ some k_ ≠ (u13 : Value).ownBlock ∧ k_ ≠ g) ho0 (fun k_ hk_ => ⟨(.inr (Nat.le_trans (keep_size (kk HK)) hk_)), (Kd.fresh' (Kd.R_lt (rk HO_13)) k_ hk_), (IsS3.fresh (ik HI5) k_ hk_)⟩)) (keep_size (kk HK))); replace HO_13 := am (Kd.R_below (rk HO_13) hb); replace HK := am (KeepBut.trans (kk HK) (KeepBut.of_below hb g none) (.inl rfl)); replace HB := am (below_step (li HB HI5) hb); replace HI5 := am (IsS3.below (ik HI5) hb); obtain ⟨Ao72, co72, eo72⟩ := Kd.V_slice HO203.out; subst eo72) | (refine gL (some 90) Tryd.func49 #[.slice Ao72 t201.length co72, .slice A1 l1.length c1] ?_; (with_reducible refine (num_nat_against.calls kj45 _ _ t201 _ _ l1 t204 _ ?side1 ?side2 ?side3 ?side4 A52.out).mono ?_); (case side1 => exact ck (Kd.V_reads' HO203.out).2.2); (case side2 => exact (Kd.V_reads' HO203.out).2.1); (case side3 => exact Kd.C_keep 0 HR1.out (kk HK) hf1); (case side4 => exact HC1.out); rintro e w' ⟨rfl, ⟨nd, rfl⟩⟩; refine ⟨_, rfl, ?_⟩) | ((with_reducible refine gate_builtin (b := .append) (xs := #[.tmp 111, .tmp 113]) rfl ?_); at_builtin; refine Kd.R_append (Kd.int .u8) w.heap.size rfl (.tmp 111) (.tmp 113) 43 5 (.int .u8 0) 1 rfl Tryd.underlying43 info5 rfl (by decide) (by omega) u13 x13_1 x14_2 [.int .u8 x14_2] (fun k_ => (w.heap.size ≤ k_)) (fun _ => False) rfl rfl ?aP (fun _ hk => hk.elim) ?aF ?aO (Below.refl _ _) ?aS ?aL ?_; (case aP => exact rfl); (case aF => exact (fun k_ hk => (Nat.le_trans (keep_size (kk HK)) hk))); (case aO => exact (rk HO_13)); (case aS => exact (keep_size (kk HK))); (case aL => have := LMc70.out; omega); intro v215 w73 ho hb hg hat; rw [← Ny214.out] at ho; replace HO_0 := am (Kd.V_afterv (ok := (fun k_ => ((P0_ k_ ∨ P2_ k_ ∨ P3_ k_) ∨ w.heap.size ≤ k_) ∧ k_ ≠ g)) (by exact vy <| Kd.V_mono HO_0.out (fun _ hk => ⟨⟨hk.1, hk.2.2⟩, hk.2.1⟩)) hg hat); replace HO_2 := am (Kd.V_afterv (ok := (fun k_ => ((P0_ k_ ∨ P2_ k_ ∨ P3_ k_) ∨ w.heap.size ≤ k_) ∧ k_ ≠ g)) (by exact vy <| Kd.V_mono HO_2.out (fun _ hk => ⟨⟨hk.1, hk.2.2⟩, hk.2.1⟩)) hg hat); replace HO_3 := am (Kd.V_afterv (ok := (fun k_ => ((P0_ k_ ∨ P2_ k_ ∨ P3_ k_) ∨ w.heap.size ≤ k_) ∧ k_ ≠ g)) (by exact vy <| Kd.V_mono HO_3.out (fun _ hk => ⟨⟨hk.1, hk.2.2⟩, hk.2.1⟩)) hg hat); replace HO203 := am (Kd.V_afterv (ok := (fun k_ => ((P0_ k_ ∨ P2_ k_ ∨ P3_ k_) ∨ w.heap.size ≤ k_) ∧ k_ ≠ g)) (by exact vy <| Kd.V_mono HO203.out (fun _ hk => ⟨⟨hk.1, hk.2.2⟩, hk.2.1⟩)) hg hat); replace HB := am (below_weaken (li HB HI5) HL.out hb); replace HI5 := am (IsS3.grown (ik HI5) hg (IsS3.own_ne HI5.out HO_13.out (by decide))); replace HK := am (KeepBut.trans (kk HK) (KeepBut.of_grown hg g) (Kd.R_base2 HO_13.out)); have HO216 := am (ho); clear HO_13 ho hb hg hat))
              go_ret
              exact ⟨_, by first | rfl | (simp [errW_none, errW_some] <;> rfl) | (simp [*, errW_none, errW_some] <;> rfl), rk HO216, by repeat (first | (with_reducible first | exact HI5.out | apply IsS3.alloc | apply IsS3.drewN | apply IsS3.drew | apply IsS3.set_0) | exact HI5.out), by repeat (first | (with_reducible first | exact HB.out | apply below_alloc | apply pw_below_drewN | apply below_drew1 | refine below_set ?_ (IsS3.ge HI5.out)) | exact HB.out), by repeat (first | (with_reducible first | exact HK.out | apply KeepBut.set_ | apply keep_drewN | apply keep_drew | apply keep_alloc) | exact HK.out)⟩
             rw [if_neg c70] at H
             exact absurd H (by simp)
            replace c54 := Bool.eq_false_iff.mpr c54
            subst c54
            have H1 : (if x13_1.length < 140737488355328 then (some ((x13_1 ++ [(x14_2 + 1) % 256]), x6q0_1)) else (none)) = some (r1, r2) := by rw [if_neg (show ¬ (false = true) by decide)] at H; exact H
            clear H
            have H := H1
            clear H1
            by_cases c74 : x13_1.length < 140737488355328
            ·
             rw [if_pos c74] at H
             have LMc74 := am c74
             clear c74
             obtain ⟨y217, hy217⟩ : ∃ y_ : List Int, y_ = (x13_1 ++ [(x14_2 + 1) % 256]) := ⟨_, rfl⟩
             replace H : (some (y217, x6q0_1)) = some (r1, r2) := by first | (rw [hy217]; exact H) | exact H
             have Ny217 := am hy217
             clear hy217
             simp only [Option.some.injEq, Prod.mk.injEq] at H
             obtain ⟨rfl, rfl⟩ := H
             go_wp2_with (first | (refine gL (some 88) Tryd.func46 #[.slice Ao25 x0_2.length co25, .int .i64 1] ?_; (with_reducible refine (num_nat_up.calls kj45 _ _ x0_2 1 t201 _ ?side1 ?side2 A51.out).mono ?_); (case side1 => exact ck (Kd.V_reads' HO_0.out).2.2); (case side2 => exact (Kd.V_reads' HO_0.out).2.1); rintro e w75 ⟨v202, rfl, ho0, hb⟩; refine ⟨_, rfl, ?_⟩; replace HO_0 := vb HO_0 hb; replace HO_2 := vb HO_2 hb; replace HO_3 := vb HO_3 hb; have HO203 := am (Kd.V_lower (Kd.V_mono (ok' := fun k_ => ((P0_ k_ ∨ P2_ k_ ∨ P3_ k_) ∨ w.heap.size ≤ k_) ∧ some k_ ≠ (u13 : Value).ownBlock ∧ k_ ≠ g) ho0 (fun k_ hk_ => ⟨(.inr (Nat.le_trans (keep_size (kk HK)) hk_)), (Kd.fresh' (Kd.R_lt (rk HO_13)) k_ hk_), (IsS3.fresh (ik HI5) k_ hk_)⟩)) (keep_size (kk HK))); replace HO_13 := am (Kd.R_below (rk HO_13) hb); replace HK := am (KeepBut.trans (kk HK) (KeepBut.of_below hb g none) (.inl rfl)); replace HB := am (below_step (li HB HI5) hb); replace HI5 := am (IsS3.below (ik HI5) hb); obtain ⟨Ao76, co76, eo76⟩ := Kd.V_slice HO203.out; subst eo76) | (refine gL (some 90) Tryd.func49 #[.slice Ao76 t201.length co76, .slice A1 l1.length c1] ?_; (with_reducible refine (num_nat_against.calls kj45 _ _ t201 _ _ l1 t204 _ ?side1 ?side2 ?side3 ?side4 A52.out).mono ?_); (case side1 => exact ck (Kd.V_reads' HO203.out).2.2); (case side2 => exact (Kd.V_reads' HO203.out).2.1); (case side3 => exact Kd.C_keep 0 HR1.out (kk HK) hf1); (case side4 => exact HC1.out); rintro e w' ⟨rfl, ⟨nd, rfl⟩⟩; refine ⟨_, rfl, ?_⟩) | ((with_reducible refine gate_builtin (b := .append) (xs := #[.tmp 111, .tmp 113]) rfl ?_); at_builtin; refine Kd.R_append (Kd.int .u8) w.heap.size rfl (.tmp 111) (.tmp 113) 43 5 (.int .u8 0) 1 rfl Tryd.underlying43 info5 rfl (by decide) (by omega) u13 x13_1 ((x14_2 + 1) % 256) [.int .u8 ((x14_2 + 1) % 256)] (fun k_ => (w.heap.size ≤ k_)) (fun _ => False) rfl rfl ?aP (fun _ hk => hk.elim) ?aF ?aO (Below.refl _ _) ?aS ?aL ?_; (case aP => exact rfl); (case aF => exact (fun k_ hk => (Nat.le_trans (keep_size (kk HK)) hk))); (case aO => exact (rk HO_13)); (case aS => exact (keep_size (kk HK))); (case aL => have := LMc74.out; omega); intro v218 w77 ho hb hg hat; rw [← Ny217.out] at ho; replace HO_0 := am (Kd.V_afterv (ok := (fun k_ => ((P0_ k_ ∨ P2_ k_ ∨ P3_ k_) ∨ w.heap.size ≤ k_) ∧ k_ ≠ g)) (by exact vy <| Kd.V_mono HO_0.out (fun _ hk => ⟨⟨hk.1, hk.2.2⟩, hk.2.1⟩)) hg hat); replace HO_2 := am (Kd.V_afterv (ok := (fun k_ => ((P0_ k_ ∨ P2_ k_ ∨ P3_ k_) ∨ w.heap.size ≤ k_) ∧ k_ ≠ g)) (by exact vy <| Kd.V_mono HO_2.out (fun _ hk => ⟨⟨hk.1, hk.2.2⟩, hk.2.1⟩)) hg hat); replace HO_3 := am (Kd.V_afterv (ok := (fun k_ => ((P0_ k_ ∨ P2_ k_ ∨ P3_ k_) ∨ w.heap.size ≤ k_) ∧ k_ ≠ g)) (by exact vy <| Kd.V_mono HO_3.out (fun _ hk => ⟨⟨hk.1, hk.2.2⟩, hk.2.1⟩)) hg hat); replace HO203 := am (Kd.V_afterv (ok := (fun k_ => ((P0_ k_ ∨ P2_ k_ ∨ P3_ k_) ∨ w.heap.size ≤ k_) ∧ k_ ≠ g)) (by exact vy <| Kd.V_mono HO203.out (fun _ hk => ⟨⟨hk.1, hk.2.2⟩, hk.2.1⟩)) hg hat); replace HB := am (below_weaken (li HB HI5) HL.out hb); replace HI5 := am (IsS3.grown (ik HI5) hg (IsS3.own_ne HI5.out HO_13.out (by decide))); replace HK := am (KeepBut.trans (kk HK) (KeepBut.of_grown hg g) (Kd.R_base2 HO_13.out)); have HO219 := am (ho); clear HO_13 ho hb hg hat))
             go_ret
             exact ⟨_, by first | rfl | (simp [errW_none, errW_some] <;> rfl) | (simp [*, errW_none, errW_some] <;> rfl), rk HO219, by repeat (first | (with_reducible first | exact HI5.out | apply IsS3.alloc | apply IsS3.drewN | apply IsS3.drew | apply IsS3.set_0) | exact HI5.out), by repeat (first | (with_reducible first | exact HB.out | apply below_alloc | apply pw_below_drewN | apply below_drew1 | refine below_set ?_ (IsS3.ge HI5.out)) | exact HB.out), by repeat (first | (with_reducible first | exact HK.out | apply KeepBut.set_ | apply keep_drewN | apply keep_drew | apply keep_alloc) | exact HK.out)⟩
            rw [if_neg c74] at H
            exact absurd H (by simp)
           replace c53 := Bool.eq_false_iff.mpr c53
           subst c53
           have H1 : (if x13_1.length < 140737488355328 then (some ((x13_1 ++ [x14_2]), x6q0_1)) else (none)) = some (r1, r2) := by rw [if_neg (show ¬ (false = true) by decide)] at H; exact H
           clear H
           have H := H1
           clear H1
           by_cases c78 : x13_1.length < 140737488355328
           ·
            rw [if_pos c78] at H
            have LMc78 := am c78
            clear c78
            obtain ⟨y220, hy220⟩ : ∃ y_ : List Int, y_ = (x13_1 ++ [x14_2]) := ⟨_, rfl⟩
            replace H : (some (y220, x6q0_1)) = some (r1, r2) := by first | (rw [hy220]; exact H) | exact H
            have Ny220 := am hy220
            clear hy220
            simp only [Option.some.injEq, Prod.mk.injEq] at H
            obtain ⟨rfl, rfl⟩ := H
            go_wp2_with (first | (refine gL (some 88) Tryd.func46 #[.slice Ao25 x0_2.length co25, .int .i64 1] ?_; (with_reducible refine (num_nat_up.calls kj45 _ _ x0_2 1 t201 _ ?side1 ?side2 A51.out).mono ?_); (case side1 => exact ck (Kd.V_reads' HO_0.out).2.2); (case side2 => exact (Kd.V_reads' HO_0.out).2.1); rintro e w79 ⟨v202, rfl, ho0, hb⟩; refine ⟨_, rfl, ?_⟩; replace HO_0 := vb HO_0 hb; replace HO_2 := vb HO_2 hb; replace HO_3 := vb HO_3 hb; have HO203 := am (Kd.V_lower (Kd.V_mono (ok' := fun k_ => ((P0_ k_ ∨ P2_ k_ ∨ P3_ k_) ∨ w.heap.size ≤ k_) ∧ some k_ ≠ (u13 : Value).ownBlock ∧ k_ ≠ g) ho0 (fun k_ hk_ => ⟨(.inr (Nat.le_trans (keep_size (kk HK)) hk_)), (Kd.fresh' (Kd.R_lt (rk HO_13)) k_ hk_), (IsS3.fresh (ik HI5) k_ hk_)⟩)) (keep_size (kk HK))); replace HO_13 := am (Kd.R_below (rk HO_13) hb); replace HK := am (KeepBut.trans (kk HK) (KeepBut.of_below hb g none) (.inl rfl)); replace HB := am (below_step (li HB HI5) hb); replace HI5 := am (IsS3.below (ik HI5) hb); obtain ⟨Ao80, co80, eo80⟩ := Kd.V_slice HO203.out; subst eo80) | (refine gL (some 90) Tryd.func49 #[.slice Ao80 t201.length co80, .slice A1 l1.length c1] ?_; (with_reducible refine (num_nat_against.calls kj45 _ _ t201 _ _ l1 t204 _ ?side1 ?side2 ?side3 ?side4 A52.out).mono ?_); (case side1 => exact ck (Kd.V_reads' HO203.out).2.2); (case side2 => exact (Kd.V_reads' HO203.out).2.1); (case side3 => exact Kd.C_keep 0 HR1.out (kk HK) hf1); (case side4 => exact HC1.out); rintro e w' ⟨rfl, ⟨nd, rfl⟩⟩; refine ⟨_, rfl, ?_⟩) | ((with_reducible refine gate_builtin (b := .append) (xs := #[.tmp 111, .tmp 113]) rfl ?_); at_builtin; refine Kd.R_append (Kd.int .u8) w.heap.size rfl (.tmp 111) (.tmp 113) 43 5 (.int .u8 0) 1 rfl Tryd.underlying43 info5 rfl (by decide) (by omega) u13 x13_1 x14_2 [.int .u8 x14_2] (fun k_ => (w.heap.size ≤ k_)) (fun _ => False) rfl rfl ?aP (fun _ hk => hk.elim) ?aF ?aO (Below.refl _ _) ?aS ?aL ?_; (case aP => exact rfl); (case aF => exact (fun k_ hk => (Nat.le_trans (keep_size (kk HK)) hk))); (case aO => exact (rk HO_13)); (case aS => exact (keep_size (kk HK))); (case aL => have := LMc78.out; omega); intro v221 w81 ho hb hg hat; rw [← Ny220.out] at ho; replace HO_0 := am (Kd.V_afterv (ok := (fun k_ => ((P0_ k_ ∨ P2_ k_ ∨ P3_ k_) ∨ w.heap.size ≤ k_) ∧ k_ ≠ g)) (by exact vy <| Kd.V_mono HO_0.out (fun _ hk => ⟨⟨hk.1, hk.2.2⟩, hk.2.1⟩)) hg hat); replace HO_2 := am (Kd.V_afterv (ok := (fun k_ => ((P0_ k_ ∨ P2_ k_ ∨ P3_ k_) ∨ w.heap.size ≤ k_) ∧ k_ ≠ g)) (by exact vy <| Kd.V_mono HO_2.out (fun _ hk => ⟨⟨hk.1, hk.2.2⟩, hk.2.1⟩)) hg hat); replace HO_3 := am (Kd.V_afterv (ok := (fun k_ => ((P0_ k_ ∨ P2_ k_ ∨ P3_ k_) ∨ w.heap.size ≤ k_) ∧ k_ ≠ g)) (by exact vy <| Kd.V_mono HO_3.out (fun _ hk => ⟨⟨hk.1, hk.2.2⟩, hk.2.1⟩)) hg hat); replace HO203 := am (Kd.V_afterv (ok := (fun k_ => ((P0_ k_ ∨ P2_ k_ ∨ P3_ k_) ∨ w.heap.size ≤ k_) ∧ k_ ≠ g)) (by exact vy <| Kd.V_mono HO203.out (fun _ hk => ⟨⟨hk.1, hk.2.2⟩, hk.2.1⟩)) hg hat); replace HB := am (below_weaken (li HB HI5) HL.out hb); replace HI5 := am (IsS3.grown (ik HI5) hg (IsS3.own_ne HI5.out HO_13.out (by decide))); replace HK := am (KeepBut.trans (kk HK) (KeepBut.of_grown hg g) (Kd.R_base2 HO_13.out)); have HO222 := am (ho); clear HO_13 ho hb hg hat))
            go_ret
            exact ⟨_, by first | rfl | (simp [errW_none, errW_some] <;> rfl) | (simp [*, errW_none, errW_some] <;> rfl), rk HO222, by repeat (first | (with_reducible first | exact HI5.out | apply IsS3.alloc | apply IsS3.drewN | apply IsS3.drew | apply IsS3.set_0) | exact HI5.out), by repeat (first | (with_reducible first | exact HB.out | apply below_alloc | apply pw_below_drewN | apply below_drew1 | refine below_set ?_ (IsS3.ge HI5.out)) | exact HB.out), by repeat (first | (with_reducible first | exact HK.out | apply KeepBut.set_ | apply keep_drewN | apply keep_drew | apply keep_alloc) | exact HK.out)⟩
           rw [if_neg c78] at H
           exact absurd H (by simp)
def math_Abs.f (a0 : Nat) : Option (Nat) := some (((Go.bits .andNot .u64 (a0 : Int) 9223372036854775808) : Int).toNat)
set_option maxHeartbeats 8000000 in
theorem math_Abs.calls (a0 : Nat) (r : Nat) (w : World) (h : math_Abs.f a0 = some r) :
  Calls Tryd.prog 74 #[.float .f64 a0] w fun e w' => e = .returned (.float .f64 r) ∧ Drawn0 w w' := by
 have H : (some (((Go.bits .andNot .u64 (a0 : Int) 9223372036854775808) : Int).toNat)) = some r := h
 clear h
 obtain rfl := Option.some.inj H
 have hext0 := Hd.ext12
 have hext1 := Hd.ext54
 go_enter Tryd.func74, Tryd.ntmps74
 go_wp2
 go_ret
 exact ⟨by first | rfl | (simp; done) | (simp [*]; done), by repeat (first | exact Drawn0.refl _ | apply Drawn0.step)⟩
def math_IsInf.f (a0 : Nat) (a1 : Int) : Option (Bool) := if a1 = 0 then ((math_Abs.f a0).bind fun t101 => (some (FloatKind.f64.format.order t101 9218868437227405311 == some Ordering.gt))) else (if a1 < 0 then (none) else (some (FloatKind.f64.format.order a0 9218868437227405311 == some Ordering.gt)))
set_option maxHeartbeats 8000000 in
theorem math_IsInf.calls (a0 : Nat) (a1 : Int) (r : Bool) (w : World) (h : math_IsInf.f a0 a1 = some r) :
  Calls Tryd.prog 32 #[.float .f64 a0, .int .i64 a1] w fun e w' => e = .returned (.bool r) ∧ Drawn0 w w' := by
 have H : (if a1 = 0 then ((math_Abs.f a0).bind fun t101 => (some (FloatKind.f64.format.order t101 9218868437227405311 == some Ordering.gt))) else (if a1 < 0 then (none) else (some (FloatKind.f64.format.order a0 9218868437227405311 == some Ordering.gt)))) = some r := h
 clear h
 by_cases c3 : a1 = 0
 ·
  rw [if_pos c3] at H
  have c3b0 : (a1 == 0) = true := beq_iff_eq.mpr c3
  have c3b1 : (a1 != 0) = false := bne_eq_false_iff_eq.mpr c3
  clear c3
  replace H := bm H
  obtain ⟨t101, A40, H⟩ := H
  have A4 := am A40
  clear A40
  obtain rfl := Option.some.inj H
  go_enter Tryd.func32, Tryd.ntmps32
  go_wp2_with (first | (refine gL (some 8) Tryd.func74 #[.float .f64 a0] ?_; (with_reducible refine (math_Abs.calls a0 t101 _ A4.out).mono ?_); rintro e w' ⟨rfl, ⟨nd, rfl⟩⟩; refine ⟨_, rfl, ?_⟩))
  go_ret
  exact ⟨by first | rfl | (simp; done) | (simp [*]; done), by repeat (first | exact Drawn0.refl _ | apply Drawn0.step)⟩
 rw [if_neg c3] at H
 have c3b0 : (a1 == 0) = false := beq_eq_false_iff_ne.mpr c3
 have c3b1 : (a1 != 0) = true := bne_iff_ne.mpr c3
 by_cases c5 : a1 < 0
 ·
  rw [if_pos c5] at H
  exact absurd H (by simp)
 rw [if_neg c5] at H
 have c5b0 := decide_eq_false c5
 clear c5
 obtain rfl := Option.some.inj H
 go_enter Tryd.func32, Tryd.ntmps32
 go_wp2
 go_ret
 exact ⟨by first | rfl | (simp; done) | (simp [*]; done), by repeat (first | exact Drawn0.refl _ | apply Drawn0.step)⟩
def math_Signbit.f (a0 : Nat) : Option (Bool) := some (decide ((wrap64 ((a0 : Int))) < 0))
set_option maxHeartbeats 8000000 in
theorem math_Signbit.calls (a0 : Nat) (r : Bool) (w : World) (h : math_Signbit.f a0 = some r) :
  Calls Tryd.prog 42 #[.float .f64 a0] w fun e w' => e = .returned (.bool r) ∧ Drawn0 w w' := by
 have H : (some (decide ((wrap64 ((a0 : Int))) < 0))) = some r := h
 clear h
 obtain rfl := Option.some.inj H
 have hext0 := Hd.ext54
 go_enter Tryd.func42, Tryd.ntmps42
 go_wp2
 go_ret
 exact ⟨by first | rfl | (simp; done) | (simp [*]; done), by repeat (first | exact Drawn0.refl _ | apply Drawn0.step)⟩
def math_IsNaN.f (a0 : Nat) : Option (Bool) := some (FloatKind.f64.format.order a0 a0 != some Ordering.eq)
set_option maxHeartbeats 8000000 in
theorem math_IsNaN.calls (a0 : Nat) (r : Bool) (w : World) (h : math_IsNaN.f a0 = some r) :
  Calls Tryd.prog 43 #[.float .f64 a0] w fun e w' => e = .returned (.bool r) ∧ Drawn0 w w' := by
 have H : (some (FloatKind.f64.format.order a0 a0 != some Ordering.eq)) = some r := h
 clear h
 obtain rfl := Option.some.inj H
 go_enter Tryd.func43, Tryd.ntmps43
 go_wp2
 go_ret
 exact ⟨by first | rfl | (simp; done) | (simp [*]; done), by repeat (first | exact Drawn0.refl _ | apply Drawn0.step)⟩
def num_parts.f (a0 : Nat) : Option (Int × Int) := if (wrap64 (Go.bits .and .u64 ((a0 : Int) / 4503599627370496) 2047)) = 0 then (some (Go.bits .and .u64 (a0 : Int) 4503599627370495, (-1074))) else (some (Go.bits .or .u64 (Go.bits .and .u64 (a0 : Int) 4503599627370495) 4503599627370496, wrap64 ((wrap64 ((wrap64 (Go.bits .and .u64 ((a0 : Int) / 4503599627370496) 2047)) + (-1074))) - 1)))
set_option maxHeartbeats 8000000 in
theorem num_parts.calls (a0 : Nat) (r1 : Int) (r2 : Int) (w : World) (h : num_parts.f a0 = some (r1, r2)) :
  Calls Tryd.prog 44 #[.float .f64 a0] w fun e w' => e = .returned (.tuple #[.int .u64 r1, .int .i64 r2]) ∧ Drawn0 w w' := by
 have H : (if (wrap64 (Go.bits .and .u64 ((a0 : Int) / 4503599627370496) 2047)) = 0 then (some (Go.bits .and .u64 (a0 : Int) 4503599627370495, (-1074))) else (some (Go.bits .or .u64 (Go.bits .and .u64 (a0 : Int) 4503599627370495) 4503599627370496, wrap64 ((wrap64 ((wrap64 (Go.bits .and .u64 ((a0 : Int) / 4503599627370496) 2047)) + (-1074))) - 1)))) = some (r1, r2) := h
 clear h
 by_cases c2 : (wrap64 (Go.bits .and .u64 ((a0 : Int) / 4503599627370496) 2047)) = 0
 ·
  rw [if_pos c2] at H
  have c2b0 : ((wrap64 (Go.bits .and .u64 ((a0 : Int) / 4503599627370496) 2047)) == 0) = true := beq_iff_eq.mpr c2
  have c2b1 : ((wrap64 (Go.bits .and .u64 ((a0 : Int) / 4503599627370496) 2047)) != 0) = false := bne_eq_false_iff_eq.mpr c2
  clear c2
  simp only [Option.some.injEq, Prod.mk.injEq] at H
  obtain ⟨rfl, rfl⟩ := H
  have hext0 := Hd.ext54
  go_enter Tryd.func44, Tryd.ntmps44
  go_wp2
  go_ret2
  exact ⟨by first | rfl | (simp; done) | (simp [*]; done), by repeat (first | exact Drawn0.refl _ | apply Drawn0.step)⟩
 rw [if_neg c2] at H
 have c2b0 : ((wrap64 (Go.bits .and .u64 ((a0 : Int) / 4503599627370496) 2047)) == 0) = false := beq_eq_false_iff_ne.mpr c2
 have c2b1 : ((wrap64 (Go.bits .and .u64 ((a0 : Int) / 4503599627370496) 2047)) != 0) = true := bne_iff_ne.mpr c2
 simp only [Option.some.injEq, Prod.mk.injEq] at H
 obtain ⟨rfl, rfl⟩ := H
 have hext0 := Hd.ext54
 go_enter Tryd.func44, Tryd.ntmps44
 go_wp2
 go_ret2
 exact ⟨by first | rfl | (simp; done) | (simp [*]; done), by repeat (first | exact Drawn0.refl _ | apply Drawn0.step)⟩
def num_digit.f (a0 : Int) : Option (Bool) := if a0 ≥ 48 then (some (decide (a0 ≤ 57))) else (some false)
set_option maxHeartbeats 8000000 in
theorem num_digit.calls (a0 : Int) (r : Bool) (w : World) (h : num_digit.f a0 = some r) :
  Calls Tryd.prog 104 #[.int .u8 a0] w fun e w' => e = .returned (.bool r) ∧ Drawn0 w w' := by
 have H : (if a0 ≥ 48 then (some (decide (a0 ≤ 57))) else (some false)) = some r := h
 clear h
 by_cases c2 : a0 ≥ 48
 ·
  rw [if_pos c2] at H
  have c2b0 : decide (48 ≤ a0) = true := dt c2
  clear c2
  obtain rfl := Option.some.inj H
  go_enter Tryd.func104, Tryd.ntmps104
  go_wp2
  go_ret
  exact ⟨by first | rfl | (simp; done) | (simp [*]; done), by repeat (first | exact Drawn0.refl _ | apply Drawn0.step)⟩
 rw [if_neg c2] at H
 have c2b0 : decide (48 ≤ a0) = false := decide_eq_false c2
 clear c2
 obtain rfl := Option.some.inj H
 go_enter Tryd.func104, Tryd.ntmps104
 go_wp2
 go_ret
 exact ⟨by first | rfl | (simp; done) | (simp [*]; done), by repeat (first | exact Drawn0.refl _ | apply Drawn0.step)⟩
def num_run.l0 : Nat → ByteArray → Int → Option (Int)
 | 0, _, _ => none
 | k + 1, x0, x3 => if x3 < (x0.size : Int) then (if 0 ≤ x3 then ((num_digit.f (bt x0 x3)).bind fun t549 => (if t549 = true then (num_run.l0 k x0 (wrap64 (x3 + 1))) else (some x3))) else (none)) else (some x3)
def num_run.f (k : Nat) (a0 : ByteArray) : Option (Int) := num_run.l0 k a0 0
theorem num_run.mono_l : ∀ k, (∀ y0 y1, LeO (num_run.l0 k y0 y1) (num_run.l0 (k + 1) y0 y1))
 | 0 => fun _ _ r h => by simp [num_run.l0] at h
 | k + 1 => by
  have ih0 := num_run.mono_l k
  ·
   intro y0 y1
   unfold num_run.l0
   repeat' (with_reducible first | apply ih0 | apply LeO.refl | apply LeO.none | apply LeO.ite | refine LeO.bind ?_ (fun _ => ?_))
theorem num_run.mono : ∀ a0 k, LeO (num_run.f k a0) (num_run.f (k + 1) a0) := by
 intro a0 k
 have ih0 := num_run.mono_l k
 unfold num_run.f
 repeat' (with_reducible first | apply ih0 | apply LeO.refl | apply LeO.none | apply LeO.ite | refine LeO.bind ?_ (fun _ => ?_))
set_option maxHeartbeats 8000000 in
theorem num_run.calls (k : Nat) (a0 : ByteArray) (r : Int) (w : World) (h : num_run.f k a0 = some r) :
  Calls Tryd.prog 76 #[.string a0] w fun e w' => e = .returned (.int .i64 r) ∧ Drawn0 w w' := by
 have H : (num_run.l0 k a0 0) = some r := h
 clear h
 have H' := am H
 clear H
 go_enter Tryd.func76, Tryd.ntmps76
 go_wp2
 go_loopg [3] k (fun kq v3 w' => ∃ (x3_1 : Int), v3 = .int .i64 x3_1 ∧ Aside0 (num_run.l0 kq a0 x3_1 = some r) ∧ Aside0 (kq ≤ k) ∧ Drawn0 w w')
 case atStart => exact ⟨(0), eqd, H', ⟨Nat.le_refl _⟩, by repeat (first | exact Drawn0.refl _ | apply Drawn0.step)⟩
 case round =>
  clear H'
  obtain ⟨x3_1, rfl, HA, HK1, ⟨m1, rfl⟩⟩ := hrel
  cases gk with
  | zero => exact absurd HA.out (by simp [num_run.l0])
  | succ k1 =>
   have H := HA.out
   clear HA
   simp only [num_run.l0] at H
   by_cases c2 : x3_1 < (a0.size : Int)
   ·
    rw [if_pos c2] at H
    have c2b0 := dt c2
    clear c2
    by_cases c3 : 0 ≤ x3_1
    ·
     rw [if_pos c3] at H
     have c3b0 := dt c3
     clear c3
     replace H := bm H
     obtain ⟨t549, A50, H⟩ := H
     have A5 := am A50
     clear A50
     by_cases c6 : t549 = true
     ·
      subst c6
      rw [if_pos rfl] at H
      have H' := am H
      clear H
      have p4 : 0 ≤ (x3_1 : Int) := od
      have q4 : x3_1 < (a0.size : Int) := od
      have hx4 := bt_at a0 x3_1
      replace p4 := eq_true p4
      replace q4 := eq_true q4
      go_wp2_with (first | (go_at_call 104; (with_reducible refine (num_digit.calls (bt a0 x3_1) true _ A5.out).mono ?_); rintro e w' ⟨rfl, ⟨nd, rfl⟩⟩))
      go_roundg k1
      case measure => have := HK1.out; omega
      case rel => exact ⟨(wrap64 (x3_1 + 1)), eqd, H', ⟨by have := HK1.out; omega⟩, by repeat (first | exact Drawn0.refl _ | apply Drawn0.step)⟩
     replace c6 := Bool.eq_false_iff.mpr c6
     subst c6
     rw [if_neg (show ¬ (false = true) by decide)] at H
     obtain rfl := Option.some.inj H
     have p4 : 0 ≤ (x3_1 : Int) := od
     have q4 : x3_1 < (a0.size : Int) := od
     have hx4 := bt_at a0 x3_1
     replace p4 := eq_true p4
     replace q4 := eq_true q4
     go_wp2_with (first | (go_at_call 104; (with_reducible refine (num_digit.calls (bt a0 x3_1) false _ A5.out).mono ?_); rintro e w' ⟨rfl, ⟨nd, rfl⟩⟩))
     go_ret
     exact ⟨by first | rfl | (simp; done) | (simp [*]; done), by repeat (first | exact Drawn0.refl _ | apply Drawn0.step)⟩
    rw [if_neg c3] at H
    exact absurd H (by simp)
   rw [if_neg c2] at H
   have c2b0 := decide_eq_false c2
   clear c2
   obtain rfl := Option.some.inj H
   go_wp2
   go_ret
   exact ⟨by first | rfl | (simp; done) | (simp [*]; done), by repeat (first | exact Drawn0.refl _ | apply Drawn0.step)⟩
def r_digit.f (a0 : Int) : Option (Bool) := if a0 ≥ 48 then (some (decide (a0 ≤ 57))) else (some false)
set_option maxHeartbeats 8000000 in
theorem r_digit.calls (a0 : Int) (r : Bool) (w : World) (h : r_digit.f a0 = some r) :
  Calls Tryd.prog 71 #[.int .u8 a0] w fun e w' => e = .returned (.bool r) ∧ Drawn0 w w' := by
 have H : (if a0 ≥ 48 then (some (decide (a0 ≤ 57))) else (some false)) = some r := h
 clear h
 by_cases c2 : a0 ≥ 48
 ·
  rw [if_pos c2] at H
  have c2b0 : decide (48 ≤ a0) = true := dt c2
  clear c2
  obtain rfl := Option.some.inj H
  go_enter Tryd.func71, Tryd.ntmps71
  go_wp2
  go_ret
  exact ⟨by first | rfl | (simp; done) | (simp [*]; done), by repeat (first | exact Drawn0.refl _ | apply Drawn0.step)⟩
 rw [if_neg c2] at H
 have c2b0 : decide (48 ≤ a0) = false := decide_eq_false c2
 clear c2
 obtain rfl := Option.some.inj H
 go_enter Tryd.func71, Tryd.ntmps71
 go_wp2
 go_ret
 exact ⟨by first | rfl | (simp; done) | (simp [*]; done), by repeat (first | exact Drawn0.refl _ | apply Drawn0.step)⟩
def stringslite_HasPrefix.f (a0 : ByteArray) (a1 : ByteArray) : Option (Bool) := if (a0.size : Int) ≥ (a1.size : Int) then (if 0 ≤ (a1.size : Int) then (if (a1.size : Int) ≤ (a0.size : Int) then (some ((a0.extract 0 ((a1.size : Int) : Int).toNat).toList == a1.toList)) else (none)) else (none)) else (some false)
set_option maxHeartbeats 8000000 in
theorem stringslite_HasPrefix.calls (a0 : ByteArray) (a1 : ByteArray) (r : Bool) (w : World) (h : stringslite_HasPrefix.f a0 a1 = some r) :
  Calls Tryd.prog 113 #[.string a0, .string a1] w fun e w' => e = .returned (.bool r) ∧ Drawn0 w w' := by
 have H : (if (a0.size : Int) ≥ (a1.size : Int) then (if 0 ≤ (a1.size : Int) then (if (a1.size : Int) ≤ (a0.size : Int) then (some ((a0.extract 0 ((a1.size : Int) : Int).toNat).toList == a1.toList)) else (none)) else (none)) else (some false)) = some r := h
 clear h
 by_cases c3 : (a0.size : Int) ≥ (a1.size : Int)
 ·
  rw [if_pos c3] at H
  have c3b0 : decide ((a1.size : Int) ≤ (a0.size : Int)) = true := dt c3
  have c3b1 : decide (a1.size ≤ a0.size) = true := dt (Int.ofNat_le.mp c3)
  clear c3
  by_cases c4 : 0 ≤ (a1.size : Int)
  ·
   rw [if_pos c4] at H
   have c4b0 := eq_true c4
   have c4b1 := dt c4
   clear c4
   by_cases c5 : (a1.size : Int) ≤ (a0.size : Int)
   ·
    rw [if_pos c5] at H
    have c5b0 := eq_true c5
    have c5b1 := dt c5
    clear c5
    obtain ⟨y490, hy490⟩ : ∃ y_ : ByteArray, y_ = (a0.extract 0 ((a1.size : Int) : Int).toNat) := ⟨_, rfl⟩
    replace H : (some (y490.toList == a1.toList)) = some r := by first | (rw [hy490]; exact H) | exact H
    have Ny490 := am hy490
    clear hy490
    obtain rfl := Option.some.inj H
    have hcs6 := Hd.str_to (P := Tryd.prog) (k := .i64) Tryd.underlying9 (j := (a1.size : Int)) (s := a0) (y := y490) oo oo Ny490.out
    go_enter Tryd.func113, Tryd.ntmps113
    go_wp2
    go_ret
    exact ⟨by first | rfl | (simp; done) | (simp [*]; done), by repeat (first | exact Drawn0.refl _ | apply Drawn0.step)⟩
   rw [if_neg c5] at H
   exact absurd H (by simp)
  rw [if_neg c4] at H
  exact absurd H (by simp)
 rw [if_neg c3] at H
 have c3b0 : decide ((a1.size : Int) ≤ (a0.size : Int)) = false := decide_eq_false c3
 have c3b1 : decide (a1.size ≤ a0.size) = false := decide_eq_false (fun h => c3 (Int.ofNat_le.mpr h))
 clear c3
 obtain rfl := Option.some.inj H
 go_enter Tryd.func113, Tryd.ntmps113
 go_wp2
 go_ret
 exact ⟨by first | rfl | (simp; done) | (simp [*]; done), by repeat (first | exact Drawn0.refl _ | apply Drawn0.step)⟩
def strings_HasPrefix.f (a0 : ByteArray) (a1 : ByteArray) : Option (Bool) := (stringslite_HasPrefix.f a0 a1).bind fun t491 => (some t491)
set_option maxHeartbeats 8000000 in
theorem strings_HasPrefix.calls (a0 : ByteArray) (a1 : ByteArray) (r : Bool) (w : World) (h : strings_HasPrefix.f a0 a1 = some r) :
  Calls Tryd.prog 96 #[.string a0, .string a1] w fun e w' => e = .returned (.bool r) ∧ Drawn0 w w' := by
 have H : ((stringslite_HasPrefix.f a0 a1).bind fun t491 => (some t491)) = some r := h
 clear h
 replace H := bm H
 obtain ⟨t491, A30, H⟩ := H
 replace H : (some t491) = some r := H
 have A3 := am A30
 clear A30
 obtain rfl := Option.some.inj H
 go_enter Tryd.func96, Tryd.ntmps96
 go_wp2_with (first | (refine gL (some 7) Tryd.func113 #[.string a0, .string a1] ?_; (with_reducible refine (stringslite_HasPrefix.calls a0 a1 t491 _ A3.out).mono ?_); rintro e w' ⟨rfl, ⟨nd, rfl⟩⟩; refine ⟨_, rfl, ?_⟩))
 go_ret
 exact ⟨by first | rfl | (simp; done) | (simp [*]; done), by repeat (first | exact Drawn0.refl _ | apply Drawn0.step)⟩
def strings_trimLeftByte.l0 : Nat → ByteArray → Int → Option (ByteArray)
 | 0, _, _ => none
 | k + 1, x0, x1 => if (x0.size : Int) > 0 then (if 0 < (x0.size : Int) then (if (bt x0 0) = x1 then (if 1 ≤ (x0.size : Int) then (strings_trimLeftByte.l0 k (x0.extract 1 x0.size) x1) else (none)) else (some x0)) else (none)) else (some x0)
def strings_trimLeftByte.f (k : Nat) (a0 : ByteArray) (a1 : Int) : Option (ByteArray) := strings_trimLeftByte.l0 k a0 a1
theorem strings_trimLeftByte.mono_l : ∀ k, (∀ y0 y1, LeO (strings_trimLeftByte.l0 k y0 y1) (strings_trimLeftByte.l0 (k + 1) y0 y1))
 | 0 => fun _ _ r h => by simp [strings_trimLeftByte.l0] at h
 | k + 1 => by
  have ih0 := strings_trimLeftByte.mono_l k
  ·
   intro y0 y1
   unfold strings_trimLeftByte.l0
   repeat' (with_reducible first | apply ih0 | apply LeO.refl | apply LeO.none | apply LeO.ite | refine LeO.bind ?_ (fun _ => ?_))
theorem strings_trimLeftByte.mono : ∀ a0 a1 k, LeO (strings_trimLeftByte.f k a0 a1) (strings_trimLeftByte.f (k + 1) a0 a1) := by
 intro a0 a1 k
 have ih0 := strings_trimLeftByte.mono_l k
 unfold strings_trimLeftByte.f
 repeat' (with_reducible first | apply ih0 | apply LeO.refl | apply LeO.none | apply LeO.ite | refine LeO.bind ?_ (fun _ => ?_))
set_option maxHeartbeats 8000000 in
theorem strings_trimLeftByte.calls (k : Nat) (a0 : ByteArray) (a1 : Int) (r : ByteArray) (w : World) (h : strings_trimLeftByte.f k a0 a1 = some r) :
  Calls Tryd.prog 116 #[.string a0, .int .u8 a1] w fun e w' => e = .returned (.string r) ∧ Drawn0 w w' := by
 have H : (strings_trimLeftByte.l0 k a0 a1) = some r := h
 clear h
 have H' := am H
 clear H
 go_enter Tryd.func116, Tryd.ntmps116
 go_wp2
 go_loopg [0] k (fun kq v0 w' => ∃ (x0_1 : ByteArray), v0 = .string x0_1 ∧ Aside0 (strings_trimLeftByte.l0 kq x0_1 a1 = some r) ∧ Aside0 (kq ≤ k) ∧ Drawn0 w w')
 case atStart => exact ⟨(a0), eqd, H', ⟨Nat.le_refl _⟩, by repeat (first | exact Drawn0.refl _ | apply Drawn0.step)⟩
 case round =>
  clear H'
  obtain ⟨x0_1, rfl, HA, HK1, ⟨m1, rfl⟩⟩ := hrel
  cases gk with
  | zero => exact absurd HA.out (by simp [strings_trimLeftByte.l0])
  | succ k1 =>
   have H := HA.out
   clear HA
   simp only [strings_trimLeftByte.l0] at H
   by_cases c3 : (x0_1.size : Int) > 0
   ·
    rw [if_pos c3] at H
    have c3b0 : decide (0 < (x0_1.size : Int)) = true := dt c3
    have c3b1 : decide (0 < x0_1.size) = true := dt (by omega)
    clear c3
    by_cases c4 : 0 < (x0_1.size : Int)
    ·
     rw [if_pos c4] at H
     have c4b0 := dt c4
     have c4b1 : decide (0 < x0_1.size) = true := dt (by omega)
     clear c4
     by_cases c6 : (bt x0_1 0) = a1
     ·
      rw [if_pos c6] at H
      have c6b0 : ((bt x0_1 0) == a1) = true := beq_iff_eq.mpr c6
      have c6b1 : ((bt x0_1 0) != a1) = false := bne_eq_false_iff_eq.mpr c6
      clear c6
      by_cases c7 : 1 ≤ (x0_1.size : Int)
      ·
       rw [if_pos c7] at H
       have c7b0 := eq_true c7
       have c7b1 := dt c7
       clear c7
       obtain ⟨y550, hy550⟩ : ∃ y_ : ByteArray, y_ = (x0_1.extract 1 x0_1.size) := ⟨_, rfl⟩
       replace H : (strings_trimLeftByte.l0 k1 y550 a1) = some r := by first | (rw [hy550]; exact H) | exact H
       have Ny550 := am hy550
       clear hy550
       have H' := am H
       clear H
       have p5 : 0 ≤ (0 : Int) := (by omega)
       have q5 : 0 < x0_1.size := (by have : (0 : Int) < (x0_1.size : Int) := od; omega)
       have hx5 : ∀ h : 0 < x0_1.size, ((x0_1[0]'h).toNat : Int) = bt x0_1 0 := bt_at x0_1 0
       clear p5
       have qi5 : (0 < (x0_1.size : Int)) = True := eq_true (od)
       replace q5 := eq_true q5
       have hcs8 := Hd.str_from (P := Tryd.prog) (k := .i64) Tryd.underlying9 (i := 1) (s := x0_1) (y := y550) oo oo Ny550.out
       go_wp2
       go_roundg k1
       case measure => have := HK1.out; omega
       case rel => exact ⟨(y550), eqd, H', ⟨by have := HK1.out; omega⟩, by repeat (first | exact Drawn0.refl _ | apply Drawn0.step)⟩
      rw [if_neg c7] at H
      exact absurd H (by simp)
     rw [if_neg c6] at H
     have c6b0 : ((bt x0_1 0) == a1) = false := beq_eq_false_iff_ne.mpr c6
     have c6b1 : ((bt x0_1 0) != a1) = true := bne_iff_ne.mpr c6
     obtain rfl := Option.some.inj H
     have p5 : 0 ≤ (0 : Int) := (by omega)
     have q5 : 0 < x0_1.size := (by have : (0 : Int) < (x0_1.size : Int) := od; omega)
     have hx5 : ∀ h : 0 < x0_1.size, ((x0_1[0]'h).toNat : Int) = bt x0_1 0 := bt_at x0_1 0
     clear p5
     have qi5 : (0 < (x0_1.size : Int)) = True := eq_true (od)
     replace q5 := eq_true q5
     go_wp2
     go_ret
     exact ⟨by first | rfl | (simp; done) | (simp [*]; done), by repeat (first | exact Drawn0.refl _ | apply Drawn0.step)⟩
    rw [if_neg c4] at H
    exact absurd H (by simp)
   rw [if_neg c3] at H
   have c3b0 : decide (0 < (x0_1.size : Int)) = false := decide_eq_false c3
   have c3b1 : decide (0 < x0_1.size) = false := decide_eq_false (by omega)
   clear c3
   obtain rfl := Option.some.inj H
   go_wp2
   go_ret
   exact ⟨by first | rfl | (simp; done) | (simp [*]; done), by repeat (first | exact Drawn0.refl _ | apply Drawn0.step)⟩
mutual
def strings_TrimLeft.j0 : Nat → ByteArray → ByteArray → Bool → Option (ByteArray)
 | 0, _, _, _ => none
 | k + 1, x0, x1, x12 => if x12 = true then (some x0) else (if (x1.size : Int) = 1 then (if 0 < (x1.size : Int) then (strings_TrimLeft.j1 k x0 x1 (decide ((bt x1 0) < 128))) else (none)) else (strings_TrimLeft.j1 k x0 x1 false))
def strings_TrimLeft.j1 : Nat → ByteArray → ByteArray → Bool → Option (ByteArray)
 | 0, _, _, _ => none
 | k + 1, x0, x1, x21 => if x21 = true then (if 0 < (x1.size : Int) then ((strings_trimLeftByte.f k x0 (bt x1 0)).bind fun t551 => (some t551)) else (none)) else (none)
end
def strings_TrimLeft.f (k : Nat) (a0 : ByteArray) (a1 : ByteArray) : Option (ByteArray) := if a0.toList = ([] : List UInt8) then (strings_TrimLeft.j0 k a0 a1 true) else (strings_TrimLeft.j0 k a0 a1 (a1.toList == ([] : List UInt8)))
theorem strings_TrimLeft.mono_l : ∀ k, (∀ y0 y1 y2, LeO (strings_TrimLeft.j0 k y0 y1 y2) (strings_TrimLeft.j0 (k + 1) y0 y1 y2)) ∧ (∀ y0 y1 y2, LeO (strings_TrimLeft.j1 k y0 y1 y2) (strings_TrimLeft.j1 (k + 1) y0 y1 y2))
 | 0 => ⟨fun _ _ _ r h => by simp [strings_TrimLeft.j0] at h, fun _ _ _ r h => by simp [strings_TrimLeft.j1] at h⟩
 | k + 1 => by
  obtain ⟨ih0, ih1⟩ := strings_TrimLeft.mono_l k
  refine ⟨?_, ?_⟩ <;> intros <;> (first | unfold strings_TrimLeft.j0 | unfold strings_TrimLeft.j1) <;> repeat' (with_reducible first | apply ih0 | apply ih1 | apply strings_trimLeftByte.mono | apply LeO.refl | apply LeO.none | apply LeO.ite | refine LeO.bind ?_ (fun _ => ?_))
theorem strings_TrimLeft.mono : ∀ a0 a1 k, LeO (strings_TrimLeft.f k a0 a1) (strings_TrimLeft.f (k + 1) a0 a1) := by
 intro a0 a1 k
 obtain ⟨ih0, ih1⟩ := strings_TrimLeft.mono_l k
 unfold strings_TrimLeft.f
 repeat' (with_reducible first | apply ih0 | apply ih1 | apply strings_trimLeftByte.mono | apply LeO.refl | apply LeO.none | apply LeO.ite | refine LeO.bind ?_ (fun _ => ?_))
set_option maxHeartbeats 8000000 in
theorem strings_TrimLeft.calls (k : Nat) (a0 : ByteArray) (a1 : ByteArray) (r : ByteArray) (w : World) (h : strings_TrimLeft.f k a0 a1 = some r) :
  Calls Tryd.prog 101 #[.string a0, .string a1] w fun e w' => e = .returned (.string r) ∧ Below w.heap.size w w' := by
 have HB := am (Below.refl w.heap.size w)
 have H : (if a0.toList = ([] : List UInt8) then (strings_TrimLeft.j0 k a0 a1 true) else (strings_TrimLeft.j0 k a0 a1 (a1.toList == ([] : List UInt8)))) = some r := h
 clear h
 have HC3 := am H
 clear H
 go_enter Tryd.func101, Tryd.ntmps101
 go_upto_region 1 with (fail)
 go_cut [12] (fun v12 wc => ∃ (kq : Nat) (x12_2 : Bool), v12 = .bool x12_2 ∧ Aside0 (strings_TrimLeft.j0 kq a0 a1 x12_2 = some r) ∧ Aside0 (kq ≤ k) ∧ Aside0 (Below w.heap.size w wc))
 case first =>
  have H := HC3.out
  clear HC3
  by_cases c4 : a0.toList = ([] : List UInt8)
  ·
   rw [if_pos c4] at H
   have c4b0 : (a0.toList == ([] : List UInt8)) = true := beq_iff_eq.mpr c4
   have c4b1 : (a0.toList != ([] : List UInt8)) = false := bne_eq_false_iff_eq.mpr c4
   clear c4
   (first | rw [c4b0] | (simp only [i64_w, i32_w]; rw [c4b0]) | skip)
   have H' := am H
   clear H
   go_wp2
   go_meet
   case rel => exact ⟨_, (true), eqd, H', ol, ⟨lk HB⟩⟩
  rw [if_neg c4] at H
  have c4b0 : (a0.toList == ([] : List UInt8)) = false := beq_eq_false_iff_ne.mpr c4
  have c4b1 : (a0.toList != ([] : List UInt8)) = true := bne_iff_ne.mpr c4
  (first | rw [c4b0] | (simp only [i64_w, i32_w]; rw [c4b0]) | skip)
  have H' := am H
  clear H
  go_wp2
  go_meet
  case rel => exact ⟨_, ((a1.toList == ([] : List UInt8))), eqd, H', ol, ⟨lk HB⟩⟩
 case rest =>
  clear HC3
  obtain ⟨kq, x12_2, rfl, HA, HJ2, HB⟩ := hcut
  cases kq with
  | zero => exact absurd HA.out (by simp [strings_TrimLeft.j0])
  | succ kj2 =>
   have H := HA.out
   clear HA
   simp only [strings_TrimLeft.j0] at H
   by_cases c5 : x12_2 = true
   ·
    subst c5
    rw [if_pos rfl] at H
    obtain rfl := Option.some.inj H
    go_wp2
    go_ret
    exact ex (lk HB)
   replace c5 := Bool.eq_false_iff.mpr c5
   subst c5
   rw [if_neg (show ¬ (false = true) by decide)] at H
   have HC6 := am H
   clear H
   go_upto_region 3 with (fail)
   go_cut [21] (fun v21 wc => ∃ (kq : Nat) (x21_5 : Bool), v21 = .bool x21_5 ∧ Aside0 (strings_TrimLeft.j1 kq a0 a1 x21_5 = some r) ∧ Aside0 (kq ≤ kj2) ∧ Aside0 (Below w.heap.size w wc))
   case first =>
    have H := HC6.out
    clear HC6
    by_cases c7 : (a1.size : Int) = 1
    ·
     rw [if_pos c7] at H
     have c7b0 : ((a1.size : Int) == 1) = true := beq_iff_eq.mpr c7
     have c7b1 : ((a1.size : Int) != 1) = false := bne_eq_false_iff_eq.mpr c7
     clear c7
     (first | rw [c7b0] | (simp only [i64_w, i32_w]; rw [c7b0]) | skip)
     by_cases c8 : 0 < (a1.size : Int)
     ·
      rw [if_pos c8] at H
      have c8b0 := dt c8
      have c8b1 : decide (0 < a1.size) = true := dt (by omega)
      clear c8
      have H' := am H
      clear H
      have p9 : 0 ≤ (0 : Int) := (by omega)
      have q9 : 0 < a1.size := (by have : (0 : Int) < (a1.size : Int) := od; omega)
      have hx9 : ∀ h : 0 < a1.size, ((a1[0]'h).toNat : Int) = bt a1 0 := bt_at a1 0
      clear p9
      have qi9 : (0 < (a1.size : Int)) = True := eq_true (od)
      replace q9 := eq_true q9
      go_wp2
      go_meet
      case rel => exact ⟨_, (decide ((bt a1 0) < 128)), eqd, H', ⟨by have := HJ2.out; first | omega | exact Nat.le_refl _⟩, ⟨lk HB⟩⟩
     rw [if_neg c8] at H
     exact absurd H (by simp)
    rw [if_neg c7] at H
    have c7b0 : ((a1.size : Int) == 1) = false := beq_eq_false_iff_ne.mpr c7
    have c7b1 : ((a1.size : Int) != 1) = true := bne_iff_ne.mpr c7
    (first | rw [c7b0] | (simp only [i64_w, i32_w]; rw [c7b0]) | skip)
    have H' := am H
    clear H
    go_wp2
    go_meet
    case rel => exact ⟨_, (false), eqd, H', ⟨by have := HJ2.out; first | omega | exact Nat.le_refl _⟩, ⟨lk HB⟩⟩
   case rest =>
    clear HC6
    obtain ⟨kq, x21_5, rfl, HA, HJ5, HB⟩ := hcut
    cases kq with
    | zero => exact absurd HA.out (by simp [strings_TrimLeft.j1])
    | succ kj5 =>
     have H := HA.out
     clear HA
     simp only [strings_TrimLeft.j1] at H
     by_cases c10 : x21_5 = true
     ·
      subst c10
      rw [if_pos rfl] at H
      by_cases c11 : 0 < (a1.size : Int)
      ·
       rw [if_pos c11] at H
       have c11b0 := dt c11
       have c11b1 : decide (0 < a1.size) = true := dt (by omega)
       clear c11
       replace H := bm H
       obtain ⟨t551, A130, H⟩ := H
       replace H : (some t551) = some r := H
       have A13 := am A130
       clear A130
       obtain rfl := Option.some.inj H
       have p12 : 0 ≤ (0 : Int) := (by omega)
       have q12 : 0 < a1.size := (by have : (0 : Int) < (a1.size : Int) := od; omega)
       have hx12 : ∀ h : 0 < a1.size, ((a1[0]'h).toNat : Int) = bt a1 0 := bt_at a1 0
       clear p12
       have qi12 : (0 < (a1.size : Int)) = True := eq_true (od)
       replace q12 := eq_true q12
       go_wp2_with (first | (refine gL (some 25) Tryd.func116 #[.string a0, .int .u8 (bt a1 0)] ?_; (with_reducible refine (strings_trimLeftByte.calls kj5 a0 (bt a1 0) t551 _ A13.out).mono ?_); rintro e w' ⟨rfl, ⟨nd, rfl⟩⟩; refine ⟨_, rfl, ?_⟩))
       go_ret
       exact ex (lk HB)
      rw [if_neg c11] at H
      exact absurd H (by simp)
     replace c10 := Bool.eq_false_iff.mpr c10
     subst c10
     rw [if_neg (show ¬ (false = true) by decide)] at H
     exact absurd H (by simp)
mutual
def num_read.j0 : Nat → ByteArray → ByteArray → Int → Option (ByteArray × Int × Bool)
 | 0, _, _, _ => none
 | k + 1, x0, x556q0, x556q1 => if x556q0.toList = ([] : List UInt8) then (some (x556q0, x556q1, false)) else ((strings_TrimLeft.f k x556q0 (⟨#[48]⟩ : ByteArray)).bind fun t563 => (if x0.toList = ([] : List UInt8) then (some (t563, x556q1, true)) else (if 0 < (x0.size : Int) then (if (bt x0 0) = 101 then (num_read.j1 k x0 false t563 x556q1) else (num_read.j1 k x0 ((bt x0 0) != 69) t563 x556q1)) else (none))))
def num_read.j1 : Nat → ByteArray → Bool → ByteArray → Int → Option (ByteArray × Int × Bool)
 | 0, _, _, _, _ => none
 | k + 1, x0, x56, x556q0, x556q1 => if x56 = true then (some (x556q0, x556q1, false)) else (if 1 ≤ (x0.size : Int) then ((some (x0.extract 1 x0.size : ByteArray)).bind fun y564 => (if y564.toList = ([] : List UInt8) then (num_read.j2 k y564 1 false x556q0 x556q1) else (if 0 < (y564.size : Int) then (if (bt y564 0) = 43 then (num_read.j2 k y564 1 true x556q0 x556q1) else (num_read.j2 k y564 1 ((bt y564 0) == 45) x556q0 x556q1)) else (none)))) else (none))
def num_read.j2 : Nat → ByteArray → Int → Bool → ByteArray → Int → Option (ByteArray × Int × Bool)
 | 0, _, _, _, _, _ => none
 | k + 1, x0, x6, x71, x556q0, x556q1 => if x71 = true then (if 0 < (x0.size : Int) then (if (bt x0 0) = 45 then (if 1 ≤ (x0.size : Int) then (num_read.j3 k (x0.extract 1 x0.size) (-1) x556q0 x556q1) else (none)) else (if 1 ≤ (x0.size : Int) then (num_read.j3 k (x0.extract 1 x0.size) x6 x556q0 x556q1) else (none))) else (none)) else (num_read.j3 k x0 x6 x556q0 x556q1)
def num_read.j3 : Nat → ByteArray → Int → ByteArray → Int → Option (ByteArray × Int × Bool)
 | 0, _, _, _, _ => none
 | k + 1, x0, x6, x556q0, x556q1 => if x0.toList = ([] : List UInt8) then (num_read.j4 k x0 x6 true x556q0 x556q1) else ((num_run.f k x0).bind fun t567 => (num_read.j4 k x0 x6 (t567 != (x0.size : Int)) x556q0 x556q1))
def num_read.j4 : Nat → ByteArray → Int → Bool → ByteArray → Int → Option (ByteArray × Int × Bool)
 | 0, _, _, _, _, _ => none
 | k + 1, x0, x6, x85, x556q0, x556q1 => if x85 = true then (some (x556q0, x556q1, false)) else (num_read.l0 k x0 x6 0 (x0.size : Int) 0 x556q0 x556q1)
def num_read.l0 : Nat → ByteArray → Int → Int → Int → Int → ByteArray → Int → Option (ByteArray × Int × Bool)
 | 0, _, _, _, _, _, _, _ => none
 | k + 1, x0, x6, x7, x88, x89, x556q0, x556q1 => if x89 < x88 then (if 0 ≤ x89 then (if x89 < (x0.size : Int) then (num_read.l0 k x0 x6 (mn (wrap64 ((wrap64 (10 * x7)) + (((bt x0 x89) - 48) % 256))) 100000) x88 (wrap64 (x89 + 1)) x556q0 x556q1) else (none)) else (none)) else (some (x556q0, wrap64 (x556q1 + (wrap64 (x6 * x7))), true))
end
def num_read.f (k : Nat) (a0 : ByteArray) : Option (ByteArray × Int × Bool) := (num_run.f k a0).bind fun t553 => (if 0 ≤ t553 then (if t553 ≤ (a0.size : Int) then ((some (a0.extract 0 (t553 : Int).toNat : ByteArray)).bind fun y554 => ((some (a0.extract (t553 : Int).toNat a0.size : ByteArray)).bind fun y556 => ((strings_HasPrefix.f y556 (⟨#[46]⟩ : ByteArray)).bind fun t557 => (if t557 = true then (if 1 ≤ (y556.size : Int) then ((num_run.f k (y556.extract 1 y556.size)).bind fun t559 => (if 1 ≤ (wrap64 (1 + t559)) then (if (wrap64 (1 + t559)) ≤ (y556.size : Int) then ((some (y556.extract 1 ((wrap64 (1 + t559)) : Int).toNat : ByteArray)).bind fun y560 => (if y554.size + y560.size ≤ 9223372036854775807 then (if 0 ≤ (wrap64 (1 + t559)) then (num_read.j0 k (y556.extract ((wrap64 (1 + t559)) : Int).toNat y556.size) (y554 ++ y560) (wrap64 (-t559))) else (none)) else (none))) else (none)) else (none))) else (none)) else (num_read.j0 k y556 y554 0))))) else (none)) else (none))
theorem num_read.mono_l : ∀ k, (∀ y0 y1 y2, LeO (num_read.j0 k y0 y1 y2) (num_read.j0 (k + 1) y0 y1 y2)) ∧ (∀ y0 y1 y2 y3, LeO (num_read.j1 k y0 y1 y2 y3) (num_read.j1 (k + 1) y0 y1 y2 y3)) ∧ (∀ y0 y1 y2 y3 y4, LeO (num_read.j2 k y0 y1 y2 y3 y4) (num_read.j2 (k + 1) y0 y1 y2 y3 y4)) ∧ (∀ y0 y1 y2 y3, LeO (num_read.j3 k y0 y1 y2 y3) (num_read.j3 (k + 1) y0 y1 y2 y3)) ∧ (∀ y0 y1 y2 y3 y4, LeO (num_read.j4 k y0 y1 y2 y3 y4) (num_read.j4 (k + 1) y0 y1 y2 y3 y4)) ∧ (∀ y0 y1 y2 y3 y4 y5 y6, LeO (num_read.l0 k y0 y1 y2 y3 y4 y5 y6) (num_read.l0 (k + 1) y0 y1 y2 y3 y4 y5 y6))
 | 0 => ⟨fun _ _ _ r h => by simp [num_read.j0] at h, fun _ _ _ _ r h => by simp [num_read.j1] at h, fun _ _ _ _ _ r h => by simp [num_read.j2] at h, fun _ _ _ _ r h => by simp [num_read.j3] at h, fun _ _ _ _ _ r h => by simp [num_read.j4] at h, fun _ _ _ _ _ _ _ r h => by simp [num_read.l0] at h⟩
 | k + 1 => by
  obtain ⟨ih0, ih1, ih2, ih3, ih4, ih5⟩ := num_read.mono_l k
  refine ⟨?_, ?_, ?_, ?_, ?_, ?_⟩ <;> intros <;> (first | unfold num_read.j0 | unfold num_read.j1 | unfold num_read.j2 | unfold num_read.j3 | unfold num_read.j4 | unfold num_read.l0) <;> repeat' (with_reducible first | apply ih0 | apply ih1 | apply ih2 | apply ih3 | apply ih4 | apply ih5 | apply num_run.mono | apply strings_TrimLeft.mono | apply LeO.refl | apply LeO.none | apply LeO.ite | refine LeO.bind ?_ (fun _ => ?_))
theorem num_read.mono : ∀ a0 k, LeO (num_read.f k a0) (num_read.f (k + 1) a0) := by
 intro a0 k
 obtain ⟨ih0, ih1, ih2, ih3, ih4, ih5⟩ := num_read.mono_l k
 unfold num_read.f
 repeat' (with_reducible first | apply ih0 | apply ih1 | apply ih2 | apply ih3 | apply ih4 | apply ih5 | apply num_run.mono | apply strings_TrimLeft.mono | apply LeO.refl | apply LeO.none | apply LeO.ite | refine LeO.bind ?_ (fun _ => ?_))
def num_read.T6 : Bool × List (List Nat × List Nat) := (true, [([], []), ([0], [0]), ([], []), ([], []), ([3], [3]), ([2, 4], [2, 4]), ([1, 5], [1, 5]), ([0, 1, 2, 3, 4, 5, 6], []), ([7, 6, 0, 1, 2, 3, 4, 5, 6], [6, 7])])
def num_read.B6 : List Nat := [0, 1, 0, 0, 8, 28, 63, 127, 255]
theorem num_read.tab6 : rtab .any (opsOf Tryd.f66 6) = num_read.T6 := by kernel_rfl
theorem num_read.bits6 : waitsOk num_read.T6.2 num_read.B6 = true := by kernel_rfl
set_option maxHeartbeats 8000000 in
theorem num_read.calls (k : Nat) (a0 : ByteArray) (r1 : ByteArray) (r2 : Int) (r3 : Bool) (w : World) (h : num_read.f k a0 = some (r1, r2, r3)) :
  Calls Tryd.prog 66 #[.string a0] w fun e w' => e = .returned (.tuple #[.agg #[.string r1, .int .i64 r2], .bool r3]) ∧ Below w.heap.size w w' := by
 have hu79 := Tryd.underlying79
 have HB := am (Below.refl w.heap.size w)
 have H : ((num_run.f k a0).bind fun t553 => (if 0 ≤ t553 then (if t553 ≤ (a0.size : Int) then ((some (a0.extract 0 (t553 : Int).toNat : ByteArray)).bind fun y554 => ((some (a0.extract (t553 : Int).toNat a0.size : ByteArray)).bind fun y556 => ((strings_HasPrefix.f y556 (⟨#[46]⟩ : ByteArray)).bind fun t557 => (if t557 = true then (if 1 ≤ (y556.size : Int) then ((num_run.f k (y556.extract 1 y556.size)).bind fun t559 => (if 1 ≤ (wrap64 (1 + t559)) then (if (wrap64 (1 + t559)) ≤ (y556.size : Int) then ((some (y556.extract 1 ((wrap64 (1 + t559)) : Int).toNat : ByteArray)).bind fun y560 => (if y554.size + y560.size ≤ 9223372036854775807 then (if 0 ≤ (wrap64 (1 + t559)) then (num_read.j0 k (y556.extract ((wrap64 (1 + t559)) : Int).toNat y556.size) (y554 ++ y560) (wrap64 (-t559))) else (none)) else (none))) else (none)) else (none))) else (none)) else (num_read.j0 k y556 y554 0))))) else (none)) else (none))) = some (r1, r2, r3) := h
 clear h
 replace H := bm H
 obtain ⟨t553, A20, H⟩ := H
 replace H : (if 0 ≤ t553 then (if t553 ≤ (a0.size : Int) then ((some (a0.extract 0 (t553 : Int).toNat : ByteArray)).bind fun y554 => ((some (a0.extract (t553 : Int).toNat a0.size : ByteArray)).bind fun y556 => ((strings_HasPrefix.f y556 (⟨#[46]⟩ : ByteArray)).bind fun t557 => (if t557 = true then (if 1 ≤ (y556.size : Int) then ((num_run.f k (y556.extract 1 y556.size)).bind fun t559 => (if 1 ≤ (wrap64 (1 + t559)) then (if (wrap64 (1 + t559)) ≤ (y556.size : Int) then ((some (y556.extract 1 ((wrap64 (1 + t559)) : Int).toNat : ByteArray)).bind fun y560 => (if y554.size + y560.size ≤ 9223372036854775807 then (if 0 ≤ (wrap64 (1 + t559)) then (num_read.j0 k (y556.extract ((wrap64 (1 + t559)) : Int).toNat y556.size) (y554 ++ y560) (wrap64 (-t559))) else (none)) else (none))) else (none)) else (none))) else (none)) else (num_read.j0 k y556 y554 0))))) else (none)) else (none)) = some (r1, r2, r3) := H
 have A2 := am A20
 clear A20
 by_cases c3 : 0 ≤ t553
 ·
  rw [if_pos c3] at H
  have c3b0 := eq_true c3
  have c3b1 := dt c3
  clear c3
  by_cases c4 : t553 ≤ (a0.size : Int)
  ·
   rw [if_pos c4] at H
   have c4b0 := eq_true c4
   have c4b1 := dt c4
   clear c4
   obtain ⟨y554, Ny554, H⟩ := yb H
   have c5b0 := eq_true (od : 0 ≤ t553)
   have c6b0 := eq_true (od : t553 ≤ (a0.size : Int))
   obtain ⟨y556, Ny556, H⟩ := yb H
   replace H := bm H
   obtain ⟨t557, A70, H⟩ := H
   replace H : (if t557 = true then (if 1 ≤ (y556.size : Int) then ((num_run.f k (y556.extract 1 y556.size)).bind fun t559 => (if 1 ≤ (wrap64 (1 + t559)) then (if (wrap64 (1 + t559)) ≤ (y556.size : Int) then ((some (y556.extract 1 ((wrap64 (1 + t559)) : Int).toNat : ByteArray)).bind fun y560 => (if y554.size + y560.size ≤ 9223372036854775807 then (if 0 ≤ (wrap64 (1 + t559)) then (num_read.j0 k (y556.extract ((wrap64 (1 + t559)) : Int).toNat y556.size) (y554 ++ y560) (wrap64 (-t559))) else (none)) else (none))) else (none)) else (none))) else (none)) else (num_read.j0 k y556 y554 0)) = some (r1, r2, r3) := H
   have A7 := am A70
   clear A70
   have HC8 := am H
   clear H
   go_enter Tryd.func66, Tryd.ntmps66
   go_upto_if 19 with (first | ((with_reducible refine gate_dst (N := 2) rfl ?_); (try (refine gate_guard (by rfl) ?_; dsimp only)); refine box_event ?hg (N := 2) ?hd (cs := #[.string (⟨#[]⟩ : ByteArray), .int .i64 0]) (t := 79) ?hr ?_; (case hd => rfl); (case hg => rfl); (case hr => first | (go_simp; done) | (go_simp; rfl)); intro gb552 hg w9 hbox hb; have BK552 := am (hbox); have GW552 := am ((by rw [hg]; exact (below_size (lk HB)) : w.heap.size ≤ gb552)); have GE552 := GW552; replace HB := lb HB hb; clear hb hbox hg) | (refine gL (some 10) Tryd.func76 #[.string a0] ?_; (with_reducible refine (num_run.calls k a0 t553 _ A2.out).mono ?_); rintro e w' ⟨rfl, ⟨nd, rfl⟩⟩; refine ⟨_, rfl, ?_⟩; (try (rw [drewN_self w9]; generalize hq_ : World.drewN w9 _ = w9; have n0_ : Aside0 (w9.heap[gb552]? = some (.cells #[.string (⟨#[]⟩ : ByteArray), .int .i64 0] 79 (0, 0))) := ⟨by rw [← hq_]; exact (bk BK552)⟩; have n1_ : Aside0 (Below w.heap.size w w9) := ⟨by rw [← hq_]; exact (lk HB)⟩; clear BK552 HB hq_; have BK552 := n0_; have HB := n1_; clear n0_ n1_)); have hcs10 := Hd.str_to (P := Tryd.prog) (k := .i64) Tryd.underlying9 (j := t553) (s := a0) (y := y554) oo oo Ny554.out) | ((with_reducible refine gate_dst (N := 5) rfl ?_); (try (refine gate_guard (by rfl) ?_; dsimp only)); refine box_event ?hg (N := 5) ?hd (cs := #[.string (⟨#[]⟩ : ByteArray), .int .i64 0]) (t := 79) ?hr ?_; (case hd => rfl); (case hg => rfl); (case hr => first | (go_simp; done) | (go_simp; rfl)); intro gb555 hg w11 hbox hb; have BK555 := am (hbox); have GW555 := am ((by rw [hg]; exact (below_size (lk HB)) : w.heap.size ≤ gb555)); have GE555 := GW555; replace HB := lb HB hb; have NB552_555 := am ((by rw [hg]; exact Nat.ne_of_lt (blk_lt (bk BK552)) : gb552 ≠ gb555)); have NB555_552 := am ((by rw [hg]; exact Nat.ne_of_gt (blk_lt (bk BK552)) : gb555 ≠ gb552)); replace BK552 := bb BK552 hb; clear hb hbox hg; have hnb12 := NB555_552.out; have hnc12 := NB552_555.out; have hcz13_0 : w11.cell? ⟨gb555, 0, none⟩ = some (.string (⟨#[]⟩ : ByteArray)) := (blk_cell BK555.out 0).trans rfl; have hcz13_1 : w11.cell? ⟨gb555, 1, none⟩ = some (.int .i64 0) := (blk_cell BK555.out 1).trans rfl; have hfz13_0 := blk_frozen BK555.out 0; have hfz13_1 := blk_frozen BK555.out 1; have hcs14 := Hd.str_from (P := Tryd.prog) (k := .i64) Tryd.underlying9 (i := t553) (s := a0) (y := y556) oo oo Ny556.out) | (refine gL (some 19) Tryd.func96 #[.string y556, .string (⟨#[46]⟩ : ByteArray)] ?_; (with_reducible refine (strings_HasPrefix.calls y556 (⟨#[46]⟩ : ByteArray) t557 _ A7.out).mono ?_); rintro e w' ⟨rfl, ⟨nd, rfl⟩⟩; refine ⟨_, rfl, ?_⟩))
   (try simp only [Act.put, List.setIfInBounds_toArray, List.set_cons_zero, List.set_cons_succ])
   go_cut [0] (fun v0 wc => ∃ (kq : Nat) (x0_7 : ByteArray) (x556q0_7 : ByteArray) (x556q1_7 : Int), v0 = .string x0_7 ∧ Aside0 (num_read.j0 kq x0_7 x556q0_7 x556q1_7 = some (r1, r2, r3)) ∧ Aside0 (kq ≤ k) ∧ Aside0 (wc.heap[gb552]? = some (.cells #[.string (⟨#[]⟩ : ByteArray), .int .i64 0] 79 (0, 0))) ∧ Aside0 (wc.heap[gb555]? = some (.cells #[.string x556q0_7, .int .i64 x556q1_7] 79 (0, 0))) ∧ Aside0 (Below w.heap.size w wc))
   case first =>
    have H := HC8.out
    clear HC8
    by_cases c15 : t557 = true
    ·
     subst c15
     have H1 : (if 1 ≤ (y556.size : Int) then ((num_run.f k (y556.extract 1 y556.size)).bind fun t559 => (if 1 ≤ (wrap64 (1 + t559)) then (if (wrap64 (1 + t559)) ≤ (y556.size : Int) then ((some (y556.extract 1 ((wrap64 (1 + t559)) : Int).toNat : ByteArray)).bind fun y560 => (if y554.size + y560.size ≤ 9223372036854775807 then (if 0 ≤ (wrap64 (1 + t559)) then (num_read.j0 k (y556.extract ((wrap64 (1 + t559)) : Int).toNat y556.size) (y554 ++ y560) (wrap64 (-t559))) else (none)) else (none))) else (none)) else (none))) else (none)) = some (r1, r2, r3) := by rw [if_pos rfl] at H; exact H
     clear H
     have H := H1
     clear H1
     by_cases c16 : 1 ≤ (y556.size : Int)
     ·
      rw [if_pos c16] at H
      have c16b0 := eq_true c16
      have c16b1 := dt c16
      clear c16
      obtain ⟨y558, hy558⟩ : ∃ y_ : ByteArray, y_ = (y556.extract 1 y556.size) := ⟨_, rfl⟩
      replace H : ((num_run.f k y558).bind fun t559 => (if 1 ≤ (wrap64 (1 + t559)) then (if (wrap64 (1 + t559)) ≤ (y556.size : Int) then ((some (y556.extract 1 ((wrap64 (1 + t559)) : Int).toNat : ByteArray)).bind fun y560 => (if y554.size + y560.size ≤ 9223372036854775807 then (if 0 ≤ (wrap64 (1 + t559)) then (num_read.j0 k (y556.extract ((wrap64 (1 + t559)) : Int).toNat y556.size) (y554 ++ y560) (wrap64 (-t559))) else (none)) else (none))) else (none)) else (none))) = some (r1, r2, r3) := by first | (rw [hy558]; exact H) | exact H
      have Ny558 := am hy558
      clear hy558
      replace H := bm H
      obtain ⟨t559, A170, H⟩ := H
      replace H : (if 1 ≤ (wrap64 (1 + t559)) then (if (wrap64 (1 + t559)) ≤ (y556.size : Int) then ((some (y556.extract 1 ((wrap64 (1 + t559)) : Int).toNat : ByteArray)).bind fun y560 => (if y554.size + y560.size ≤ 9223372036854775807 then (if 0 ≤ (wrap64 (1 + t559)) then (num_read.j0 k (y556.extract ((wrap64 (1 + t559)) : Int).toNat y556.size) (y554 ++ y560) (wrap64 (-t559))) else (none)) else (none))) else (none)) else (none)) = some (r1, r2, r3) := H
      have A17 := am A170
      clear A170
      by_cases c18 : 1 ≤ (wrap64 (1 + t559))
      ·
       rw [if_pos c18] at H
       have c18b0 := eq_true c18
       have c18b1 := dt c18
       by_cases c19 : (wrap64 (1 + t559)) ≤ (y556.size : Int)
       ·
        rw [if_pos c19] at H
        have c19b0 := eq_true c19
        have c19b1 := dt c19
        obtain ⟨y560, Ny560, H⟩ := yb H
        by_cases c20 : y554.size + y560.size ≤ 9223372036854775807
        ·
         rw [if_pos c20] at H
         have c20b0 := eq_true c20
         have c20b1 := dt c20
         obtain ⟨y561, hy561⟩ : ∃ y_ : ByteArray, y_ = (y554 ++ y560) := ⟨_, rfl⟩
         replace H : (if 0 ≤ (wrap64 (1 + t559)) then (num_read.j0 k (y556.extract ((wrap64 (1 + t559)) : Int).toNat y556.size) y561 (wrap64 (-t559))) else (none)) = some (r1, r2, r3) := by first | (rw [hy561]; exact H) | exact H
         have Ny561 := am hy561
         clear hy561
         obtain ⟨ji21, hji21⟩ : ∃ j_ : Int, (wrap64 (1 + t559)) = j_ := ⟨_, rfl⟩
         replace H : (if 0 ≤ (ji21) then (num_read.j0 k (y556.extract ((ji21) : Int).toNat y556.size) y561 (wrap64 (-t559))) else (none)) = some (r1, r2, r3) := by first | (rw [hji21] at H; exact H) | (simp only [hji21] at H ⊢; exact H)
         (try rw [hji21] at c18b0)
         (try rw [hji21] at c18b1)
         (try rw [hji21] at c18)
         (try rw [hji21] at c19b0)
         (try rw [hji21] at c19b1)
         (try rw [hji21] at c19)
         (try rw [hji21] at A17)
         (try rw [hji21] at Ny560)
         have hji21w : (IntKind.i64.wrap (1 + t559)) = ji21 := (i64_w _).trans hji21
         by_cases c22 : 0 ≤ (ji21)
         ·
          rw [if_pos c22] at H
          have c22b0 := eq_true c22
          have c22b1 := dt c22
          clear c22
          have c23b0 := eq_true (od : (ji21) ≤ (y556.size : Int))
          obtain ⟨y562, hy562⟩ : ∃ y_ : ByteArray, y_ = (y556.extract ((ji21) : Int).toNat y556.size) := ⟨_, rfl⟩
          replace H : (num_read.j0 k y562 y561 (wrap64 (-t559))) = some (r1, r2, r3) := by first | (rw [hy562]; exact H) | exact H
          have Ny562 := am hy562
          clear hy562
          have H' := am H
          clear H
          have hcs24 := Hd.str_from (P := Tryd.prog) (k := .i64) Tryd.underlying9 (i := 1) (s := y556) (y := y558) oo oo Ny558.out
          try go_wp2_with (first | (refine gL (some 22) Tryd.func76 #[.string y558] ?_; (with_reducible refine (num_run.calls k y558 t559 _ A17.out).mono ?_); rintro e w' ⟨rfl, ⟨nd, rfl⟩⟩; refine ⟨_, rfl, ?_⟩))
          (first | refine Hd.letter_ (fun w25 hw => ?_) | refine Hd.letterL_ (fun w25 hw => ?_) | refine Hd.letterE_ (fun w25 hw => ?_))
          have n0_ : Aside0 (w25.heap[gb552]? = some (.cells #[.string (⟨#[]⟩ : ByteArray), .int .i64 0] 79 (0, 0))) := ⟨by rw [hw]; exact (by refine bf NB552_555 ?_; refine bf NB552_555 ?_; exact bk BK552)⟩
          have n1_ : Aside0 (w25.heap[gb555]? = some (.cells #[.string y554, .int .i64 0] 79 (0, 0))) := ⟨by rw [hw]; exact (by (with_reducible repeat (first | refine blk_drewN ?_ _ | refine blk_drew ?_ | refine blk_alloc ?_ _)); refine blk_put (cs := #[.string y554, .int .i64 0]) ?_ 1 _ rfl; (with_reducible repeat (first | refine blk_drewN ?_ _ | refine blk_drew ?_ | refine blk_alloc ?_ _)); refine blk_put (cs := #[.string (⟨#[]⟩ : ByteArray), .int .i64 0]) ?_ 0 _ rfl; exact bk BK555)⟩
          have n2_ : Aside0 (Below w.heap.size w w25) := ⟨by rw [hw]; exact (lk HB)⟩
          clear hw
          (try clear BK552)
          (try clear BK555)
          (try clear HB)
          have BK552 := n0_
          have BK555 := n1_
          have HB := n2_
          clear n0_ n1_ n2_
          (try (rw [drewN_self w25]; generalize hq_ : World.drewN w25 _ = w25; have n0_ : Aside0 (w25.heap[gb552]? = some (.cells #[.string (⟨#[]⟩ : ByteArray), .int .i64 0] 79 (0, 0))) := ⟨by rw [← hq_]; exact (bk BK552)⟩; have n1_ : Aside0 (w25.heap[gb555]? = some (.cells #[.string y554, .int .i64 0] 79 (0, 0))) := ⟨by rw [← hq_]; exact (bk BK555)⟩; have n2_ : Aside0 (Below w.heap.size w w25) := ⟨by rw [← hq_]; exact (lk HB)⟩; clear BK552 BK555 HB hq_; have BK552 := n0_; have BK555 := n1_; have HB := n2_; clear n0_ n1_ n2_))
          have n0_ := am (blk_drew BK552.out)
          have n1_ := am (blk_drew BK555.out)
          have n2_ := am (below_drew1 HB.out)
          clear BK552
          clear BK555
          clear HB
          have BK552 := n0_
          have BK555 := n1_
          have HB := n2_
          clear n0_ n1_ n2_
          have hcs27 := Hd.str_cut (P := Tryd.prog) (k := .i64) (k' := .i64) Tryd.underlying9 (i := 1) (j := (ji21)) (s := y556) (y := y560) oo oo oo Ny560.out
          obtain ⟨hcs28, hcs28'⟩ := sc Ny561
          refine start_ (n := 9) (S := fun w' => w'.cell? ⟨gb555, 0, none⟩ = some (.string y554) ∧ w'.cell? ⟨gb555, 1, none⟩ = some (.int .i64 0)) (ds := [8]) #[false, false, false, false, false, false, false, false, false] (by kernel_rfl) rfl rfl ⟨(blk_cell BK555.out 0).trans rfl, (blk_cell BK555.out 1).trans rfl⟩ (fun hHeld => ?_); refine with_tabW num_read.tab6 num_read.bits6 (fun HT_ HW_ => ?_)
          generalize w25.drew = w26 at BK552 BK555 HB hHeld ⊢
          refine pure_ (i := 0) (N := some 23) (v := ?_) (a' := ?_) #[true, false, false, false, false, false, false, false, false] rfl rfl (any_of HT_.out (by kernel_rfl)) (fun _ _ _ h => h) (Or.inl ⟨by rfl, ?_⟩) ?_ ?_
          rotate_left
          ·
           intro w'
           go_simp
           with_reducible rfl
          rotate_left
          ·
           exact pz
          refine pure_ (i := 2) (N := some 25) (v := ?_) (a' := ?_) #[true, false, true, false, false, false, false, false, false] rfl rfl (any_of HT_.out (by kernel_rfl)) (fun _ _ _ h => h) (Or.inl ⟨by rfl, ?_⟩) ?_ ?_
          rotate_left
          ·
           intro w'
           go_simp
           with_reducible rfl
          rotate_left
          ·
           exact pz
          refine pure_ (i := 3) (N := some 26) (v := ?_) (a' := ?_) #[true, false, true, true, false, false, false, false, false] rfl rfl (any_of HT_.out (by kernel_rfl)) (fun _ _ _ h => h) (Or.inl ⟨by rfl, ?_⟩) ?_ ?_
          rotate_left
          ·
           intro w'
           go_simp
           with_reducible rfl
          rotate_left
          ·
           exact pz
          refine pure_ (i := 4) (N := some 27) (v := ?_) (a' := ?_) #[true, false, true, true, true, false, false, false, false] rfl rfl (any_of HT_.out (by kernel_rfl)) (fun _ _ _ h => h) (Or.inl ⟨by rfl, ?_⟩) ?_ ?_
          rotate_left
          ·
           intro w'
           go_simp
           with_reducible rfl
          rotate_left
          ·
           exact pz
          refine pure_ (i := 5) (N := some 28) (v := ?_) (a' := ?_) #[true, false, true, true, true, true, false, false, false] rfl rfl (any_of HT_.out (by kernel_rfl)) (fun _ _ _ h => h) (Or.inl ⟨by rfl, ?_⟩) ?_ ?_
          rotate_left
          ·
           intro w'
           go_simp
           with_reducible rfl
          rotate_left
          ·
           exact pz
          refine take_ (i := 1) (N := some 24) (v := ?_) (a' := ?_) #[true, true, true, true, true, true, false, false, false] rfl rfl (take_ofW HT_.out HW_.out (by kernel_rfl)) (fun _ _ _ h => h) (Or.inl ⟨by rfl, ?_⟩) hHeld ?_ ?_
          rotate_left
          ·
           rintro w' ⟨s0, s1⟩
           go_simp
           with_reducible rfl
          rotate_left
          ·
           exact pz
          refine pure_ (i := 6) (N := some 29) (v := ?_) (a' := ?_) #[true, true, true, true, true, true, true, false, false] rfl rfl (any_of HT_.out (by kernel_rfl)) (fun _ _ _ h => h) (Or.inl ⟨by rfl, ?_⟩) ?_ ?_
          rotate_left
          ·
           intro w'
           go_simp
           with_reducible rfl
          rotate_left
          ·
           exact pz
          refine pure_ (i := 7) (N := some 30) (v := ?_) (a' := ?_) #[true, true, true, true, true, true, true, true, false] rfl rfl (any_of HT_.out (by kernel_rfl)) (fun _ _ _ h => h) (Or.inl ⟨by rfl, ?_⟩) ?_ ?_
          rotate_left
          ·
           intro w'
           go_simp
           with_reducible rfl
          rotate_left
          ·
           exact pz
          refine last_ (i := 8) (N := none) #[true, true, true, true, true, true, true, true, true] rfl rfl (one_of HT_.out (by kernel_rfl)) (by decide) (fun K hK => ?_)
          have hs29 : w26.cell? ⟨gb555, 0, none⟩ = some (.string y554) := (blk_cell BK555.out 0).trans rfl
          have hfs29 := blk_frozen BK555.out 0
          have hns29_0 := NB552_555.out
          have hms29_0 := NB555_552.out
          refine skip_ (w1 := ?_) (by rfl) rfl ?_ ?_
          rotate_left
          ·
           go_simp
           rfl
          refine hK.out _ _ ?_
          clear hK K
          refine done_ (done_of HT_.out (by kernel_rfl)) ?_
          have hnb30 := NB555_552.out
          have hnc30 := NB552_555.out
          have hcz31_0 : w26.cell? ⟨gb555, 0, none⟩ = some (.string y554) := (blk_cell BK555.out 0).trans rfl
          have hcz31_1 : w26.cell? ⟨gb555, 1, none⟩ = some (.int .i64 0) := (blk_cell BK555.out 1).trans rfl
          have hfz31_0 := blk_frozen BK555.out 0
          have hfz31_1 := blk_frozen BK555.out 1
          have hcs32 := Hd.str_from (P := Tryd.prog) (k := .i64) Tryd.underlying9 (i := (ji21)) (s := y556) (y := y562) oo oo Ny562.out
          try go_wp2
          go_meet
          case rel => exact ⟨_, (y562), (y561), (wrap64 (-t559)), eqd, H', ol, ⟨by refine bf NB552_555 ?_; refine bf NB552_555 ?_; exact bk BK552⟩, ⟨by (with_reducible repeat (first | refine blk_drewN ?_ _ | refine blk_drew ?_ | refine blk_alloc ?_ _)); refine blk_put (cs := #[.string y561, .int .i64 0]) ?_ 1 _ rfl; (with_reducible repeat (first | refine blk_drewN ?_ _ | refine blk_drew ?_ | refine blk_alloc ?_ _)); refine blk_put (cs := #[.string y554, .int .i64 0]) ?_ 0 _ rfl; exact bk BK555⟩, ⟨lk HB⟩⟩
         rw [if_neg c22] at H
         exact absurd H (by simp)
        rw [if_neg c20] at H
        exact absurd H (by simp)
       rw [if_neg c19] at H
       exact absurd H (by simp)
      rw [if_neg c18] at H
      exact absurd H (by simp)
     rw [if_neg c16] at H
     exact absurd H (by simp)
    replace c15 := Bool.eq_false_iff.mpr c15
    subst c15
    have H1 : (num_read.j0 k y556 y554 0) = some (r1, r2, r3) := by rw [if_neg (show ¬ (false = true) by decide)] at H; exact H
    clear H
    have H := H1
    clear H1
    have H' := am H
    clear H
    go_wp2
    go_meet
    case rel => exact ⟨_, (y556), (y554), (0), eqd, H', ol, ⟨by refine bf NB552_555 ?_; refine bf NB552_555 ?_; exact bk BK552⟩, ⟨by (with_reducible repeat (first | refine blk_drewN ?_ _ | refine blk_drew ?_ | refine blk_alloc ?_ _)); refine blk_put (cs := #[.string y554, .int .i64 0]) ?_ 1 _ rfl; (with_reducible repeat (first | refine blk_drewN ?_ _ | refine blk_drew ?_ | refine blk_alloc ?_ _)); refine blk_put (cs := #[.string (⟨#[]⟩ : ByteArray), .int .i64 0]) ?_ 0 _ rfl; exact bk BK555⟩, ⟨lk HB⟩⟩
   case rest =>
    clear HC8
    obtain ⟨kq, x0_7, x556q0_7, x556q1_7, rfl, HA, HJ7, BK552, BK555, HB⟩ := hcut
    cases kq with
    | zero => exact absurd HA.out (by simp [num_read.j0])
    | succ kj7 =>
     have H := HA.out
     clear HA
     simp only [num_read.j0] at H
     by_cases c33 : x556q0_7.toList = ([] : List UInt8)
     ·
      rw [if_pos c33] at H
      have c33b0 : (x556q0_7.toList == ([] : List UInt8)) = true := beq_iff_eq.mpr c33
      have c33b1 : (x556q0_7.toList != ([] : List UInt8)) = false := bne_eq_false_iff_eq.mpr c33
      clear c33
      simp only [Option.some.injEq, Prod.mk.injEq] at H
      obtain ⟨rfl, rfl, rfl⟩ := H
      have hnb34 := NB555_552.out
      have hnc34 := NB552_555.out
      have hcz35_0 : wc.cell? ⟨gb555, 0, none⟩ = some (.string x556q0_7) := (blk_cell BK555.out 0).trans rfl
      have hcz35_1 : wc.cell? ⟨gb555, 1, none⟩ = some (.int .i64 x556q1_7) := (blk_cell BK555.out 1).trans rfl
      have hfz35_0 := blk_frozen BK555.out 0
      have hfz35_1 := blk_frozen BK555.out 1
      have hcz36_0 : wc.cell? ⟨gb552, 0, none⟩ = some (.string (⟨#[]⟩ : ByteArray)) := (blk_cell BK552.out 0).trans rfl
      have hcz36_1 : wc.cell? ⟨gb552, 1, none⟩ = some (.int .i64 0) := (blk_cell BK552.out 1).trans rfl
      have hfz36_0 := blk_frozen BK552.out 0
      have hfz36_1 := blk_frozen BK552.out 1
      go_wp2
      refine bodyPost_ret (results_ct rfl _ _ gb552 79 #[.string x556q0_7, .int .i64 x556q1_7] (0, 0) _ rfl (by (with_reducible repeat (first | refine blk_drewN ?_ _ | refine blk_drew ?_ | refine blk_alloc ?_ _)); refine blk_put (cs := #[.string x556q0_7, .int .i64 0]) ?_ 1 _ rfl; (with_reducible repeat (first | refine blk_drewN ?_ _ | refine blk_drew ?_ | refine blk_alloc ?_ _)); refine blk_put (cs := #[.string (⟨#[]⟩ : ByteArray), .int .i64 0]) ?_ 0 _ rfl; exact bk BK552) Tryd.underlying79 rfl (by kernel_rfl)) rfl ?_
      exact ex (lk HB)
     rw [if_neg c33] at H
     have c33b0 : (x556q0_7.toList == ([] : List UInt8)) = false := beq_eq_false_iff_ne.mpr c33
     have c33b1 : (x556q0_7.toList != ([] : List UInt8)) = true := bne_iff_ne.mpr c33
     replace H := bm H
     obtain ⟨t563, A370, H⟩ := H
     replace H : (if x0_7.toList = ([] : List UInt8) then (some (t563, x556q1_7, true)) else (if 0 < (x0_7.size : Int) then (if (bt x0_7 0) = 101 then (num_read.j1 kj7 x0_7 false t563 x556q1_7) else (num_read.j1 kj7 x0_7 ((bt x0_7 0) != 69) t563 x556q1_7)) else (none))) = some (r1, r2, r3) := H
     have A37 := am A370
     clear A370
     by_cases c38 : x0_7.toList = ([] : List UInt8)
     ·
      rw [if_pos c38] at H
      have c38b0 : (x0_7.toList == ([] : List UInt8)) = true := beq_iff_eq.mpr c38
      have c38b1 : (x0_7.toList != ([] : List UInt8)) = false := bne_eq_false_iff_eq.mpr c38
      clear c38
      simp only [Option.some.injEq, Prod.mk.injEq] at H
      obtain ⟨rfl, rfl, rfl⟩ := H
      have hnb39 := NB555_552.out
      have hnc39 := NB552_555.out
      have hcz40_0 : wc.cell? ⟨gb555, 0, none⟩ = some (.string x556q0_7) := (blk_cell BK555.out 0).trans rfl
      have hcz40_1 : wc.cell? ⟨gb555, 1, none⟩ = some (.int .i64 x556q1_7) := (blk_cell BK555.out 1).trans rfl
      have hfz40_0 := blk_frozen BK555.out 0
      have hfz40_1 := blk_frozen BK555.out 1
      go_wp2_with (first | (refine gL (some 44) Tryd.func101 #[.string x556q0_7, .string (⟨#[48]⟩ : ByteArray)] ?_; (with_reducible refine (strings_TrimLeft.calls kj7 x556q0_7 (⟨#[48]⟩ : ByteArray) t563 _ A37.out).mono ?_); rintro e w41 ⟨rfl, hb⟩; refine ⟨_, rfl, ?_⟩; replace BK552 := bb BK552 hb; replace BK555 := bb BK555 hb; replace HB := lb HB hb; have hcz42_0 : w41.cell? ⟨gb555, 0, none⟩ = some (.string x556q0_7) := (blk_cell BK555.out 0).trans rfl; have hcz42_1 : w41.cell? ⟨gb555, 1, none⟩ = some (.int .i64 x556q1_7) := (blk_cell BK555.out 1).trans rfl; have hfz42_0 := blk_frozen BK555.out 0; have hfz42_1 := blk_frozen BK555.out 1; have hcz43_0 : w41.cell? ⟨gb552, 0, none⟩ = some (.string (⟨#[]⟩ : ByteArray)) := (blk_cell BK552.out 0).trans rfl; have hcz43_1 : w41.cell? ⟨gb552, 1, none⟩ = some (.int .i64 0) := (blk_cell BK552.out 1).trans rfl; have hfz43_0 := blk_frozen BK552.out 0; have hfz43_1 := blk_frozen BK552.out 1))
      refine bodyPost_ret (results_ct rfl _ _ gb552 79 #[.string t563, .int .i64 x556q1_7] (0, 0) _ rfl (by (with_reducible repeat (first | refine blk_drewN ?_ _ | refine blk_drew ?_ | refine blk_alloc ?_ _)); refine blk_put (cs := #[.string t563, .int .i64 0]) ?_ 1 _ rfl; (with_reducible repeat (first | refine blk_drewN ?_ _ | refine blk_drew ?_ | refine blk_alloc ?_ _)); refine blk_put (cs := #[.string (⟨#[]⟩ : ByteArray), .int .i64 0]) ?_ 0 _ rfl; refine bf NB552_555 ?_; exact bk BK552) Tryd.underlying79 rfl (by kernel_rfl)) rfl ?_
      exact ex (lk HB)
     rw [if_neg c38] at H
     have c38b0 : (x0_7.toList == ([] : List UInt8)) = false := beq_eq_false_iff_ne.mpr c38
     have c38b1 : (x0_7.toList != ([] : List UInt8)) = true := bne_iff_ne.mpr c38
     have HC44 := am H
     clear H
     have hnb45 := NB555_552.out
     have hnc45 := NB552_555.out
     have hcz46_0 : wc.cell? ⟨gb555, 0, none⟩ = some (.string x556q0_7) := (blk_cell BK555.out 0).trans rfl
     have hcz46_1 : wc.cell? ⟨gb555, 1, none⟩ = some (.int .i64 x556q1_7) := (blk_cell BK555.out 1).trans rfl
     have hfz46_0 := blk_frozen BK555.out 0
     have hfz46_1 := blk_frozen BK555.out 1
     go_upto_region 14 with (first | (refine gL (some 44) Tryd.func101 #[.string x556q0_7, .string (⟨#[48]⟩ : ByteArray)] ?_; (with_reducible refine (strings_TrimLeft.calls kj7 x556q0_7 (⟨#[48]⟩ : ByteArray) t563 _ A37.out).mono ?_); rintro e w47 ⟨rfl, hb⟩; refine ⟨_, rfl, ?_⟩; replace BK552 := bb BK552 hb; replace BK555 := bb BK555 hb; replace HB := lb HB hb; have hcz48_0 : w47.cell? ⟨gb555, 0, none⟩ = some (.string x556q0_7) := (blk_cell BK555.out 0).trans rfl; have hcz48_1 : w47.cell? ⟨gb555, 1, none⟩ = some (.int .i64 x556q1_7) := (blk_cell BK555.out 1).trans rfl; have hfz48_0 := blk_frozen BK555.out 0; have hfz48_1 := blk_frozen BK555.out 1))
     (try simp only [Act.put, List.setIfInBounds_toArray, List.set_cons_zero, List.set_cons_succ])
     go_cut [56] (fun v56 wc => ∃ (kq : Nat) (x56_43 : Bool), v56 = .bool x56_43 ∧ Aside0 (num_read.j1 kq x0_7 x56_43 t563 x556q1_7 = some (r1, r2, r3)) ∧ Aside0 (kq ≤ kj7) ∧ Aside0 (wc.heap[gb552]? = some (.cells #[.string (⟨#[]⟩ : ByteArray), .int .i64 0] 79 (0, 0))) ∧ Aside0 (wc.heap[gb555]? = some (.cells #[.string t563, .int .i64 x556q1_7] 79 (0, 0))) ∧ Aside0 (Below w.heap.size w wc))
     case first =>
      have H := HC44.out
      clear HC44
      by_cases c49 : 0 < (x0_7.size : Int)
      ·
       rw [if_pos c49] at H
       have c49b0 := dt c49
       have c49b1 : decide (0 < x0_7.size) = true := dt (by omega)
       clear c49
       (first | rw [c49b0] | (simp only [i64_w, i32_w]; rw [c49b0]) | skip)
       by_cases c51 : (bt x0_7 0) = 101
       ·
        rw [if_pos c51] at H
        have c51b0 : ((bt x0_7 0) == 101) = true := beq_iff_eq.mpr c51
        have c51b1 : ((bt x0_7 0) != 101) = false := bne_eq_false_iff_eq.mpr c51
        clear c51
        have H' := am H
        clear H
        have p50 : 0 ≤ (0 : Int) := (by omega)
        have q50 : 0 < x0_7.size := (by have : (0 : Int) < (x0_7.size : Int) := od; omega)
        have hx50 : ∀ h : 0 < x0_7.size, ((x0_7[0]'h).toNat : Int) = bt x0_7 0 := bt_at x0_7 0
        clear p50
        have qi50 : (0 < (x0_7.size : Int)) = True := eq_true (od)
        replace q50 := eq_true q50
        go_wp2
        go_meet
        case rel => exact ⟨_, (false), eqd, H', ⟨by have := HJ7.out; first | omega | exact Nat.le_refl _⟩, ⟨by refine bf NB552_555 ?_; exact bk BK552⟩, ⟨by (with_reducible repeat (first | refine blk_drewN ?_ _ | refine blk_drew ?_ | refine blk_alloc ?_ _)); refine blk_put (cs := #[.string x556q0_7, .int .i64 x556q1_7]) ?_ 0 _ rfl; exact bk BK555⟩, ⟨lk HB⟩⟩
       rw [if_neg c51] at H
       have c51b0 : ((bt x0_7 0) == 101) = false := beq_eq_false_iff_ne.mpr c51
       have c51b1 : ((bt x0_7 0) != 101) = true := bne_iff_ne.mpr c51
       have H' := am H
       clear H
       have p50 : 0 ≤ (0 : Int) := (by omega)
       have q50 : 0 < x0_7.size := (by have : (0 : Int) < (x0_7.size : Int) := od; omega)
       have hx50 : ∀ h : 0 < x0_7.size, ((x0_7[0]'h).toNat : Int) = bt x0_7 0 := bt_at x0_7 0
       clear p50
       have qi50 : (0 < (x0_7.size : Int)) = True := eq_true (od)
       replace q50 := eq_true q50
       have p52 : 0 ≤ (0 : Int) := (by omega)
       have q52 : 0 < x0_7.size := (by have : (0 : Int) < (x0_7.size : Int) := od; omega)
       have hx52 : ∀ h : 0 < x0_7.size, ((x0_7[0]'h).toNat : Int) = bt x0_7 0 := bt_at x0_7 0
       clear p52
       have qi52 : (0 < (x0_7.size : Int)) = True := eq_true (od)
       replace q52 := eq_true q52
       go_wp2
       go_meet
       case rel => exact ⟨_, (((bt x0_7 0) != 69)), eqd, H', ⟨by have := HJ7.out; first | omega | exact Nat.le_refl _⟩, ⟨by refine bf NB552_555 ?_; exact bk BK552⟩, ⟨by (with_reducible repeat (first | refine blk_drewN ?_ _ | refine blk_drew ?_ | refine blk_alloc ?_ _)); refine blk_put (cs := #[.string x556q0_7, .int .i64 x556q1_7]) ?_ 0 _ rfl; exact bk BK555⟩, ⟨lk HB⟩⟩
      rw [if_neg c49] at H
      exact absurd H (by simp)
     case rest =>
      clear HC44
      obtain ⟨kq, x56_43, rfl, HA, HJ43, BK552, BK555, HB⟩ := hcut
      cases kq with
      | zero => exact absurd HA.out (by simp [num_read.j1])
      | succ kj43 =>
       have H := HA.out
       clear HA
       simp only [num_read.j1] at H
       by_cases c53 : x56_43 = true
       ·
        subst c53
        have H1 : (some (t563, x556q1_7, false)) = some (r1, r2, r3) := by rw [if_pos rfl] at H; exact H
        clear H
        have H := H1
        clear H1
        simp only [Option.some.injEq, Prod.mk.injEq] at H
        obtain ⟨rfl, rfl, rfl⟩ := H
        have hnb54 := NB555_552.out
        have hnc54 := NB552_555.out
        have hcz55_0 : wc.cell? ⟨gb555, 0, none⟩ = some (.string t563) := (blk_cell BK555.out 0).trans rfl
        have hcz55_1 : wc.cell? ⟨gb555, 1, none⟩ = some (.int .i64 x556q1_7) := (blk_cell BK555.out 1).trans rfl
        have hfz55_0 := blk_frozen BK555.out 0
        have hfz55_1 := blk_frozen BK555.out 1
        have hcz56_0 : wc.cell? ⟨gb552, 0, none⟩ = some (.string (⟨#[]⟩ : ByteArray)) := (blk_cell BK552.out 0).trans rfl
        have hcz56_1 : wc.cell? ⟨gb552, 1, none⟩ = some (.int .i64 0) := (blk_cell BK552.out 1).trans rfl
        have hfz56_0 := blk_frozen BK552.out 0
        have hfz56_1 := blk_frozen BK552.out 1
        go_wp2
        refine bodyPost_ret (results_ct rfl _ _ gb552 79 #[.string t563, .int .i64 x556q1_7] (0, 0) _ rfl (by (with_reducible repeat (first | refine blk_drewN ?_ _ | refine blk_drew ?_ | refine blk_alloc ?_ _)); refine blk_put (cs := #[.string t563, .int .i64 0]) ?_ 1 _ rfl; (with_reducible repeat (first | refine blk_drewN ?_ _ | refine blk_drew ?_ | refine blk_alloc ?_ _)); refine blk_put (cs := #[.string (⟨#[]⟩ : ByteArray), .int .i64 0]) ?_ 0 _ rfl; exact bk BK552) Tryd.underlying79 rfl (by kernel_rfl)) rfl ?_
        exact ex (lk HB)
       replace c53 := Bool.eq_false_iff.mpr c53
       subst c53
       have H1 : (if 1 ≤ (x0_7.size : Int) then ((some (x0_7.extract 1 x0_7.size : ByteArray)).bind fun y564 => (if y564.toList = ([] : List UInt8) then (num_read.j2 kj43 y564 1 false t563 x556q1_7) else (if 0 < (y564.size : Int) then (if (bt y564 0) = 43 then (num_read.j2 kj43 y564 1 true t563 x556q1_7) else (num_read.j2 kj43 y564 1 ((bt y564 0) == 45) t563 x556q1_7)) else (none)))) else (none)) = some (r1, r2, r3) := by rw [if_neg (show ¬ (false = true) by decide)] at H; exact H
       clear H
       have H := H1
       clear H1
       by_cases c57 : 1 ≤ (x0_7.size : Int)
       ·
        rw [if_pos c57] at H
        have c57b0 := eq_true c57
        have c57b1 := dt c57
        clear c57
        obtain ⟨y564, Ny564, H⟩ := yb H
        have HC58 := am H
        clear H
        have hcs59 := Hd.str_from (P := Tryd.prog) (k := .i64) Tryd.underlying9 (i := 1) (s := x0_7) (y := y564) oo oo Ny564.out
        go_upto_region 18 with (fail)
        go_cut [71] (fun v71 wc => ∃ (kq : Nat) (x71_57 : Bool), v71 = .bool x71_57 ∧ Aside0 (num_read.j2 kq y564 1 x71_57 t563 x556q1_7 = some (r1, r2, r3)) ∧ Aside0 (kq ≤ kj43) ∧ Aside0 (wc.heap[gb552]? = some (.cells #[.string (⟨#[]⟩ : ByteArray), .int .i64 0] 79 (0, 0))) ∧ Aside0 (wc.heap[gb555]? = some (.cells #[.string t563, .int .i64 x556q1_7] 79 (0, 0))) ∧ Aside0 (Below w.heap.size w wc))
        case first =>
         have H := HC58.out
         clear HC58
         by_cases c60 : y564.toList = ([] : List UInt8)
         ·
          rw [if_pos c60] at H
          have c60b0 : (y564.toList == ([] : List UInt8)) = true := beq_iff_eq.mpr c60
          have c60b1 : (y564.toList != ([] : List UInt8)) = false := bne_eq_false_iff_eq.mpr c60
          clear c60
          (first | rw [c60b0] | (simp only [i64_w, i32_w]; rw [c60b0]) | skip)
          have H' := am H
          clear H
          go_wp2
          go_meet
          case rel => exact ⟨_, (false), eqd, H', ⟨by have := HJ7.out; have := HJ43.out; first | omega | exact Nat.le_refl _⟩, ⟨bk BK552⟩, ⟨bk BK555⟩, ⟨lk HB⟩⟩
         rw [if_neg c60] at H
         have c60b0 : (y564.toList == ([] : List UInt8)) = false := beq_eq_false_iff_ne.mpr c60
         have c60b1 : (y564.toList != ([] : List UInt8)) = true := bne_iff_ne.mpr c60
         (first | rw [c60b0] | (simp only [i64_w, i32_w]; rw [c60b0]) | skip)
         by_cases c61 : 0 < (y564.size : Int)
         ·
          rw [if_pos c61] at H
          have c61b0 := dt c61
          have c61b1 : decide (0 < y564.size) = true := dt (by omega)
          clear c61
          by_cases c63 : (bt y564 0) = 43
          ·
           rw [if_pos c63] at H
           have c63b0 : ((bt y564 0) == 43) = true := beq_iff_eq.mpr c63
           have c63b1 : ((bt y564 0) != 43) = false := bne_eq_false_iff_eq.mpr c63
           clear c63
           have H' := am H
           clear H
           have p62 : 0 ≤ (0 : Int) := (by omega)
           have q62 : 0 < y564.size := (by have : (0 : Int) < (y564.size : Int) := od; omega)
           have hx62 : ∀ h : 0 < y564.size, ((y564[0]'h).toNat : Int) = bt y564 0 := bt_at y564 0
           clear p62
           have qi62 : (0 < (y564.size : Int)) = True := eq_true (od)
           replace q62 := eq_true q62
           go_wp2
           go_meet
           case rel => exact ⟨_, (true), eqd, H', ⟨by have := HJ7.out; have := HJ43.out; first | omega | exact Nat.le_refl _⟩, ⟨bk BK552⟩, ⟨bk BK555⟩, ⟨lk HB⟩⟩
          rw [if_neg c63] at H
          have c63b0 : ((bt y564 0) == 43) = false := beq_eq_false_iff_ne.mpr c63
          have c63b1 : ((bt y564 0) != 43) = true := bne_iff_ne.mpr c63
          have H' := am H
          clear H
          have p62 : 0 ≤ (0 : Int) := (by omega)
          have q62 : 0 < y564.size := (by have : (0 : Int) < (y564.size : Int) := od; omega)
          have hx62 : ∀ h : 0 < y564.size, ((y564[0]'h).toNat : Int) = bt y564 0 := bt_at y564 0
          clear p62
          have qi62 : (0 < (y564.size : Int)) = True := eq_true (od)
          replace q62 := eq_true q62
          have p64 : 0 ≤ (0 : Int) := (by omega)
          have q64 : 0 < y564.size := (by have : (0 : Int) < (y564.size : Int) := od; omega)
          have hx64 : ∀ h : 0 < y564.size, ((y564[0]'h).toNat : Int) = bt y564 0 := bt_at y564 0
          clear p64
          have qi64 : (0 < (y564.size : Int)) = True := eq_true (od)
          replace q64 := eq_true q64
          go_wp2
          go_meet
          case rel => exact ⟨_, (((bt y564 0) == 45)), eqd, H', ⟨by have := HJ7.out; have := HJ43.out; first | omega | exact Nat.le_refl _⟩, ⟨bk BK552⟩, ⟨bk BK555⟩, ⟨lk HB⟩⟩
         rw [if_neg c61] at H
         exact absurd H (by simp)
        case rest =>
         clear HC58
         obtain ⟨kq, x71_57, rfl, HA, HJ57, BK552, BK555, HB⟩ := hcut
         cases kq with
         | zero => exact absurd HA.out (by simp [num_read.j2])
         | succ kj57 =>
          have H := HA.out
          clear HA
          simp only [num_read.j2] at H
          have HC65 := am H
          clear H
          go_upto_if 71 with (fail)
          go_cut [0, 6] (fun v0 v6 wc => ∃ (kq : Nat) (x0_64 : ByteArray) (x6_64 : Int), v0 = .string x0_64 ∧ v6 = .int .i64 x6_64 ∧ Aside0 (num_read.j3 kq x0_64 x6_64 t563 x556q1_7 = some (r1, r2, r3)) ∧ Aside0 (kq ≤ kj57) ∧ Aside0 (wc.heap[gb552]? = some (.cells #[.string (⟨#[]⟩ : ByteArray), .int .i64 0] 79 (0, 0))) ∧ Aside0 (wc.heap[gb555]? = some (.cells #[.string t563, .int .i64 x556q1_7] 79 (0, 0))) ∧ Aside0 (Below w.heap.size w wc))
          case first =>
           have H := HC65.out
           clear HC65
           by_cases c66 : x71_57 = true
           ·
            subst c66
            have H1 : (if 0 < (y564.size : Int) then (if (bt y564 0) = 45 then (if 1 ≤ (y564.size : Int) then (num_read.j3 kj57 (y564.extract 1 y564.size) (-1) t563 x556q1_7) else (none)) else (if 1 ≤ (y564.size : Int) then (num_read.j3 kj57 (y564.extract 1 y564.size) 1 t563 x556q1_7) else (none))) else (none)) = some (r1, r2, r3) := by rw [if_pos rfl] at H; exact H
            clear H
            have H := H1
            clear H1
            by_cases c67 : 0 < (y564.size : Int)
            ·
             rw [if_pos c67] at H
             have c67b0 := dt c67
             have c67b1 : decide (0 < y564.size) = true := dt (by omega)
             clear c67
             (first | rw [c67b0] | (simp only [i64_w, i32_w]; rw [c67b0]) | skip)
             by_cases c69 : (bt y564 0) = 45
             ·
              rw [if_pos c69] at H
              have c69b0 : ((bt y564 0) == 45) = true := beq_iff_eq.mpr c69
              have c69b1 : ((bt y564 0) != 45) = false := bne_eq_false_iff_eq.mpr c69
              clear c69
              by_cases c70 : 1 ≤ (y564.size : Int)
              ·
               rw [if_pos c70] at H
               have c70b0 := eq_true c70
               have c70b1 := dt c70
               clear c70
               obtain ⟨y565, hy565⟩ : ∃ y_ : ByteArray, y_ = (y564.extract 1 y564.size) := ⟨_, rfl⟩
               replace H : (num_read.j3 kj57 y565 (-1) t563 x556q1_7) = some (r1, r2, r3) := by first | (rw [hy565]; exact H) | exact H
               have Ny565 := am hy565
               clear hy565
               have H' := am H
               clear H
               have p68 : 0 ≤ (0 : Int) := (by omega)
               have q68 : 0 < y564.size := (by have : (0 : Int) < (y564.size : Int) := od; omega)
               have hx68 : ∀ h : 0 < y564.size, ((y564[0]'h).toNat : Int) = bt y564 0 := bt_at y564 0
               clear p68
               have qi68 : (0 < (y564.size : Int)) = True := eq_true (od)
               replace q68 := eq_true q68
               have hcs71 := Hd.str_from (P := Tryd.prog) (k := .i64) Tryd.underlying9 (i := 1) (s := y564) (y := y565) oo oo Ny565.out
               go_wp2
               go_meet
               case rel => exact ⟨_, (y565), ((-1)), eqd, eqd, H', ⟨by have := HJ7.out; have := HJ43.out; have := HJ57.out; first | omega | exact Nat.le_refl _⟩, ⟨bk BK552⟩, ⟨bk BK555⟩, ⟨lk HB⟩⟩
              rw [if_neg c70] at H
              exact absurd H (by simp)
             rw [if_neg c69] at H
             have c69b0 : ((bt y564 0) == 45) = false := beq_eq_false_iff_ne.mpr c69
             have c69b1 : ((bt y564 0) != 45) = true := bne_iff_ne.mpr c69
             by_cases c72 : 1 ≤ (y564.size : Int)
             ·
              rw [if_pos c72] at H
              have c72b0 := eq_true c72
              have c72b1 := dt c72
              clear c72
              obtain ⟨y566, hy566⟩ : ∃ y_ : ByteArray, y_ = (y564.extract 1 y564.size) := ⟨_, rfl⟩
              replace H : (num_read.j3 kj57 y566 1 t563 x556q1_7) = some (r1, r2, r3) := by first | (rw [hy566]; exact H) | exact H
              have Ny566 := am hy566
              clear hy566
              have H' := am H
              clear H
              have p68 : 0 ≤ (0 : Int) := (by omega)
              have q68 : 0 < y564.size := (by have : (0 : Int) < (y564.size : Int) := od; omega)
              have hx68 : ∀ h : 0 < y564.size, ((y564[0]'h).toNat : Int) = bt y564 0 := bt_at y564 0
              clear p68
              have qi68 : (0 < (y564.size : Int)) = True := eq_true (od)
              replace q68 := eq_true q68
              have hcs73 := Hd.str_from (P := Tryd.prog) (k := .i64) Tryd.underlying9 (i := 1) (s := y564) (y := y566) oo oo Ny566.out
              go_wp2
              go_meet
              case rel => exact ⟨_, (y566), (1), eqd, eqd, H', ⟨by have := HJ7.out; have := HJ43.out; have := HJ57.out; first | omega | exact Nat.le_refl _⟩, ⟨bk BK552⟩, ⟨bk BK555⟩, ⟨lk HB⟩⟩
             rw [if_neg c72] at H
             exact absurd H (by simp)
            rw [if_neg c67] at H
            exact absurd H (by simp)
           replace c66 := Bool.eq_false_iff.mpr c66
           subst c66
           have H1 : (num_read.j3 kj57 y564 1 t563 x556q1_7) = some (r1, r2, r3) := by rw [if_neg (show ¬ (false = true) by decide)] at H; exact H
           clear H
           have H := H1
           clear H1
           have H' := am H
           clear H
           go_wp2
           go_meet
           case rel => exact ⟨_, (y564), (1), eqd, eqd, H', ⟨by have := HJ7.out; have := HJ43.out; have := HJ57.out; first | omega | exact Nat.le_refl _⟩, ⟨bk BK552⟩, ⟨bk BK555⟩, ⟨lk HB⟩⟩
          case rest =>
           clear HC65
           obtain ⟨kq, x0_64, x6_64, rfl, rfl, HA, HJ64, BK552, BK555, HB⟩ := hcut
           cases kq with
           | zero => exact absurd HA.out (by simp [num_read.j3])
           | succ kj64 =>
            have H := HA.out
            clear HA
            simp only [num_read.j3] at H
            have HC74 := am H
            clear H
            go_upto_region 22 with (fail)
            go_cut [85] (fun v85 wc => ∃ (kq : Nat) (x85_73 : Bool), v85 = .bool x85_73 ∧ Aside0 (num_read.j4 kq x0_64 x6_64 x85_73 t563 x556q1_7 = some (r1, r2, r3)) ∧ Aside0 (kq ≤ kj64) ∧ Aside0 (wc.heap[gb552]? = some (.cells #[.string (⟨#[]⟩ : ByteArray), .int .i64 0] 79 (0, 0))) ∧ Aside0 (wc.heap[gb555]? = some (.cells #[.string t563, .int .i64 x556q1_7] 79 (0, 0))) ∧ Aside0 (Below w.heap.size w wc))
            case first =>
             have H := HC74.out
             clear HC74
             by_cases c75 : x0_64.toList = ([] : List UInt8)
             ·
              rw [if_pos c75] at H
              have c75b0 : (x0_64.toList == ([] : List UInt8)) = true := beq_iff_eq.mpr c75
              have c75b1 : (x0_64.toList != ([] : List UInt8)) = false := bne_eq_false_iff_eq.mpr c75
              clear c75
              (first | rw [c75b0] | (simp only [i64_w, i32_w]; rw [c75b0]) | skip)
              have H' := am H
              clear H
              go_wp2
              go_meet
              case rel => exact ⟨_, (true), eqd, H', ⟨by have := HJ7.out; have := HJ43.out; have := HJ57.out; have := HJ64.out; first | omega | exact Nat.le_refl _⟩, ⟨bk BK552⟩, ⟨bk BK555⟩, ⟨lk HB⟩⟩
             rw [if_neg c75] at H
             have c75b0 : (x0_64.toList == ([] : List UInt8)) = false := beq_eq_false_iff_ne.mpr c75
             have c75b1 : (x0_64.toList != ([] : List UInt8)) = true := bne_iff_ne.mpr c75
             (first | rw [c75b0] | (simp only [i64_w, i32_w]; rw [c75b0]) | skip)
             replace H := bm H
             obtain ⟨t567, A760, H⟩ := H
             replace H : (num_read.j4 kj64 x0_64 x6_64 (t567 != (x0_64.size : Int)) t563 x556q1_7) = some (r1, r2, r3) := H
             have A76 := am A760
             clear A760
             have H' := am H
             clear H
             go_wp2_with (first | (go_at_call 76; (with_reducible refine (num_run.calls kj64 x0_64 t567 _ A76.out).mono ?_); rintro e w' ⟨rfl, ⟨nd, rfl⟩⟩))
             go_meet
             case rel => exact ⟨_, ((t567 != (x0_64.size : Int))), eqd, H', ⟨by have := HJ7.out; have := HJ43.out; have := HJ57.out; have := HJ64.out; first | omega | exact Nat.le_refl _⟩, ⟨bk BK552⟩, ⟨bk BK555⟩, ⟨lk HB⟩⟩
            case rest =>
             clear HC74
             obtain ⟨kq, x85_73, rfl, HA, HJ73, BK552, BK555, HB⟩ := hcut
             cases kq with
             | zero => exact absurd HA.out (by simp [num_read.j4])
             | succ kj73 =>
              have H := HA.out
              clear HA
              simp only [num_read.j4] at H
              by_cases c77 : x85_73 = true
              ·
               subst c77
               have H1 : (some (t563, x556q1_7, false)) = some (r1, r2, r3) := by rw [if_pos rfl] at H; exact H
               clear H
               have H := H1
               clear H1
               simp only [Option.some.injEq, Prod.mk.injEq] at H
               obtain ⟨rfl, rfl, rfl⟩ := H
               have hnb78 := NB555_552.out
               have hnc78 := NB552_555.out
               have hcz79_0 : wc.cell? ⟨gb555, 0, none⟩ = some (.string t563) := (blk_cell BK555.out 0).trans rfl
               have hcz79_1 : wc.cell? ⟨gb555, 1, none⟩ = some (.int .i64 x556q1_7) := (blk_cell BK555.out 1).trans rfl
               have hfz79_0 := blk_frozen BK555.out 0
               have hfz79_1 := blk_frozen BK555.out 1
               have hcz80_0 : wc.cell? ⟨gb552, 0, none⟩ = some (.string (⟨#[]⟩ : ByteArray)) := (blk_cell BK552.out 0).trans rfl
               have hcz80_1 : wc.cell? ⟨gb552, 1, none⟩ = some (.int .i64 0) := (blk_cell BK552.out 1).trans rfl
               have hfz80_0 := blk_frozen BK552.out 0
               have hfz80_1 := blk_frozen BK552.out 1
               go_wp2
               refine bodyPost_ret (results_ct rfl _ _ gb552 79 #[.string t563, .int .i64 x556q1_7] (0, 0) _ rfl (by (with_reducible repeat (first | refine blk_drewN ?_ _ | refine blk_drew ?_ | refine blk_alloc ?_ _)); refine blk_put (cs := #[.string t563, .int .i64 0]) ?_ 1 _ rfl; (with_reducible repeat (first | refine blk_drewN ?_ _ | refine blk_drew ?_ | refine blk_alloc ?_ _)); refine blk_put (cs := #[.string (⟨#[]⟩ : ByteArray), .int .i64 0]) ?_ 0 _ rfl; exact bk BK552) Tryd.underlying79 rfl (by kernel_rfl)) rfl ?_
               exact ex (lk HB)
              replace c77 := Bool.eq_false_iff.mpr c77
              subst c77
              have H1 : (num_read.l0 kj73 x0_64 x6_64 0 (x0_64.size : Int) 0 t563 x556q1_7) = some (r1, r2, r3) := by rw [if_neg (show ¬ (false = true) by decide)] at H; exact H
              clear H
              have H := H1
              clear H1
              have H' := am H
              clear H
              go_wp2
              go_loopg [7, 89] kj73 (fun kq v7 v89 w' => ∃ (x7_6 : Int) (x89_6 : Int), v7 = .int .i64 x7_6 ∧ v89 = .int .i64 x89_6 ∧ Aside0 (num_read.l0 kq x0_64 x6_64 x7_6 (x0_64.size : Int) x89_6 t563 x556q1_7 = some (r1, r2, r3)) ∧ Aside0 (kq ≤ kj73) ∧ Aside0 (w'.heap[gb552]? = some (.cells #[.string (⟨#[]⟩ : ByteArray), .int .i64 0] 79 (0, 0))) ∧ Aside0 (w'.heap[gb555]? = some (.cells #[.string t563, .int .i64 x556q1_7] 79 (0, 0))) ∧ Aside0 (Below w.heap.size w w'))
              case atStart => exact ⟨(0), (0), eqd, eqd, H', ⟨Nat.le_refl _⟩, ⟨bk BK552⟩, ⟨bk BK555⟩, ⟨lk HB⟩⟩
              case round =>
               clear H'
               obtain ⟨x7_6, x89_6, rfl, rfl, HA, HK6, BK552, BK555, HB⟩ := hrel
               cases gk with
               | zero => exact absurd HA.out (by simp [num_read.l0])
               | succ k6 =>
                have H := HA.out
                clear HA
                simp only [num_read.l0] at H
                by_cases c81 : x89_6 < (x0_64.size : Int)
                ·
                 rw [if_pos c81] at H
                 have c81b0 := dt c81
                 clear c81
                 by_cases c82 : 0 ≤ x89_6
                 ·
                  rw [if_pos c82] at H
                  have c82b0 := dt c82
                  clear c82
                  by_cases c83 : x89_6 < (x0_64.size : Int)
                  ·
                   rw [if_pos c83] at H
                   have c83b0 := dt c83
                   clear c83
                   obtain ⟨ji85, hji85⟩ : ∃ j_ : Int, (mn (wrap64 ((wrap64 (10 * x7_6)) + (((bt x0_64 x89_6) - 48) % 256))) 100000) = j_ := ⟨_, rfl⟩
                   replace H : (num_read.l0 k6 x0_64 x6_64 ji85 (x0_64.size : Int) (wrap64 (x89_6 + 1)) t563 x556q1_7) = some (r1, r2, r3) := by first | (rw [hji85] at H; exact H) | (simp only [hji85] at H ⊢; exact H)
                   have hji85_ : (if 100000 < (wrap64 ((wrap64 (10 * x7_6)) + (((bt x0_64 x89_6) - 48) % 256))) then 100000 else (wrap64 ((wrap64 (10 * x7_6)) + (((bt x0_64 x89_6) - 48) % 256)))) = ji85 := hji85
                   have H' := am H
                   clear H
                   have p84 : 0 ≤ (x89_6 : Int) := od
                   have q84 : x89_6 < (x0_64.size : Int) := od
                   have hx84 := bt_at x0_64 x89_6
                   replace p84 := eq_true p84
                   replace q84 := eq_true q84
                   go_wp2
                   go_roundg k6
                   case measure => have := HJ7.out; have := HJ43.out; have := HJ57.out; have := HJ64.out; have := HJ73.out; have := HK6.out; omega
                   case rel => exact ⟨(ji85), (wrap64 (x89_6 + 1)), (by first | rfl | (simp; done) | (simp only [← hji85] <;> (first | rfl | simp)) | (simp [*]; done)), eqd, H', ⟨by have := HJ7.out; have := HJ43.out; have := HJ57.out; have := HJ64.out; have := HJ73.out; have := HK6.out; omega⟩, ⟨bk BK552⟩, ⟨bk BK555⟩, ⟨lk HB⟩⟩
                  rw [if_neg c83] at H
                  exact absurd H (by simp)
                 rw [if_neg c82] at H
                 exact absurd H (by simp)
                rw [if_neg c81] at H
                have c81b0 := decide_eq_false c81
                clear c81
                simp only [Option.some.injEq, Prod.mk.injEq] at H
                obtain ⟨rfl, rfl, rfl⟩ := H
                have hnb86 := NB555_552.out
                have hnc86 := NB552_555.out
                have hcz87_0 : wr.cell? ⟨gb555, 0, none⟩ = some (.string t563) := (blk_cell BK555.out 0).trans rfl
                have hcz87_1 : wr.cell? ⟨gb555, 1, none⟩ = some (.int .i64 x556q1_7) := (blk_cell BK555.out 1).trans rfl
                have hfz87_0 := blk_frozen BK555.out 0
                have hfz87_1 := blk_frozen BK555.out 1
                have hcz88_0 : wr.cell? ⟨gb552, 0, none⟩ = some (.string (⟨#[]⟩ : ByteArray)) := (blk_cell BK552.out 0).trans rfl
                have hcz88_1 : wr.cell? ⟨gb552, 1, none⟩ = some (.int .i64 0) := (blk_cell BK552.out 1).trans rfl
                have hfz88_0 := blk_frozen BK552.out 0
                have hfz88_1 := blk_frozen BK552.out 1
                go_wp2
                refine bodyPost_ret (results_ct rfl _ _ gb552 79 #[.string t563, .int .i64 (wrap64 (x556q1_7 + (wrap64 (x6_64 * x7_6))))] (0, 0) _ rfl (by (with_reducible repeat (first | refine blk_drewN ?_ _ | refine blk_drew ?_ | refine blk_alloc ?_ _)); refine blk_put (cs := #[.string t563, .int .i64 0]) ?_ 1 _ rfl; (with_reducible repeat (first | refine blk_drewN ?_ _ | refine blk_drew ?_ | refine blk_alloc ?_ _)); refine blk_put (cs := #[.string (⟨#[]⟩ : ByteArray), .int .i64 0]) ?_ 0 _ rfl; refine bf NB552_555 ?_; exact bk BK552) Tryd.underlying79 rfl (by kernel_rfl)) rfl ?_
                exact ex (lk HB)
       rw [if_neg c57] at H
       exact absurd H (by simp)
  rw [if_neg c4] at H
  exact absurd H (by simp)
 rw [if_neg c3] at H
 exact absurd H (by simp)
def r_plain.f : Nat → Int → Option (ByteArray)
 | 0, _ => none
 | k + 1, a0 => if (Int.tmod a0 10) < 0 then ((some (([(wrap64 (48 + (wrap64 (-(Int.tmod a0 10))))) % 256] : List Int) : List Int)).bind fun y437 => (if (wrap64 (Int.tdiv a0 10)) = 0 then (some (strOfNums y437)) else ((r_plain.f k (wrap64 (Int.tdiv a0 10))).bind fun t440 => (if t440.size + (strOfNums y437).size ≤ 9223372036854775807 then (some (t440 ++ (strOfNums y437))) else (none))))) else ((some (([(wrap64 (48 + (Int.tmod a0 10))) % 256] : List Int) : List Int)).bind fun y442 => (if (wrap64 (Int.tdiv a0 10)) = 0 then (some (strOfNums y442)) else ((r_plain.f k (wrap64 (Int.tdiv a0 10))).bind fun t445 => (if t445.size + (strOfNums y442).size ≤ 9223372036854775807 then (some (t445 ++ (strOfNums y442))) else (none)))))
theorem r_plain.mono_l : ∀ k, (∀ y0, LeO (r_plain.f k y0) (r_plain.f (k + 1) y0))
 | 0 => fun _ r h => by simp [r_plain.f] at h
 | k + 1 => by
  have ih0 := r_plain.mono_l k
  ·
   intro y0
   unfold r_plain.f
   repeat' (with_reducible first | apply ih0 | apply LeO.refl | apply LeO.none | apply LeO.ite | refine LeO.bind ?_ (fun _ => ?_))
theorem r_plain.mono : ∀ a0 k, LeO (r_plain.f k a0) (r_plain.f (k + 1) a0) := by
 intro a0 k
 have ih0 := r_plain.mono_l k
 exact ih0 a0
set_option maxHeartbeats 8000000 in
theorem r_plain.calls (k : Nat) : ∀ (a0 : Int) (r : ByteArray) (w : World) (h : r_plain.f k a0 = some r),
  Calls Tryd.prog 63 #[.int .i64 a0] w fun e w' => e = .returned (.string r) ∧ Below w.heap.size w w' := by
 induction k using Nat.strongRecOn with
 | _ k ih =>
 intro a0 r w h
 cases k with
 | zero => exact absurd h (by simp [r_plain.f])
 | succ k =>
 simp only [r_plain.f] at h
 have HB := am (Below.refl w.heap.size w)
 have H : (if (Int.tmod a0 10) < 0 then ((some (([(wrap64 (48 + (wrap64 (-(Int.tmod a0 10))))) % 256] : List Int) : List Int)).bind fun y437 => (if (wrap64 (Int.tdiv a0 10)) = 0 then (some (strOfNums y437)) else ((r_plain.f k (wrap64 (Int.tdiv a0 10))).bind fun t440 => (if t440.size + (strOfNums y437).size ≤ 9223372036854775807 then (some (t440 ++ (strOfNums y437))) else (none))))) else ((some (([(wrap64 (48 + (Int.tmod a0 10))) % 256] : List Int) : List Int)).bind fun y442 => (if (wrap64 (Int.tdiv a0 10)) = 0 then (some (strOfNums y442)) else ((r_plain.f k (wrap64 (Int.tdiv a0 10))).bind fun t445 => (if t445.size + (strOfNums y442).size ≤ 9223372036854775807 then (some (t445 ++ (strOfNums y442))) else (none)))))) = some r := h
 clear h
 by_cases c2 : (Int.tmod a0 10) < 0
 ·
  rw [if_pos c2] at H
  have c2b0 := dt c2
  clear c2
  obtain ⟨y437, Ny437, H⟩ := yb H
  by_cases c3 : (wrap64 (Int.tdiv a0 10)) = 0
  ·
   rw [if_pos c3] at H
   have c3b0 : ((wrap64 (Int.tdiv a0 10)) == 0) = true := beq_iff_eq.mpr c3
   have c3b1 : ((wrap64 (Int.tdiv a0 10)) != 0) = false := bne_eq_false_iff_eq.mpr c3
   clear c3
   obtain rfl := Option.some.inj H
   go_enter Tryd.func63, Tryd.ntmps63
   go_wp2_with (first | ((with_reducible refine gate_dst (N := 14) rfl ?_); refine Kd.R_lit (Kd.int .u8) _ 5 ?hg (N := 14) ?hd (xs := ([(wrap64 (48 + (wrap64 (-(Int.tmod a0 10))))) % 256] : List Int)) (inner := [.int .u8 ((wrap64 (48 + (wrap64 (-(Int.tmod a0 10))))) % 256)]) (ok := fun _ => True) (okp := fun _ => True) ?hr ?hp (fun _ hk => hk) trivial (Below.refl _ _) (Nat.le_refl _) (by simp) ?_; (case hd => rfl); (case hg => rfl); (case hr => first | (go_simp; done) | (go_simp; rfl)); (case hp => exact (Reps.one (show Kd.M (Kd.int .u8) _ _ _ ((wrap64 (48 + (wrap64 (-(Int.tmod a0 10))))) % 256) [.int .u8 ((wrap64 (48 + (wrap64 (-(Int.tmod a0 10))))) % 256)] from rfl) (Reps.none _ _))); intro v438 w4 ho5 hb hg_ hnew_; clear hg_ hnew_; (first | rw [← Ny437.out] at ho5 | (simp only [Int.reduceToNat] at ho5; rw [← Ny437.out] at ho5)); have HO439 := am (Kd.R_lower ho5 (below_size (lk HB))); replace HB := lb HB hb; clear hb ho5; have hcv6 := own_string (P := Tryd.prog) Tryd.underlying43 Tryd.underlying5 Tryd.underlying9 (Kd.own_of_R HO439.out)))
   go_ret
   exact ex (lk HB)
  rw [if_neg c3] at H
  have c3b0 : ((wrap64 (Int.tdiv a0 10)) == 0) = false := beq_eq_false_iff_ne.mpr c3
  have c3b1 : ((wrap64 (Int.tdiv a0 10)) != 0) = true := bne_iff_ne.mpr c3
  replace H := bm H
  obtain ⟨t440, A70, H⟩ := H
  have A7 := am A70
  clear A70
  by_cases c8 : t440.size + (strOfNums y437).size ≤ 9223372036854775807
  ·
   rw [if_pos c8] at H
   have c8b0 := eq_true c8
   have c8b1 := dt c8
   obtain ⟨y441, hy441⟩ : ∃ y_ : ByteArray, y_ = (t440 ++ (strOfNums y437)) := ⟨_, rfl⟩
   replace H : (some y441) = some r := by first | (rw [hy441]; exact H) | exact H
   have Ny441 := am hy441
   clear hy441
   obtain rfl := Option.some.inj H
   go_enter Tryd.func63, Tryd.ntmps63
   go_wp2_with (first | ((with_reducible refine gate_dst (N := 14) rfl ?_); refine Kd.R_lit (Kd.int .u8) _ 5 ?hg (N := 14) ?hd (xs := ([(wrap64 (48 + (wrap64 (-(Int.tmod a0 10))))) % 256] : List Int)) (inner := [.int .u8 ((wrap64 (48 + (wrap64 (-(Int.tmod a0 10))))) % 256)]) (ok := fun _ => True) (okp := fun _ => True) ?hr ?hp (fun _ hk => hk) trivial (Below.refl _ _) (Nat.le_refl _) (by simp) ?_; (case hd => rfl); (case hg => rfl); (case hr => first | (go_simp; done) | (go_simp; rfl)); (case hp => exact (Reps.one (show Kd.M (Kd.int .u8) _ _ _ ((wrap64 (48 + (wrap64 (-(Int.tmod a0 10))))) % 256) [.int .u8 ((wrap64 (48 + (wrap64 (-(Int.tmod a0 10))))) % 256)] from rfl) (Reps.none _ _))); intro v438 w9 ho10 hb hg_ hnew_; clear hg_ hnew_; (first | rw [← Ny437.out] at ho10 | (simp only [Int.reduceToNat] at ho10; rw [← Ny437.out] at ho10)); have HO439 := am (Kd.R_lower ho10 (below_size (lk HB))); replace HB := lb HB hb; clear hb ho10; have hcv11 := own_string (P := Tryd.prog) Tryd.underlying43 Tryd.underlying5 Tryd.underlying9 (Kd.own_of_R HO439.out)) | (refine gL (some 22) Tryd.func63 #[.int .i64 (wrap64 (Int.tdiv a0 10))] ?_; (with_reducible refine (ih k (by omega) (wrap64 (Int.tdiv a0 10)) t440 _ A7.out).mono ?_); rintro e w12 ⟨rfl, hb⟩; refine ⟨_, rfl, ?_⟩; replace HO439 := am (Kd.R_below (rk HO439) hb); replace HB := lb HB hb; obtain ⟨hcs13, hcs13'⟩ := sc Ny441))
   go_ret
   exact ex (lk HB)
  rw [if_neg c8] at H
  exact absurd H (by simp)
 rw [if_neg c2] at H
 have c2b0 := decide_eq_false c2
 clear c2
 obtain ⟨y442, Ny442, H⟩ := yb H
 by_cases c14 : (wrap64 (Int.tdiv a0 10)) = 0
 ·
  rw [if_pos c14] at H
  have c14b0 : ((wrap64 (Int.tdiv a0 10)) == 0) = true := beq_iff_eq.mpr c14
  have c14b1 : ((wrap64 (Int.tdiv a0 10)) != 0) = false := bne_eq_false_iff_eq.mpr c14
  clear c14
  obtain rfl := Option.some.inj H
  go_enter Tryd.func63, Tryd.ntmps63
  go_wp2_with (first | ((with_reducible refine gate_dst (N := 14) rfl ?_); refine Kd.R_lit (Kd.int .u8) _ 5 ?hg (N := 14) ?hd (xs := ([(wrap64 (48 + (Int.tmod a0 10))) % 256] : List Int)) (inner := [.int .u8 ((wrap64 (48 + (Int.tmod a0 10))) % 256)]) (ok := fun _ => True) (okp := fun _ => True) ?hr ?hp (fun _ hk => hk) trivial (Below.refl _ _) (Nat.le_refl _) (by simp) ?_; (case hd => rfl); (case hg => rfl); (case hr => first | (go_simp; done) | (go_simp; rfl)); (case hp => exact (Reps.one (show Kd.M (Kd.int .u8) _ _ _ ((wrap64 (48 + (Int.tmod a0 10))) % 256) [.int .u8 ((wrap64 (48 + (Int.tmod a0 10))) % 256)] from rfl) (Reps.none _ _))); intro v443 w15 ho16 hb hg_ hnew_; clear hg_ hnew_; (first | rw [← Ny442.out] at ho16 | (simp only [Int.reduceToNat] at ho16; rw [← Ny442.out] at ho16)); have HO444 := am (Kd.R_lower ho16 (below_size (lk HB))); replace HB := lb HB hb; clear hb ho16; have hcv17 := own_string (P := Tryd.prog) Tryd.underlying43 Tryd.underlying5 Tryd.underlying9 (Kd.own_of_R HO444.out)))
  go_ret
  exact ex (lk HB)
 rw [if_neg c14] at H
 have c14b0 : ((wrap64 (Int.tdiv a0 10)) == 0) = false := beq_eq_false_iff_ne.mpr c14
 have c14b1 : ((wrap64 (Int.tdiv a0 10)) != 0) = true := bne_iff_ne.mpr c14
 replace H := bm H
 obtain ⟨t445, A180, H⟩ := H
 have A18 := am A180
 clear A180
 by_cases c19 : t445.size + (strOfNums y442).size ≤ 9223372036854775807
 ·
  rw [if_pos c19] at H
  have c19b0 := eq_true c19
  have c19b1 := dt c19
  obtain ⟨y446, hy446⟩ : ∃ y_ : ByteArray, y_ = (t445 ++ (strOfNums y442)) := ⟨_, rfl⟩
  replace H : (some y446) = some r := by first | (rw [hy446]; exact H) | exact H
  have Ny446 := am hy446
  clear hy446
  obtain rfl := Option.some.inj H
  go_enter Tryd.func63, Tryd.ntmps63
  go_wp2_with (first | ((with_reducible refine gate_dst (N := 14) rfl ?_); refine Kd.R_lit (Kd.int .u8) _ 5 ?hg (N := 14) ?hd (xs := ([(wrap64 (48 + (Int.tmod a0 10))) % 256] : List Int)) (inner := [.int .u8 ((wrap64 (48 + (Int.tmod a0 10))) % 256)]) (ok := fun _ => True) (okp := fun _ => True) ?hr ?hp (fun _ hk => hk) trivial (Below.refl _ _) (Nat.le_refl _) (by simp) ?_; (case hd => rfl); (case hg => rfl); (case hr => first | (go_simp; done) | (go_simp; rfl)); (case hp => exact (Reps.one (show Kd.M (Kd.int .u8) _ _ _ ((wrap64 (48 + (Int.tmod a0 10))) % 256) [.int .u8 ((wrap64 (48 + (Int.tmod a0 10))) % 256)] from rfl) (Reps.none _ _))); intro v443 w20 ho21 hb hg_ hnew_; clear hg_ hnew_; (first | rw [← Ny442.out] at ho21 | (simp only [Int.reduceToNat] at ho21; rw [← Ny442.out] at ho21)); have HO444 := am (Kd.R_lower ho21 (below_size (lk HB))); replace HB := lb HB hb; clear hb ho21; have hcv22 := own_string (P := Tryd.prog) Tryd.underlying43 Tryd.underlying5 Tryd.underlying9 (Kd.own_of_R HO444.out)) | (refine gL (some 22) Tryd.func63 #[.int .i64 (wrap64 (Int.tdiv a0 10))] ?_; (with_reducible refine (ih k (by omega) (wrap64 (Int.tdiv a0 10)) t445 _ A18.out).mono ?_); rintro e w23 ⟨rfl, hb⟩; refine ⟨_, rfl, ?_⟩; replace HO444 := am (Kd.R_below (rk HO444) hb); replace HB := lb HB hb; obtain ⟨hcs24, hcs24'⟩ := sc Ny446))
  go_ret
  exact ex (lk HB)
 rw [if_neg c19] at H
 exact absurd H (by simp)
mutual
def r_text.l0 : Nat → List Int → ByteArray → Int → Option (ByteArray)
 | 0, _, _, _ => none
 | k + 1, x0, x3, x4 => if x4 ≥ 0 then (if 0 ≤ x4 then (if x4 < (x0.length : Int) then ((r_plain.f k (rd x0 x4)).bind fun t448 => (r_text.l1 k x0 x3 x4 t448)) else (none)) else (none)) else (some x3)
def r_text.l1 : Nat → List Int → ByteArray → Int → ByteArray → Option (ByteArray)
 | 0, _, _, _, _ => none
 | k + 1, x0, x3, x4, x5 => if x4 < (wrap64 ((x0.length : Int) - 1)) then (if (x5.size : Int) < 4 then (if 1 + x5.size ≤ 9223372036854775807 then (r_text.l1 k x0 x3 x4 ((⟨#[48]⟩ : ByteArray) ++ x5)) else (none)) else (if x3.size + x5.size ≤ 9223372036854775807 then (r_text.l0 k x0 (x3 ++ x5) (wrap64 (x4 - 1))) else (none))) else (if x3.size + x5.size ≤ 9223372036854775807 then (r_text.l0 k x0 (x3 ++ x5) (wrap64 (x4 - 1))) else (none))
end
def r_text.f (k : Nat) (l0 : List Int) : Option (ByteArray) := r_text.l0 k l0 (⟨#[]⟩ : ByteArray) (wrap64 ((l0.length : Int) - 1))
theorem r_text.mono_l : ∀ k, (∀ y0 y1 y2, LeO (r_text.l0 k y0 y1 y2) (r_text.l0 (k + 1) y0 y1 y2)) ∧ (∀ y0 y1 y2 y3, LeO (r_text.l1 k y0 y1 y2 y3) (r_text.l1 (k + 1) y0 y1 y2 y3))
 | 0 => ⟨fun _ _ _ r h => by simp [r_text.l0] at h, fun _ _ _ _ r h => by simp [r_text.l1] at h⟩
 | k + 1 => by
  obtain ⟨ih0, ih1⟩ := r_text.mono_l k
  refine ⟨?_, ?_⟩ <;> intros <;> (first | unfold r_text.l0 | unfold r_text.l1) <;> repeat' (with_reducible first | apply ih0 | apply ih1 | apply r_plain.mono | apply LeO.refl | apply LeO.none | apply LeO.ite | refine LeO.bind ?_ (fun _ => ?_))
theorem r_text.mono : ∀ a0 k, LeO (r_text.f k a0) (r_text.f (k + 1) a0) := by
 intro a0 k
 obtain ⟨ih0, ih1⟩ := r_text.mono_l k
 unfold r_text.f
 repeat' (with_reducible first | apply ih0 | apply ih1 | apply r_plain.mono | apply LeO.refl | apply LeO.none | apply LeO.ite | refine LeO.bind ?_ (fun _ => ?_))
set_option maxHeartbeats 8000000 in
theorem r_text.calls (k : Nat) (A0 : Option Addr) (c0 : Nat) (l0 : List Int) (r : ByteArray) (w : World) (hr0 : Kd.C (Kd.int .i64) w A0 l0.length l0) (hc0 : l0.length ≤ c0) (h : r_text.f k l0 = some r) :
  Calls Tryd.prog 60 #[.slice A0 l0.length c0] w fun e w' => e = .returned (.string r) ∧ Below w.heap.size w w' := by
 have HR0 := am hr0
 have HC0 := am hc0
 clear hr0 hc0
 have HB := am (Below.refl w.heap.size w)
 have H : (r_text.l0 k l0 (⟨#[]⟩ : ByteArray) (wrap64 ((l0.length : Int) - 1))) = some r := h
 clear h
 have H' := am H
 clear H
 go_enter Tryd.func60, Tryd.ntmps60
 go_wp2
 go_loopg [3, 4] k (fun kq v3 v4 w' => ∃ (x3_1 : ByteArray) (x4_1 : Int), v3 = .string x3_1 ∧ v4 = .int .i64 x4_1 ∧ Aside0 (r_text.l0 kq l0 x3_1 x4_1 = some r) ∧ Aside0 (kq ≤ k) ∧ Aside0 (Below w.heap.size w w'))
 case atStart => exact ⟨((⟨#[]⟩ : ByteArray)), (wrap64 ((l0.length : Int) - 1)), eqd, eqd, H', ⟨Nat.le_refl _⟩, ⟨lk HB⟩⟩
 case round =>
  clear H'
  obtain ⟨x3_1, x4_1, rfl, rfl, HA, HK1, HB⟩ := hrel
  cases gk with
  | zero => exact absurd HA.out (by simp [r_text.l0])
  | succ k1 =>
   have H := HA.out
   clear HA
   simp only [r_text.l0] at H
   by_cases c2 : x4_1 ≥ 0
   ·
    rw [if_pos c2] at H
    have c2b0 : decide (0 ≤ x4_1) = true := dt c2
    clear c2
    by_cases c3 : 0 ≤ x4_1
    ·
     rw [if_pos c3] at H
     have c3b0 := dt c3
     clear c3
     by_cases c4 : x4_1 < (l0.length : Int)
     ·
      rw [if_pos c4] at H
      have c4b0 := dt c4
      clear c4
      replace H := bm H
      obtain ⟨t448, A50, H⟩ := H
      have A5 := am A50
      clear A50
      have H' := am H
      clear H
      have p447 : 0 ≤ (x4_1 : Int) := od
      have q447 : x4_1 < (l0.length : Int) := od
      obtain ⟨ad447, e447, hx447_0⟩ := Kd.at_int HR0.out x4_1 p447 q447
      cases e447
      replace hx447_0 := (HB.out.cell (World.block_lt_of_cell? w _ hx447_0)).trans hx447_0
      replace p447 := eq_true p447
      replace q447 := eq_true q447
      go_wp2_with (first | (refine gL (some 17) Tryd.func63 #[.int .i64 (rd l0 x4_1)] ?_; (with_reducible refine (r_plain.calls k1 (rd l0 x4_1) t448 _ A5.out).mono ?_); rintro e w6 ⟨rfl, hb⟩; refine ⟨_, rfl, ?_⟩; replace HB := lb HB hb))
      go_loopg [5] k1 (fun kq v5 w' => ∃ (x5_2 : ByteArray), v5 = .string x5_2 ∧ Aside0 (r_text.l1 kq l0 x3_1 x4_1 x5_2 = some r) ∧ Aside0 (kq ≤ k1) ∧ Aside0 (Below w.heap.size w w'))
      case atStart => exact ⟨(t448), eqd, H', ⟨Nat.le_refl _⟩, ⟨lk HB⟩⟩
      case round =>
       clear H'
       obtain ⟨x5_2, rfl, HA, HK2, HB⟩ := hrel
       cases gk with
       | zero => exact absurd HA.out (by simp [r_text.l1])
       | succ k2 =>
        have H := HA.out
        clear HA
        simp only [r_text.l1] at H
        by_cases c7 : x4_1 < (wrap64 ((l0.length : Int) - 1))
        ·
         rw [if_pos c7] at H
         have c7b0 := dt c7
         clear c7
         by_cases c8 : (x5_2.size : Int) < 4
         ·
          rw [if_pos c8] at H
          have c8b0 := dt c8
          have c8b1 : decide (x5_2.size < 4) = true := dt (by omega)
          clear c8
          by_cases c9 : 1 + x5_2.size ≤ 9223372036854775807
          ·
           rw [if_pos c9] at H
           have c9b0 := eq_true c9
           have c9b1 := dt c9
           obtain ⟨y449, hy449⟩ : ∃ y_ : ByteArray, y_ = ((⟨#[48]⟩ : ByteArray) ++ x5_2) := ⟨_, rfl⟩
           replace H : (r_text.l1 k2 l0 x3_1 x4_1 y449) = some r := by first | (rw [hy449]; exact H) | exact H
           have Ny449 := am hy449
           clear hy449
           have H' := am H
           clear H
           obtain ⟨hcs10, hcs10'⟩ := sc Ny449
           go_wp2
           go_roundg k2
           case measure => have := HK1.out; have := HK2.out; omega
           case rel => exact ⟨(y449), eqd, H', ⟨by have := HK1.out; have := HK2.out; omega⟩, ⟨lk HB⟩⟩
          rw [if_neg c9] at H
          exact absurd H (by simp)
         rw [if_neg c8] at H
         have c8b0 := decide_eq_false c8
         have c8b1 : decide (x5_2.size < 4) = false := decide_eq_false (by omega)
         clear c8
         by_cases c11 : x3_1.size + x5_2.size ≤ 9223372036854775807
         ·
          rw [if_pos c11] at H
          have c11b0 := eq_true c11
          have c11b1 := dt c11
          obtain ⟨y450, hy450⟩ : ∃ y_ : ByteArray, y_ = (x3_1 ++ x5_2) := ⟨_, rfl⟩
          replace H : (r_text.l0 k2 l0 y450 (wrap64 (x4_1 - 1))) = some r := by first | (rw [hy450]; exact H) | exact H
          have Ny450 := am hy450
          clear hy450
          have H' := am H
          clear H
          obtain ⟨hcs12, hcs12'⟩ := sc Ny450
          go_wp2
          go_roundg k2
          case measure => have := HK1.out; have := HK2.out; omega
          case rel => exact ⟨(y450), (wrap64 (x4_1 - 1)), eqd, eqd, H', ⟨by have := HK1.out; have := HK2.out; omega⟩, ⟨lk HB⟩⟩
         rw [if_neg c11] at H
         exact absurd H (by simp)
        rw [if_neg c7] at H
        have c7b0 := decide_eq_false c7
        clear c7
        by_cases c13 : x3_1.size + x5_2.size ≤ 9223372036854775807
        ·
         rw [if_pos c13] at H
         have c13b0 := eq_true c13
         have c13b1 := dt c13
         obtain ⟨y451, hy451⟩ : ∃ y_ : ByteArray, y_ = (x3_1 ++ x5_2) := ⟨_, rfl⟩
         replace H : (r_text.l0 k2 l0 y451 (wrap64 (x4_1 - 1))) = some r := by first | (rw [hy451]; exact H) | exact H
         have Ny451 := am hy451
         clear hy451
         have H' := am H
         clear H
         obtain ⟨hcs14, hcs14'⟩ := sc Ny451
         go_wp2
         go_roundg k2
         case measure => have := HK1.out; have := HK2.out; omega
         case rel => exact ⟨(y451), (wrap64 (x4_1 - 1)), eqd, eqd, H', ⟨by have := HK1.out; have := HK2.out; omega⟩, ⟨lk HB⟩⟩
        rw [if_neg c13] at H
        exact absurd H (by simp)
     rw [if_neg c4] at H
     exact absurd H (by simp)
    rw [if_neg c3] at H
    exact absurd H (by simp)
   rw [if_neg c2] at H
   have c2b0 : decide (0 ≤ x4_1) = false := decide_eq_false c2
   clear c2
   obtain rfl := Option.some.inj H
   go_wp2
   go_ret
   exact ex (lk HB)
mutual
def r_Digits.j0 : Nat → Bool → Int → Bool → Option (ByteArray × Int × Bool)
 | 0, _, _, _ => none
 | k + 1, x6, x7, x32 => if x32 = true then (some ((⟨#[]⟩ : ByteArray), 0, x6)) else ((r_expansion.f k x7).bind fun bt452 => (r_Digits.l0 k x6 x7 bt452.1 bt452.2 ([] : List Int) 1))
def r_Digits.l0 : Nat → Bool → Int → List Int → Int → List Int → Int → Option (ByteArray × Int × Bool)
 | 0, _, _, _, _, _, _ => none
 | k + 1, x6, x7, x8, x9, x10, x11 => if x11 ≤ (x8.length : Int) then (if 0 ≤ (wrap64 (x11 - 1)) then (if (wrap64 (x11 - 1)) < (x8.length : Int) then ((r_times.f k x10 10 (rd x8 (wrap64 (x11 - 1)))).bind fun t457 => ((r_plus.f k t457).bind fun t460 => ((r_reads.f k x7 t457 (wrap64 (x9 - x11))).bind fun t465 => ((r_reads.f k x7 t460 (wrap64 (x9 - x11))).bind fun t466 => (if t465 = true then (r_Digits.j2 k x6 x7 x8 x9 t457 x11 t465 t466 false t457 (wrap64 (x9 - x11)) t460 (wrap64 (x9 - x11))) else (r_Digits.j2 k x6 x7 x8 x9 t457 x11 t465 t466 (!t466) t457 (wrap64 (x9 - x11)) t460 (wrap64 (x9 - x11)))))))) else (none)) else (none)) else (some ((⟨#[]⟩ : ByteArray), 0, x6))
def r_Digits.j2 : Nat → Bool → Int → List Int → Int → List Int → Int → Bool → Bool → Bool → List Int → Int → List Int → Int → Option (ByteArray × Int × Bool)
 | 0, _, _, _, _, _, _, _, _, _, _, _, _, _ => none
 | k + 1, x6, x7, x8, x9, x10, x11, x14, x15, x74, x464q0, x464q1, x465q0, x465q1 => if x74 = true then (r_Digits.l0 k x6 x7 x8 x9 x10 (wrap64 (x11 + 1))) else ((r_nearer.f k x7 x464q0 x464q1 x465q0 x465q1).bind fun t468 => (if x14 = true then (if x15 = true then (if t468 > 0 then (r_Digits.j3 k x6 x9 x11 true x465q0 x465q1 x464q0 x464q1) else (if t468 = 0 then (if 0 < (x10.length : Int) then (r_Digits.j3 k x6 x9 x11 ((Int.tmod (rd x10 0) 2) == 1) x465q0 x465q1 x464q0 x464q1) else (none)) else (r_Digits.j3 k x6 x9 x11 false x465q0 x465q1 x464q0 x464q1))) else (r_Digits.j3 k x6 x9 x11 false x465q0 x465q1 x464q0 x464q1)) else (r_Digits.j3 k x6 x9 x11 true x465q0 x465q1 x464q0 x464q1)))
def r_Digits.j3 : Nat → Bool → Int → Int → Bool → List Int → Int → List Int → Int → Option (ByteArray × Int × Bool)
 | 0, _, _, _, _, _, _, _, _ => none
 | k + 1, x6, x9, x11, x99, x465q0, x465q1, x468q0, x468q1 => if x99 = true then ((r_text.f k x465q0).bind fun t470 => (r_Digits.l1 k x6 t470 (wrap64 ((wrap64 (x9 - x11)) + (t470.size : Int))))) else ((r_text.f k x468q0).bind fun t472 => (r_Digits.l1 k x6 t472 (wrap64 ((wrap64 (x9 - x11)) + (t472.size : Int)))))
def r_Digits.l1 : Nat → Bool → ByteArray → Int → Option (ByteArray × Int × Bool)
 | 0, _, _, _ => none
 | k + 1, x6, x18, x19 => if (x18.size : Int) > 1 then (if 0 ≤ (wrap64 ((x18.size : Int) - 1)) then (if (wrap64 ((x18.size : Int) - 1)) < (x18.size : Int) then (if (bt x18 (wrap64 ((x18.size : Int) - 1))) = 48 then (if (wrap64 ((x18.size : Int) - 1)) ≤ (x18.size : Int) then (r_Digits.l1 k x6 (x18.extract 0 ((wrap64 ((x18.size : Int) - 1)) : Int).toNat) x19) else (none)) else (some (x18, x19, x6))) else (none)) else (none)) else (some (x18, x19, x6))
end
def r_Digits.f (k : Nat) (a0 : Nat) : Option (ByteArray × Int × Bool) := if (Go.bits .andNot .u64 (a0 : Int) 9223372036854775808) = 0 then (r_Digits.j0 k (((a0 : Int) / 9223372036854775808) == 1) (Go.bits .andNot .u64 (a0 : Int) 9223372036854775808) true) else (r_Digits.j0 k (((a0 : Int) / 9223372036854775808) == 1) (Go.bits .andNot .u64 (a0 : Int) 9223372036854775808) (decide ((Go.bits .andNot .u64 (a0 : Int) 9223372036854775808) ≥ 9218868437227405312)))
theorem r_Digits.mono_l : ∀ k, (∀ y0 y1 y2, LeO (r_Digits.j0 k y0 y1 y2) (r_Digits.j0 (k + 1) y0 y1 y2)) ∧ (∀ y0 y1 y2 y3 y4 y5, LeO (r_Digits.l0 k y0 y1 y2 y3 y4 y5) (r_Digits.l0 (k + 1) y0 y1 y2 y3 y4 y5)) ∧ (∀ y0 y1 y2 y3 y4 y5 y6 y7 y8 y9 y10 y11 y12, LeO (r_Digits.j2 k y0 y1 y2 y3 y4 y5 y6 y7 y8 y9 y10 y11 y12) (r_Digits.j2 (k + 1) y0 y1 y2 y3 y4 y5 y6 y7 y8 y9 y10 y11 y12)) ∧ (∀ y0 y1 y2 y3 y4 y5 y6 y7, LeO (r_Digits.j3 k y0 y1 y2 y3 y4 y5 y6 y7) (r_Digits.j3 (k + 1) y0 y1 y2 y3 y4 y5 y6 y7)) ∧ (∀ y0 y1 y2, LeO (r_Digits.l1 k y0 y1 y2) (r_Digits.l1 (k + 1) y0 y1 y2))
 | 0 => ⟨fun _ _ _ r h => by simp [r_Digits.j0] at h, fun _ _ _ _ _ _ r h => by simp [r_Digits.l0] at h, fun _ _ _ _ _ _ _ _ _ _ _ _ _ r h => by simp [r_Digits.j2] at h, fun _ _ _ _ _ _ _ _ r h => by simp [r_Digits.j3] at h, fun _ _ _ r h => by simp [r_Digits.l1] at h⟩
 | k + 1 => by
  obtain ⟨ih0, ih1, ih2, ih3, ih4⟩ := r_Digits.mono_l k
  refine ⟨?_, ?_, ?_, ?_, ?_⟩ <;> intros <;> (first | unfold r_Digits.j0 | unfold r_Digits.l0 | unfold r_Digits.j2 | unfold r_Digits.j3 | unfold r_Digits.l1) <;> repeat' (with_reducible first | apply ih0 | apply ih1 | apply ih2 | apply ih3 | apply ih4 | apply r_expansion.mono | apply r_nearer.mono | apply r_plus.mono | apply r_reads.mono | apply r_text.mono | apply r_times.mono | apply LeO.refl | apply LeO.none | apply LeO.ite | refine LeO.bind ?_ (fun _ => ?_))
theorem r_Digits.mono : ∀ a0 k, LeO (r_Digits.f k a0) (r_Digits.f (k + 1) a0) := by
 intro a0 k
 obtain ⟨ih0, ih1, ih2, ih3, ih4⟩ := r_Digits.mono_l k
 unfold r_Digits.f
 repeat' (with_reducible first | apply ih0 | apply ih1 | apply ih2 | apply ih3 | apply ih4 | apply r_expansion.mono | apply r_nearer.mono | apply r_plus.mono | apply r_reads.mono | apply r_text.mono | apply r_times.mono | apply LeO.refl | apply LeO.none | apply LeO.ite | refine LeO.bind ?_ (fun _ => ?_))
def r_Digits.T13 : Bool × List (List Nat × List Nat) := (true, [([], []), ([], []), ([0, 1], [0, 1]), ([], []), ([], []), ([3, 4, 2], [3, 4]), ([2, 5, 0, 1, 2], [2]), ([5, 6, 0, 1, 2, 3, 4, 5, 6], [5])])
def r_Digits.B13 : List Nat := [0, 0, 3, 0, 0, 31, 63, 127]
theorem r_Digits.tab13 : rtab .any (opsOf Tryd.f14 13) = r_Digits.T13 := by kernel_rfl
theorem r_Digits.bits13 : waitsOk r_Digits.T13.2 r_Digits.B13 = true := by kernel_rfl
set_option maxHeartbeats 8000000 in
theorem r_Digits.calls (k : Nat) (a0 : Nat) (r1 : ByteArray) (r2 : Int) (r3 : Bool) (w : World) (h : r_Digits.f k a0 = some (r1, r2, r3)) :
  Calls Tryd.prog 14 #[.float .f64 a0] w fun e w' => e = .returned (.tuple #[.string r1, .int .i64 r2, .bool r3]) ∧ Below w.heap.size w w' := by
 have hu72 := Tryd.underlying72
 have HB := am (Below.refl w.heap.size w)
 have H : (if (Go.bits .andNot .u64 (a0 : Int) 9223372036854775808) = 0 then (r_Digits.j0 k (((a0 : Int) / 9223372036854775808) == 1) (Go.bits .andNot .u64 (a0 : Int) 9223372036854775808) true) else (r_Digits.j0 k (((a0 : Int) / 9223372036854775808) == 1) (Go.bits .andNot .u64 (a0 : Int) 9223372036854775808) (decide ((Go.bits .andNot .u64 (a0 : Int) 9223372036854775808) ≥ 9218868437227405312)))) = some (r1, r2, r3) := h
 clear h
 have HC2 := am H
 clear H
 have hext0 := Hd.ext54
 go_enter Tryd.func14, Tryd.ntmps14
 go_upto_region 4 with (fail)
 go_cut [32] (fun v32 wc => ∃ (kq : Nat) (x32_1 : Bool), v32 = .bool x32_1 ∧ Aside0 (r_Digits.j0 kq (((a0 : Int) / 9223372036854775808) == 1) (Go.bits .andNot .u64 (a0 : Int) 9223372036854775808) x32_1 = some (r1, r2, r3)) ∧ Aside0 (kq ≤ k) ∧ Aside0 (Below w.heap.size w wc))
 case first =>
  have H := HC2.out
  clear HC2
  by_cases c3 : (Go.bits .andNot .u64 (a0 : Int) 9223372036854775808) = 0
  ·
   rw [if_pos c3] at H
   have c3b0 : ((Go.bits .andNot .u64 (a0 : Int) 9223372036854775808) == 0) = true := beq_iff_eq.mpr c3
   have c3b1 : ((Go.bits .andNot .u64 (a0 : Int) 9223372036854775808) != 0) = false := bne_eq_false_iff_eq.mpr c3
   clear c3
   (first | rw [c3b0] | (simp only [i64_w, i32_w]; rw [c3b0]) | skip)
   have H' := am H
   clear H
   go_wp2
   go_meet
   case rel => exact ⟨_, (true), eqd, H', ol, ⟨lk HB⟩⟩
  rw [if_neg c3] at H
  have c3b0 : ((Go.bits .andNot .u64 (a0 : Int) 9223372036854775808) == 0) = false := beq_eq_false_iff_ne.mpr c3
  have c3b1 : ((Go.bits .andNot .u64 (a0 : Int) 9223372036854775808) != 0) = true := bne_iff_ne.mpr c3
  (first | rw [c3b0] | (simp only [i64_w, i32_w]; rw [c3b0]) | skip)
  have H' := am H
  clear H
  go_wp2
  go_meet
  case rel => exact ⟨_, (decide ((Go.bits .andNot .u64 (a0 : Int) 9223372036854775808) ≥ 9218868437227405312)), eqd, H', ol, ⟨lk HB⟩⟩
 case rest =>
  clear HC2
  obtain ⟨kq, x32_1, rfl, HA, HJ1, HB⟩ := hcut
  cases kq with
  | zero => exact absurd HA.out (by simp [r_Digits.j0])
  | succ kj1 =>
   have H := HA.out
   clear HA
   simp only [r_Digits.j0] at H
   by_cases c4 : x32_1 = true
   ·
    subst c4
    have H1 : (some ((⟨#[]⟩ : ByteArray), 0, (((a0 : Int) / 9223372036854775808) == 1))) = some (r1, r2, r3) := by rw [if_pos rfl] at H; exact H
    clear H
    have H := H1
    clear H1
    simp only [Option.some.injEq, Prod.mk.injEq] at H
    obtain ⟨rfl, rfl, rfl⟩ := H
    go_wp2
    go_ret3
    exact ex (lk HB)
   replace c4 := Bool.eq_false_iff.mpr c4
   subst c4
   have H1 : ((r_expansion.f kj1 (Go.bits .andNot .u64 (a0 : Int) 9223372036854775808)).bind fun bt452 => (r_Digits.l0 kj1 (((a0 : Int) / 9223372036854775808) == 1) (Go.bits .andNot .u64 (a0 : Int) 9223372036854775808) bt452.1 bt452.2 ([] : List Int) 1)) = some (r1, r2, r3) := by rw [if_neg (show ¬ (false = true) by decide)] at H; exact H
   clear H
   have H := H1
   clear H1
   replace H := bm H
   obtain ⟨⟨t452, t453⟩, A50, H⟩ := H
   replace H : (r_Digits.l0 kj1 (((a0 : Int) / 9223372036854775808) == 1) (Go.bits .andNot .u64 (a0 : Int) 9223372036854775808) t452 t453 ([] : List Int) 1) = some (r1, r2, r3) := H
   have A5 := am A50
   clear A50
   have H' := am H
   clear H
   go_wp2_with (first | (refine gL (some 36) Tryd.func55 #[.int .u64 (Go.bits .andNot .u64 (a0 : Int) 9223372036854775808)] ?_; (with_reducible refine (r_expansion.calls kj1 (Go.bits .andNot .u64 (a0 : Int) 9223372036854775808) t452 t453 _ A5.out).mono ?_); rintro e w6 ⟨v454, rfl, ho0, hb⟩; refine ⟨_, rfl, ?_⟩; have HO455 := am (Kd.R_lower ho0 (below_size (lk HB))); replace HB := lb HB hb))
   go_loopg [10, 11] kj1 (fun kq v10 v11 w' => ∃ (x10_2 : List Int) (x11_2 : Int), v11 = .int .i64 x11_2 ∧ Aside0 (r_Digits.l0 kq (((a0 : Int) / 9223372036854775808) == 1) (Go.bits .andNot .u64 (a0 : Int) 9223372036854775808) t452 t453 x10_2 x11_2 = some (r1, r2, r3)) ∧ Aside0 (kq ≤ kj1) ∧ Aside0 (Kd.R (Kd.int .i64) 3 w' w.heap.size (fun k_ => some k_ ≠ (v10 : Value).ownBlock) v454 t452) ∧ Aside0 (Kd.R (Kd.int .i64) 3 w' w.heap.size (fun k_ => some k_ ≠ (v454 : Value).ownBlock) v10 x10_2) ∧ Aside0 (Below w.heap.size w w'))
   case atStart => exact ⟨(([] : List Int)), (1), eqd, H', ⟨Nat.le_refl _⟩, ⟨by exact ry <| Kd.R_mono HO455.out (fun _ hk => (by simp [Value.ownBlock]))⟩, ⟨by first | exact Kd.R_nil _ _ _ _ _ | exact Kd.N_nil _ _ _ _ _ | exact Kd.V_nil _ _ _ _ _ | exact Kd.Q_nil _ _ _ _ _ | exact Kd.S_nil _ _ _ _ _⟩, ⟨lk HB⟩⟩
   case round =>
    clear H'
    obtain ⟨x10_2, x11_2, rfl, HA, HK2, HO_8, HO_10, HB⟩ := hrel
    cases gk with
    | zero => exact absurd HA.out (by simp [r_Digits.l0])
    | succ k2 =>
     have H := HA.out
     clear HA
     simp only [r_Digits.l0] at H
     by_cases c7 : x11_2 ≤ (t452.length : Int)
     ·
      rw [if_pos c7] at H
      have c7b0 := dt c7
      clear c7
      obtain ⟨ji8, hji8⟩ : ∃ j_ : Int, (wrap64 (x11_2 - 1)) = j_ := ⟨_, rfl⟩
      replace H : (if 0 ≤ (ji8) then (if (ji8) < (t452.length : Int) then ((r_times.f k2 x10_2 10 (rd t452 (ji8))).bind fun t457 => ((r_plus.f k2 t457).bind fun t460 => ((r_reads.f k2 (Go.bits .andNot .u64 (a0 : Int) 9223372036854775808) t457 (wrap64 (t453 - x11_2))).bind fun t465 => ((r_reads.f k2 (Go.bits .andNot .u64 (a0 : Int) 9223372036854775808) t460 (wrap64 (t453 - x11_2))).bind fun t466 => (if t465 = true then (r_Digits.j2 k2 (((a0 : Int) / 9223372036854775808) == 1) (Go.bits .andNot .u64 (a0 : Int) 9223372036854775808) t452 t453 t457 x11_2 t465 t466 false t457 (wrap64 (t453 - x11_2)) t460 (wrap64 (t453 - x11_2))) else (r_Digits.j2 k2 (((a0 : Int) / 9223372036854775808) == 1) (Go.bits .andNot .u64 (a0 : Int) 9223372036854775808) t452 t453 t457 x11_2 t465 t466 (!t466) t457 (wrap64 (t453 - x11_2)) t460 (wrap64 (t453 - x11_2)))))))) else (none)) else (none)) = some (r1, r2, r3) := by first | (rw [hji8] at H; exact H) | (simp only [hji8] at H ⊢; exact H)
      have hji8w : (IntKind.i64.wrap (x11_2 - 1)) = ji8 := (i64_w _).trans hji8
      by_cases c9 : 0 ≤ (ji8)
      ·
       rw [if_pos c9] at H
       have c9b0 := dt c9
       clear c9
       by_cases c10 : (ji8) < (t452.length : Int)
       ·
        rw [if_pos c10] at H
        have c10b0 := dt c10
        clear c10
        replace H := bm H
        obtain ⟨t457, A110, H⟩ := H
        replace H : ((r_plus.f k2 t457).bind fun t460 => ((r_reads.f k2 (Go.bits .andNot .u64 (a0 : Int) 9223372036854775808) t457 (wrap64 (t453 - x11_2))).bind fun t465 => ((r_reads.f k2 (Go.bits .andNot .u64 (a0 : Int) 9223372036854775808) t460 (wrap64 (t453 - x11_2))).bind fun t466 => (if t465 = true then (r_Digits.j2 k2 (((a0 : Int) / 9223372036854775808) == 1) (Go.bits .andNot .u64 (a0 : Int) 9223372036854775808) t452 t453 t457 x11_2 t465 t466 false t457 (wrap64 (t453 - x11_2)) t460 (wrap64 (t453 - x11_2))) else (r_Digits.j2 k2 (((a0 : Int) / 9223372036854775808) == 1) (Go.bits .andNot .u64 (a0 : Int) 9223372036854775808) t452 t453 t457 x11_2 t465 t466 (!t466) t457 (wrap64 (t453 - x11_2)) t460 (wrap64 (t453 - x11_2))))))) = some (r1, r2, r3) := H
        have A11 := am A110
        clear A110
        replace H := bm H
        obtain ⟨t460, A120, H⟩ := H
        replace H : ((r_reads.f k2 (Go.bits .andNot .u64 (a0 : Int) 9223372036854775808) t457 (wrap64 (t453 - x11_2))).bind fun t465 => ((r_reads.f k2 (Go.bits .andNot .u64 (a0 : Int) 9223372036854775808) t460 (wrap64 (t453 - x11_2))).bind fun t466 => (if t465 = true then (r_Digits.j2 k2 (((a0 : Int) / 9223372036854775808) == 1) (Go.bits .andNot .u64 (a0 : Int) 9223372036854775808) t452 t453 t457 x11_2 t465 t466 false t457 (wrap64 (t453 - x11_2)) t460 (wrap64 (t453 - x11_2))) else (r_Digits.j2 k2 (((a0 : Int) / 9223372036854775808) == 1) (Go.bits .andNot .u64 (a0 : Int) 9223372036854775808) t452 t453 t457 x11_2 t465 t466 (!t466) t457 (wrap64 (t453 - x11_2)) t460 (wrap64 (t453 - x11_2)))))) = some (r1, r2, r3) := H
        have A12 := am A120
        clear A120
        replace H := bm H
        obtain ⟨t465, A130, H⟩ := H
        replace H : ((r_reads.f k2 (Go.bits .andNot .u64 (a0 : Int) 9223372036854775808) t460 (wrap64 (t453 - x11_2))).bind fun t466 => (if t465 = true then (r_Digits.j2 k2 (((a0 : Int) / 9223372036854775808) == 1) (Go.bits .andNot .u64 (a0 : Int) 9223372036854775808) t452 t453 t457 x11_2 t465 t466 false t457 (wrap64 (t453 - x11_2)) t460 (wrap64 (t453 - x11_2))) else (r_Digits.j2 k2 (((a0 : Int) / 9223372036854775808) == 1) (Go.bits .andNot .u64 (a0 : Int) 9223372036854775808) t452 t453 t457 x11_2 t465 t466 (!t466) t457 (wrap64 (t453 - x11_2)) t460 (wrap64 (t453 - x11_2))))) = some (r1, r2, r3) := H
        have A13 := am A130
        clear A130
        replace H := bm H
        obtain ⟨t466, A140, H⟩ := H
        replace H : (if t465 = true then (r_Digits.j2 k2 (((a0 : Int) / 9223372036854775808) == 1) (Go.bits .andNot .u64 (a0 : Int) 9223372036854775808) t452 t453 t457 x11_2 t465 t466 false t457 (wrap64 (t453 - x11_2)) t460 (wrap64 (t453 - x11_2))) else (r_Digits.j2 k2 (((a0 : Int) / 9223372036854775808) == 1) (Go.bits .andNot .u64 (a0 : Int) 9223372036854775808) t452 t453 t457 x11_2 t465 t466 (!t466) t457 (wrap64 (t453 - x11_2)) t460 (wrap64 (t453 - x11_2)))) = some (r1, r2, r3) := H
        have A14 := am A140
        clear A140
        have HC15 := am H
        clear H
        obtain ⟨Ao16, co16, eo16⟩ := Kd.R_slice HO_8.out
        subst eo16
        have p456 : 0 ≤ ((ji8) : Int) := od
        have q456 : (ji8) < (t452.length : Int) := od
        obtain ⟨ad456, e456, hx456_0⟩ := Kd.at_int (Kd.R_reads' HO_8.out).2.2 (ji8) p456 q456
        cases e456
        replace p456 := eq_true p456
        replace q456 := eq_true q456
        obtain ⟨Ao17, co17, eo17⟩ := Kd.R_slice HO_10.out
        subst eo17
        try go_wp2_with (first | ((with_reducible refine gate_callee (f := 56) rfl ?_); refine goesL_ (some 51) rfl rfl Tryd.func56 (by kernel_rfl) rfl #[.slice Ao17 x10_2.length co17, .int .i64 10, .int .i64 (rd t452 (ji8))] rfl (by (try simp only [List.map_toArray, List.map_cons, List.map_nil]); first | done | (simp only [hji8]; rfl) | rfl | (simp only [List.length_drop, List.length_take]; rfl)) ?_; (with_reducible refine (r_times.calls k2 _ _ x10_2 10 (rd t452 (ji8)) t457 _ ?side1 ?side2 A11.out).mono ?_); (case side1 => exact ck (Kd.R_reads' HO_10.out).2.2); (case side2 => exact (Kd.R_reads' HO_10.out).2.1); rintro e w18 ⟨v458, rfl, ho0, hb⟩; refine ⟨_, rfl, ?_⟩; have HO459 := am (Kd.R_lower (Kd.R_new' (Kd.R_new' ho0 (Kd.R_lt (rk HO_8))) (Kd.R_lt (rk HO_10))) (below_size (lk HB))); replace HO_8 := am (Kd.R_elder' (rk HO_8) (Kd.R_base ho0) hb); replace HO_10 := am (Kd.R_elder' (rk HO_10) (Kd.R_base ho0) hb); replace HB := lb HB hb; obtain ⟨Ao19, co19, eo19⟩ := Kd.R_slice HO459.out; subst eo19) | (refine gL (some 58) Tryd.func57 #[.slice Ao19 t457.length co19] ?_; (with_reducible refine (r_plus.calls k2 _ _ t457 t460 _ ?side1 ?side2 A12.out).mono ?_); (case side1 => exact ck (Kd.R_reads' HO459.out).2.2); (case side2 => exact (Kd.R_reads' HO459.out).2.1); rintro e w20 ⟨v461, rfl, ho0, hb⟩; refine ⟨_, rfl, ?_⟩; have HO462 := am (Kd.R_lower (Kd.R_new' (Kd.R_new' (Kd.R_new' ho0 (Kd.R_lt (rk HO_8))) (Kd.R_lt (rk HO_10))) (Kd.R_lt (rk HO459))) (below_size (lk HB))); replace HO_8 := am (Kd.R_elder' (rk HO_8) (Kd.R_base ho0) hb); replace HO_10 := am (Kd.R_elder' (rk HO_10) (Kd.R_base ho0) hb); replace HO459 := am (Kd.R_elder' (rk HO459) (Kd.R_base ho0) hb); replace HB := lb HB hb; obtain ⟨Ao21, co21, eo21⟩ := Kd.R_slice HO462.out; subst eo21) | ((with_reducible refine gate_dst (N := 12) rfl ?_); (try (refine gate_guard (by rfl) ?_; dsimp only)); refine box_event ?hg (N := 12) ?hd (cs := #[.slice none 0 0, .int .i64 0]) (t := 72) ?hr ?_; (case hd => rfl); (case hg => rfl); (case hr => first | (go_simp; done) | (go_simp; rfl)); intro gb463 hg w22 hbox hb; replace HO_8 := am (Kd.R_below (rk HO_8) hb); replace HO_10 := am (Kd.R_below (rk HO_10) hb); replace HO459 := am (Kd.R_below (rk HO459) hb); replace HO462 := am (Kd.R_below (rk HO462) hb); have BK463 := am (hbox); have GW463 := am ((by rw [hg]; exact (below_size (lk HB)) : w.heap.size ≤ gb463)); have GE463 := GW463; replace HB := lb HB hb; clear hb hbox hg) | ((with_reducible refine gate_dst (N := 13) rfl ?_); (try (refine gate_guard (by rfl) ?_; dsimp only)); refine box_event ?hg (N := 13) ?hd (cs := #[.slice none 0 0, .int .i64 0]) (t := 72) ?hr ?_; (case hd => rfl); (case hg => rfl); (case hr => first | (go_simp; done) | (go_simp; rfl)); intro gb464 hg w23 hbox hb; replace HO_8 := am (Kd.R_below (rk HO_8) hb); replace HO_10 := am (Kd.R_below (rk HO_10) hb); replace HO459 := am (Kd.R_below (rk HO459) hb); replace HO462 := am (Kd.R_below (rk HO462) hb); have BK464 := am (hbox); have GW464 := am ((by rw [hg]; exact (below_size (lk HB)) : w.heap.size ≤ gb464)); have GE464 := GW464; replace HB := lb HB hb; have NB463_464 := am ((by rw [hg]; exact Nat.ne_of_lt (blk_lt (bk BK463)) : gb463 ≠ gb464)); have NB464_463 := am ((by rw [hg]; exact Nat.ne_of_gt (blk_lt (bk BK463)) : gb464 ≠ gb463)); replace BK463 := bb BK463 hb; clear hb hbox hg; have hnb24 := NB463_464.out; have hnc24 := NB464_463.out; have hcz25_0 : w23.cell? ⟨gb463, 0, none⟩ = some (.slice none 0 0) := (blk_cell BK463.out 0).trans rfl; have hcz25_1 : w23.cell? ⟨gb463, 1, none⟩ = some (.int .i64 0) := (blk_cell BK463.out 1).trans rfl; have hfz25_0 := blk_frozen BK463.out 0; have hfz25_1 := blk_frozen BK463.out 1; have hcz26_0 : w23.cell? ⟨gb464, 0, none⟩ = some (.slice none 0 0) := (blk_cell BK464.out 0).trans rfl; have hcz26_1 : w23.cell? ⟨gb464, 1, none⟩ = some (.int .i64 0) := (blk_cell BK464.out 1).trans rfl; have hfz26_0 := blk_frozen BK464.out 0; have hfz26_1 := blk_frozen BK464.out 1))
        (first | refine Hd.letter_ (fun w27 hw => ?_) | refine Hd.letterL_ (fun w27 hw => ?_) | refine Hd.letterE_ (fun w27 hw => ?_))
        have n0_ : Aside0 (Kd.R (Kd.int .i64) 3 w27 w.heap.size (fun k_ => some k_ ≠ (.slice Ao17 x10_2.length co17 : Value).ownBlock ∧ some k_ ≠ (.slice Ao19 t457.length co19 : Value).ownBlock ∧ some k_ ≠ (.slice Ao21 t460.length co21 : Value).ownBlock) (.slice (some ad456) t452.length co16) t452) := ⟨by rw [hw]; exact (by exact ry <| Kd.R_mono (Kd.R_far (p := ⟨gb464, 1, none⟩) (Kd.R_far (p := ⟨gb464, 0, none⟩) (Kd.R_far (p := ⟨gb463, 1, none⟩) (Kd.R_far (p := ⟨gb463, 0, none⟩) (Kd.R_types (Kd.R_types HO_8.out BK463.out (by decide)) BK464.out (by decide)) (fun _ hk => hk.1.2) (.slice Ao19 t457.length co19)) (fun _ hk => hk.1.2) (.int .i64 (wrap64 (t453 - x11_2)))) (fun _ hk => hk.2) (.slice Ao21 t460.length co21)) (fun _ hk => hk.2) (.int .i64 (wrap64 (t453 - x11_2)))) (fun _ hk => ⟨hk.1.1.1.1, ⟨hk.1.1.1.2, hk.1.1.2⟩⟩))⟩
        have n1_ : Aside0 (Kd.R (Kd.int .i64) 3 w27 w.heap.size (fun k_ => some k_ ≠ (.slice (some ad456) t452.length co16 : Value).ownBlock ∧ some k_ ≠ (.slice Ao19 t457.length co19 : Value).ownBlock ∧ some k_ ≠ (.slice Ao21 t460.length co21 : Value).ownBlock) (.slice Ao17 x10_2.length co17) x10_2) := ⟨by rw [hw]; exact (by exact ry <| Kd.R_mono (Kd.R_far (p := ⟨gb464, 1, none⟩) (Kd.R_far (p := ⟨gb464, 0, none⟩) (Kd.R_far (p := ⟨gb463, 1, none⟩) (Kd.R_far (p := ⟨gb463, 0, none⟩) (Kd.R_types (Kd.R_types HO_10.out BK463.out (by decide)) BK464.out (by decide)) (fun _ hk => hk.1.2) (.slice Ao19 t457.length co19)) (fun _ hk => hk.1.2) (.int .i64 (wrap64 (t453 - x11_2)))) (fun _ hk => hk.2) (.slice Ao21 t460.length co21)) (fun _ hk => hk.2) (.int .i64 (wrap64 (t453 - x11_2)))) (fun _ hk => ⟨hk.1.1.1.1, ⟨hk.1.1.1.2, hk.1.1.2⟩⟩))⟩
        have n2_ : Aside0 (Kd.R (Kd.int .i64) 3 w27 w.heap.size (fun k_ => some k_ ≠ (.slice (some ad456) t452.length co16 : Value).ownBlock ∧ some k_ ≠ (.slice Ao17 x10_2.length co17 : Value).ownBlock ∧ some k_ ≠ (.slice Ao21 t460.length co21 : Value).ownBlock) (.slice Ao19 t457.length co19) t457) := ⟨by rw [hw]; exact (by exact ry <| Kd.R_mono (Kd.R_far (p := ⟨gb464, 1, none⟩) (Kd.R_far (p := ⟨gb464, 0, none⟩) (Kd.R_far (p := ⟨gb463, 1, none⟩) (Kd.R_far (p := ⟨gb463, 0, none⟩) (Kd.R_types (Kd.R_types HO459.out BK463.out (by decide)) BK464.out (by decide)) (fun _ hk => hk.1.2) (.slice Ao19 t457.length co19)) (fun _ hk => hk.1.2) (.int .i64 (wrap64 (t453 - x11_2)))) (fun _ hk => hk.2) (.slice Ao21 t460.length co21)) (fun _ hk => hk.2) (.int .i64 (wrap64 (t453 - x11_2)))) (fun _ hk => ⟨hk.1.1.1.1.2, ⟨hk.1.1.1.2, hk.1.1.2⟩⟩))⟩
        have n3_ : Aside0 (Kd.R (Kd.int .i64) 3 w27 w.heap.size (fun k_ => some k_ ≠ (.slice (some ad456) t452.length co16 : Value).ownBlock ∧ some k_ ≠ (.slice Ao17 x10_2.length co17 : Value).ownBlock ∧ some k_ ≠ (.slice Ao19 t457.length co19 : Value).ownBlock) (.slice Ao21 t460.length co21) t460) := ⟨by rw [hw]; exact (by exact ry <| Kd.R_mono (Kd.R_far (p := ⟨gb464, 1, none⟩) (Kd.R_far (p := ⟨gb464, 0, none⟩) (Kd.R_far (p := ⟨gb463, 1, none⟩) (Kd.R_far (p := ⟨gb463, 0, none⟩) (Kd.R_types (Kd.R_types HO462.out BK463.out (by decide)) BK464.out (by decide)) (fun _ hk => hk.1.2) (.slice Ao19 t457.length co19)) (fun _ hk => hk.1.2) (.int .i64 (wrap64 (t453 - x11_2)))) (fun _ hk => hk.2) (.slice Ao21 t460.length co21)) (fun _ hk => hk.2) (.int .i64 (wrap64 (t453 - x11_2)))) (fun _ hk => ⟨hk.1.1.1.1.2, ⟨hk.1.1.1.2, hk.1.1.2⟩⟩))⟩
        have n4_ : Aside0 (w27.heap[gb463]? = some (.cells #[.slice Ao19 t457.length co19, .int .i64 (wrap64 (t453 - x11_2))] 72 (0, 0))) := ⟨by rw [hw]; exact (by refine bf NB463_464 ?_; refine bf NB463_464 ?_; (with_reducible repeat (first | refine blk_drewN ?_ _ | refine blk_drew ?_ | refine blk_alloc ?_ _)); refine blk_put (cs := #[.slice Ao19 t457.length co19, .int .i64 0]) ?_ 1 _ rfl; (with_reducible repeat (first | refine blk_drewN ?_ _ | refine blk_drew ?_ | refine blk_alloc ?_ _)); refine blk_put (cs := #[.slice none 0 0, .int .i64 0]) ?_ 0 _ rfl; exact bk BK463)⟩
        have n5_ : Aside0 (w27.heap[gb464]? = some (.cells #[.slice Ao21 t460.length co21, .int .i64 (wrap64 (t453 - x11_2))] 72 (0, 0))) := ⟨by rw [hw]; exact (by (with_reducible repeat (first | refine blk_drewN ?_ _ | refine blk_drew ?_ | refine blk_alloc ?_ _)); refine blk_put (cs := #[.slice Ao21 t460.length co21, .int .i64 0]) ?_ 1 _ rfl; (with_reducible repeat (first | refine blk_drewN ?_ _ | refine blk_drew ?_ | refine blk_alloc ?_ _)); refine blk_put (cs := #[.slice none 0 0, .int .i64 0]) ?_ 0 _ rfl; refine bf NB464_463 ?_; refine bf NB464_463 ?_; exact bk BK464)⟩
        have n6_ : Aside0 (Below w.heap.size w w27) := ⟨by rw [hw]; exact (lk HB)⟩
        clear hw
        (try clear HO_8)
        (try clear HO_10)
        (try clear HO459)
        (try clear HO462)
        (try clear BK463)
        (try clear BK464)
        (try clear HB)
        have HO_8 := n0_
        have HO_10 := n1_
        have HO459 := n2_
        have HO462 := n3_
        have BK463 := n4_
        have BK464 := n5_
        have HB := n6_
        clear n0_ n1_ n2_ n3_ n4_ n5_ n6_
        have n0_ := am (Kd.R_drew HO_8.out)
        have n1_ := am (Kd.R_drew HO_10.out)
        have n2_ := am (Kd.R_drew HO459.out)
        have n3_ := am (Kd.R_drew HO462.out)
        have n4_ := am (blk_drew BK463.out)
        have n5_ := am (blk_drew BK464.out)
        have n6_ := am (below_drew1 HB.out)
        clear HO_8
        clear HO_10
        clear HO459
        clear HO462
        clear BK463
        clear BK464
        clear HB
        have HO_8 := n0_
        have HO_10 := n1_
        have HO459 := n2_
        have HO462 := n3_
        have BK463 := n4_
        have BK464 := n5_
        have HB := n6_
        clear n0_ n1_ n2_ n3_ n4_ n5_ n6_
        refine start_ (n := 8) (S := fun w' => w'.cell? ⟨gb463, 0, none⟩ = some (.slice Ao19 t457.length co19) ∧ w'.cell? ⟨gb463, 1, none⟩ = some (.int .i64 (wrap64 (t453 - x11_2))) ∧ w'.cell? ⟨gb464, 0, none⟩ = some (.slice Ao21 t460.length co21) ∧ w'.cell? ⟨gb464, 1, none⟩ = some (.int .i64 (wrap64 (t453 - x11_2)))) (ds := []) #[false, false, false, false, false, false, false, false] (by kernel_rfl) rfl rfl ⟨(blk_cell BK463.out 0).trans rfl, (blk_cell BK463.out 1).trans rfl, (blk_cell BK464.out 0).trans rfl, (blk_cell BK464.out 1).trans rfl⟩ (fun hHeld => ?_); refine with_tabW r_Digits.tab13 r_Digits.bits13 (fun HT_ HW_ => ?_)
        generalize w27.drew = w28 at HO_8 HO_10 HO459 HO462 BK463 BK464 HB hHeld ⊢
        refine pure_ (i := 0) (N := some 63) (v := ?_) (a' := ?_) #[true, false, false, false, false, false, false, false] rfl rfl (any_of HT_.out (by kernel_rfl)) (fun _ _ _ h => h) (Or.inl ⟨by rfl, ?_⟩) ?_ ?_
        rotate_left
        ·
         intro w'
         go_simp
         with_reducible rfl
        rotate_left
        ·
         exact pz
        refine pure_ (i := 3) (N := some 66) (v := ?_) (a' := ?_) #[true, false, false, true, false, false, false, false] rfl rfl (any_of HT_.out (by kernel_rfl)) (fun _ _ _ h => h) (Or.inl ⟨by rfl, ?_⟩) ?_ ?_
        rotate_left
        ·
         intro w'
         go_simp
         with_reducible rfl
        rotate_left
        ·
         exact pz
        refine take_ (i := 1) (N := some 64) (v := ?_) (a' := ?_) #[true, true, false, true, false, false, false, false] rfl rfl (take_ofW HT_.out HW_.out (by kernel_rfl)) (fun _ _ _ h => h) (Or.inl ⟨by rfl, ?_⟩) hHeld ?_ ?_
        rotate_left
        ·
         rintro w' ⟨s0, s1, s2, s3⟩
         go_simp
         with_reducible rfl
        rotate_left
        ·
         exact pz
        refine take_ (i := 4) (N := some 67) (v := ?_) (a' := ?_) #[true, true, false, true, true, false, false, false] rfl rfl (take_ofW HT_.out HW_.out (by kernel_rfl)) (fun _ _ _ h => h) (Or.inl ⟨by rfl, ?_⟩) hHeld ?_ ?_
        rotate_left
        ·
         rintro w' ⟨s0, s1, s2, s3⟩
         go_simp
         with_reducible rfl
        rotate_left
        ·
         exact pz
        refine one_ (i := 2) (N := some 65) #[true, true, true, true, true, false, false, false] rfl rfl (one_of HT_.out (by kernel_rfl)) (by decide) (fun K hK => ?_)
        refine goes_ Tryd.func58 (by kernel_rfl) rfl #[.int .u64 (Go.bits .andNot .u64 (a0 : Int) 9223372036854775808), .agg #[.slice Ao19 t457.length co19, .int .i64 (wrap64 (t453 - x11_2))]] (by rfl) rfl rfl (by (try simp only [List.map_toArray, List.map_cons, List.map_nil]); first | done | rfl | (simp only [List.length_drop, List.length_take]; rfl) | (simp [Act.eval, Hd.wrap_u8]; done)) ?_
        with_reducible refine (r_reads.calls k2 (Go.bits .andNot .u64 (a0 : Int) 9223372036854775808) _ _ t457 (wrap64 (t453 - x11_2)) t465 _ ?side1 ?side2 A13.out).mono ?_
        (case side1 => exact ck (Kd.R_reads' HO459.out).2.2)
        (case side2 => exact (Kd.R_reads' HO459.out).2.1)
        rintro e w29 ⟨rfl, hb⟩
        refine ⟨_, rfl, ?_⟩
        have n0_ := am (Kd.R_below (rk HO_8) hb)
        have n1_ := am (Kd.R_below (rk HO_10) hb)
        have n2_ := am (Kd.R_below (rk HO459) hb)
        have n3_ := am (Kd.R_below (rk HO462) hb)
        have n4_ := bb BK463 hb
        have n5_ := bb BK464 hb
        have n6_ := lb HB hb
        clear HO_8
        clear HO_10
        clear HO459
        clear HO462
        clear BK463
        clear BK464
        clear HB
        have HO_8 := n0_
        have HO_10 := n1_
        have HO459 := n2_
        have HO462 := n3_
        have BK463 := n4_
        have BK464 := n5_
        have HB := n6_
        clear n0_ n1_ n2_ n3_ n4_ n5_ n6_
        (try clear hb)
        (try clear hb2)
        (try clear hk)
        (try clear hi)
        refine hK.out _ _ ⟨(blk_cell BK463.out 0).trans rfl, (blk_cell BK463.out 1).trans rfl, (blk_cell BK464.out 0).trans rfl, (blk_cell BK464.out 1).trans rfl⟩ (fun hHeld => ?_)
        clear hK K
        refine norm_ (a' := ?_) ?_ ?_
        rotate_left
        ·
         show Act.put _ (some 65) _ = _
         exact pz
        refine one_ (i := 5) (N := some 68) #[true, true, true, true, true, true, false, false] rfl rfl (one_of HT_.out (by kernel_rfl)) (by decide) (fun K hK => ?_)
        refine goes_ Tryd.func58 (by kernel_rfl) rfl #[.int .u64 (Go.bits .andNot .u64 (a0 : Int) 9223372036854775808), .agg #[.slice Ao21 t460.length co21, .int .i64 (wrap64 (t453 - x11_2))]] (by rfl) rfl rfl (by (try simp only [List.map_toArray, List.map_cons, List.map_nil]); first | done | rfl | (simp only [List.length_drop, List.length_take]; rfl) | (simp [Act.eval, Hd.wrap_u8]; done)) ?_
        with_reducible refine (r_reads.calls k2 (Go.bits .andNot .u64 (a0 : Int) 9223372036854775808) _ _ t460 (wrap64 (t453 - x11_2)) t466 _ ?side1 ?side2 A14.out).mono ?_
        (case side1 => exact ck (Kd.R_reads' HO462.out).2.2)
        (case side2 => exact (Kd.R_reads' HO462.out).2.1)
        rintro e w30 ⟨rfl, hb⟩
        refine ⟨_, rfl, ?_⟩
        have n0_ := am (Kd.R_below (rk HO_8) hb)
        have n1_ := am (Kd.R_below (rk HO_10) hb)
        have n2_ := am (Kd.R_below (rk HO459) hb)
        have n3_ := am (Kd.R_below (rk HO462) hb)
        have n4_ := bb BK463 hb
        have n5_ := bb BK464 hb
        have n6_ := lb HB hb
        clear HO_8
        clear HO_10
        clear HO459
        clear HO462
        clear BK463
        clear BK464
        clear HB
        have HO_8 := n0_
        have HO_10 := n1_
        have HO459 := n2_
        have HO462 := n3_
        have BK463 := n4_
        have BK464 := n5_
        have HB := n6_
        clear n0_ n1_ n2_ n3_ n4_ n5_ n6_
        (try clear hb)
        (try clear hb2)
        (try clear hk)
        (try clear hi)
        refine hK.out _ _ ⟨(blk_cell BK463.out 0).trans rfl, (blk_cell BK463.out 1).trans rfl, (blk_cell BK464.out 0).trans rfl, (blk_cell BK464.out 1).trans rfl⟩ (fun hHeld => ?_)
        clear hK K
        refine norm_ (a' := ?_) ?_ ?_
        rotate_left
        ·
         show Act.put _ (some 68) _ = _
         exact pz
        refine pure_ (i := 6) (N := some 14) (v := ?_) (a' := ?_) #[true, true, true, true, true, true, true, false] rfl rfl (any_of HT_.out (by kernel_rfl)) (fun _ _ _ h => h) (Or.inl ⟨by rfl, ?_⟩) ?_ ?_
        rotate_left
        ·
         intro w'
         go_simp
         with_reducible rfl
        rotate_left
        ·
         exact pz
        refine pure_ (i := 7) (N := some 15) (v := ?_) (a' := ?_) #[true, true, true, true, true, true, true, true] rfl rfl (any_of HT_.out (by kernel_rfl)) (fun _ _ _ h => h) (Or.inl ⟨by rfl, ?_⟩) ?_ ?_
        rotate_left
        ·
         intro w'
         go_simp
         with_reducible rfl
        rotate_left
        ·
         exact pz
        refine done_ (done_of HT_.out (by kernel_rfl)) ?_
        go_upto_region 14 with (fail)
        go_cut [74] (fun v74 wc => ∃ (kq : Nat) (x74_14 : Bool), v74 = .bool x74_14 ∧ Aside0 (r_Digits.j2 kq (((a0 : Int) / 9223372036854775808) == 1) (Go.bits .andNot .u64 (a0 : Int) 9223372036854775808) t452 t453 t457 x11_2 t465 t466 x74_14 t457 (wrap64 (t453 - x11_2)) t460 (wrap64 (t453 - x11_2)) = some (r1, r2, r3)) ∧ Aside0 (kq ≤ k2) ∧ Aside0 (Kd.R (Kd.int .i64) 3 wc w.heap.size (fun k_ => some k_ ≠ ((.slice Ao19 t457.length co19) : Value).ownBlock ∧ some k_ ≠ ((.slice Ao19 t457.length co19) : Value).ownBlock ∧ some k_ ≠ ((.slice Ao21 t460.length co21) : Value).ownBlock) (.slice (some ad456) t452.length co16) t452) ∧ Aside0 (Kd.R (Kd.int .i64) 3 wc w.heap.size (fun k_ => some k_ ≠ ((.slice (some ad456) t452.length co16) : Value).ownBlock ∧ some k_ ≠ ((.slice Ao21 t460.length co21) : Value).ownBlock) (.slice Ao19 t457.length co19) t457) ∧ Aside0 (Kd.R (Kd.int .i64) 3 wc w.heap.size (fun k_ => some k_ ≠ ((.slice (some ad456) t452.length co16) : Value).ownBlock ∧ some k_ ≠ ((.slice Ao21 t460.length co21) : Value).ownBlock) (.slice Ao19 t457.length co19) t457) ∧ Aside0 (Kd.R (Kd.int .i64) 3 wc w.heap.size (fun k_ => some k_ ≠ ((.slice (some ad456) t452.length co16) : Value).ownBlock ∧ some k_ ≠ ((.slice Ao19 t457.length co19) : Value).ownBlock ∧ some k_ ≠ ((.slice Ao19 t457.length co19) : Value).ownBlock) (.slice Ao21 t460.length co21) t460) ∧ Aside0 (wc.heap[gb463]? = some (.cells #[(.slice Ao19 t457.length co19), .int .i64 (wrap64 (t453 - x11_2))] 72 (0, 0))) ∧ Aside0 (wc.heap[gb464]? = some (.cells #[(.slice Ao21 t460.length co21), .int .i64 (wrap64 (t453 - x11_2))] 72 (0, 0))) ∧ Aside0 (Below w.heap.size w wc))
        case first =>
         have H := HC15.out
         clear HC15
         by_cases c31 : t465 = true
         ·
          subst c31
          have H1 : (r_Digits.j2 k2 (((a0 : Int) / 9223372036854775808) == 1) (Go.bits .andNot .u64 (a0 : Int) 9223372036854775808) t452 t453 t457 x11_2 true t466 false t457 (wrap64 (t453 - x11_2)) t460 (wrap64 (t453 - x11_2))) = some (r1, r2, r3) := by rw [if_pos rfl] at H; exact H
          clear H
          have H := H1
          clear H1
          have H' := am H
          clear H
          go_wp2
          go_meet
          case rel => exact ⟨_, (false), eqd, H', ⟨by have := HJ1.out; have := HK2.out; first | omega | exact Nat.le_refl _⟩, ⟨by exact ry <| Kd.R_mono HO_8.out (fun _ hk => ⟨hk.2.1, ⟨hk.2.1, hk.2.2⟩⟩)⟩, ⟨by exact ry <| Kd.R_mono HO459.out (fun _ hk => ⟨hk.1, hk.2.2⟩)⟩, ⟨by exact ry <| Kd.R_mono HO459.out (fun _ hk => ⟨hk.1, hk.2.2⟩)⟩, ⟨by exact ry <| Kd.R_mono HO462.out (fun _ hk => ⟨hk.1, ⟨hk.2.2, hk.2.2⟩⟩)⟩, ⟨bk BK463⟩, ⟨bk BK464⟩, ⟨lk HB⟩⟩
         replace c31 := Bool.eq_false_iff.mpr c31
         subst c31
         have H1 : (r_Digits.j2 k2 (((a0 : Int) / 9223372036854775808) == 1) (Go.bits .andNot .u64 (a0 : Int) 9223372036854775808) t452 t453 t457 x11_2 false t466 (!t466) t457 (wrap64 (t453 - x11_2)) t460 (wrap64 (t453 - x11_2))) = some (r1, r2, r3) := by rw [if_neg (show ¬ (false = true) by decide)] at H; exact H
         clear H
         have H := H1
         clear H1
         have H' := am H
         clear H
         go_wp2
         go_meet
         case rel => exact ⟨_, (!t466), eqd, H', ⟨by have := HJ1.out; have := HK2.out; first | omega | exact Nat.le_refl _⟩, ⟨by exact ry <| Kd.R_mono HO_8.out (fun _ hk => ⟨hk.2.1, ⟨hk.2.1, hk.2.2⟩⟩)⟩, ⟨by exact ry <| Kd.R_mono HO459.out (fun _ hk => ⟨hk.1, hk.2.2⟩)⟩, ⟨by exact ry <| Kd.R_mono HO459.out (fun _ hk => ⟨hk.1, hk.2.2⟩)⟩, ⟨by exact ry <| Kd.R_mono HO462.out (fun _ hk => ⟨hk.1, ⟨hk.2.2, hk.2.2⟩⟩)⟩, ⟨bk BK463⟩, ⟨bk BK464⟩, ⟨lk HB⟩⟩
        case rest =>
         clear HC15
         obtain ⟨kq, x74_14, rfl, HA, HJ14, HO_8, HO_10, HO_464q0, HO_465q0, BK463, BK464, HB⟩ := hcut
         cases kq with
         | zero => exact absurd HA.out (by simp [r_Digits.j2])
         | succ kj14 =>
          have H := HA.out
          clear HA
          simp only [r_Digits.j2] at H
          by_cases c32 : x74_14 = true
          ·
           subst c32
           have H1 : (r_Digits.l0 kj14 (((a0 : Int) / 9223372036854775808) == 1) (Go.bits .andNot .u64 (a0 : Int) 9223372036854775808) t452 t453 t457 (wrap64 (x11_2 + 1))) = some (r1, r2, r3) := by rw [if_pos rfl] at H; exact H
           clear H
           have H := H1
           clear H1
           have H' := am H
           clear H
           go_wp2
           go_roundg kj14
           case measure => have := HJ1.out; have := HK2.out; have := HJ14.out; omega
           case rel => exact ⟨(t457), (wrap64 (x11_2 + 1)), eqd, H', ⟨by have := HJ1.out; have := HK2.out; have := HJ14.out; omega⟩, ⟨by exact ry <| Kd.R_mono HO_8.out (fun _ hk => hk.1)⟩, ⟨by exact ry <| Kd.R_mono HO_10.out (fun _ hk => hk.1)⟩, ⟨lk HB⟩⟩
          replace c32 := Bool.eq_false_iff.mpr c32
          subst c32
          have H1 : ((r_nearer.f kj14 (Go.bits .andNot .u64 (a0 : Int) 9223372036854775808) t457 (wrap64 (t453 - x11_2)) t460 (wrap64 (t453 - x11_2))).bind fun t468 => (if t465 = true then (if t466 = true then (if t468 > 0 then (r_Digits.j3 kj14 (((a0 : Int) / 9223372036854775808) == 1) t453 x11_2 true t460 (wrap64 (t453 - x11_2)) t457 (wrap64 (t453 - x11_2))) else (if t468 = 0 then (if 0 < (t457.length : Int) then (r_Digits.j3 kj14 (((a0 : Int) / 9223372036854775808) == 1) t453 x11_2 ((Int.tmod (rd t457 0) 2) == 1) t460 (wrap64 (t453 - x11_2)) t457 (wrap64 (t453 - x11_2))) else (none)) else (r_Digits.j3 kj14 (((a0 : Int) / 9223372036854775808) == 1) t453 x11_2 false t460 (wrap64 (t453 - x11_2)) t457 (wrap64 (t453 - x11_2))))) else (r_Digits.j3 kj14 (((a0 : Int) / 9223372036854775808) == 1) t453 x11_2 false t460 (wrap64 (t453 - x11_2)) t457 (wrap64 (t453 - x11_2)))) else (r_Digits.j3 kj14 (((a0 : Int) / 9223372036854775808) == 1) t453 x11_2 true t460 (wrap64 (t453 - x11_2)) t457 (wrap64 (t453 - x11_2))))) = some (r1, r2, r3) := by rw [if_neg (show ¬ (false = true) by decide)] at H; exact H
          clear H
          have H := H1
          clear H1
          replace H := bm H
          obtain ⟨t468, A330, H⟩ := H
          replace H : (if t465 = true then (if t466 = true then (if t468 > 0 then (r_Digits.j3 kj14 (((a0 : Int) / 9223372036854775808) == 1) t453 x11_2 true t460 (wrap64 (t453 - x11_2)) t457 (wrap64 (t453 - x11_2))) else (if t468 = 0 then (if 0 < (t457.length : Int) then (r_Digits.j3 kj14 (((a0 : Int) / 9223372036854775808) == 1) t453 x11_2 ((Int.tmod (rd t457 0) 2) == 1) t460 (wrap64 (t453 - x11_2)) t457 (wrap64 (t453 - x11_2))) else (none)) else (r_Digits.j3 kj14 (((a0 : Int) / 9223372036854775808) == 1) t453 x11_2 false t460 (wrap64 (t453 - x11_2)) t457 (wrap64 (t453 - x11_2))))) else (r_Digits.j3 kj14 (((a0 : Int) / 9223372036854775808) == 1) t453 x11_2 false t460 (wrap64 (t453 - x11_2)) t457 (wrap64 (t453 - x11_2)))) else (r_Digits.j3 kj14 (((a0 : Int) / 9223372036854775808) == 1) t453 x11_2 true t460 (wrap64 (t453 - x11_2)) t457 (wrap64 (t453 - x11_2)))) = some (r1, r2, r3) := H
          have A33 := am A330
          clear A330
          have HC34 := am H
          clear H
          have hnb35 := NB463_464.out
          have hnc35 := NB464_463.out
          have hcz36_0 : wc.cell? ⟨gb463, 0, none⟩ = some (.slice Ao19 t457.length co19) := (blk_cell BK463.out 0).trans rfl
          have hcz36_1 : wc.cell? ⟨gb463, 1, none⟩ = some (.int .i64 (wrap64 (t453 - x11_2))) := (blk_cell BK463.out 1).trans rfl
          have hfz36_0 := blk_frozen BK463.out 0
          have hfz36_1 := blk_frozen BK463.out 1
          go_upto_region 17 with (first | ((with_reducible refine gate_dst (N := 16) rfl ?_); (try (refine gate_guard (by rfl) ?_; dsimp only)); refine box_event ?hg (N := 16) ?hd (cs := #[.slice none 0 0, .int .i64 0]) (t := 72) ?hr ?_; (case hd => rfl); (case hg => rfl); (case hr => first | (go_simp; done) | (go_simp; rfl)); intro gb467 hg w37 hbox hb; replace HO_8 := am (Kd.R_below (rk HO_8) hb); replace HO_10 := am (Kd.R_below (rk HO_10) hb); replace HO_464q0 := am (Kd.R_below (rk HO_464q0) hb); replace HO_465q0 := am (Kd.R_below (rk HO_465q0) hb); have BK467 := am (hbox); have GW467 := am ((by rw [hg]; exact (below_size (lk HB)) : w.heap.size ≤ gb467)); have GE467 := GW467; replace HB := lb HB hb; have NB463_467 := am ((by rw [hg]; exact Nat.ne_of_lt (blk_lt (bk BK463)) : gb463 ≠ gb467)); have NB467_463 := am ((by rw [hg]; exact Nat.ne_of_gt (blk_lt (bk BK463)) : gb467 ≠ gb463)); replace BK463 := bb BK463 hb; have NB464_467 := am ((by rw [hg]; exact Nat.ne_of_lt (blk_lt (bk BK464)) : gb464 ≠ gb467)); have NB467_464 := am ((by rw [hg]; exact Nat.ne_of_gt (blk_lt (bk BK464)) : gb467 ≠ gb464)); replace BK464 := bb BK464 hb; clear hb hbox hg; have hnb38 := NB467_463.out; have hnc38 := NB463_467.out; have hnb39 := NB467_464.out; have hnc39 := NB464_467.out; have hcz40_0 : w37.cell? ⟨gb467, 0, none⟩ = some (.slice none 0 0) := (blk_cell BK467.out 0).trans rfl; have hcz40_1 : w37.cell? ⟨gb467, 1, none⟩ = some (.int .i64 0) := (blk_cell BK467.out 1).trans rfl; have hfz40_0 := blk_frozen BK467.out 0; have hfz40_1 := blk_frozen BK467.out 1; have hcz41_0 : w37.cell? ⟨gb463, 0, none⟩ = some (.slice Ao19 t457.length co19) := (blk_cell BK463.out 0).trans rfl; have hcz41_1 : w37.cell? ⟨gb463, 1, none⟩ = some (.int .i64 (wrap64 (t453 - x11_2))) := (blk_cell BK463.out 1).trans rfl; have hfz41_0 := blk_frozen BK463.out 0; have hfz41_1 := blk_frozen BK463.out 1; have hcz42_0 : w37.cell? ⟨gb464, 0, none⟩ = some (.slice Ao21 t460.length co21) := (blk_cell BK464.out 0).trans rfl; have hcz42_1 : w37.cell? ⟨gb464, 1, none⟩ = some (.int .i64 (wrap64 (t453 - x11_2))) := (blk_cell BK464.out 1).trans rfl; have hfz42_0 := blk_frozen BK464.out 0; have hfz42_1 := blk_frozen BK464.out 1) | (refine gL (some 79) Tryd.func59 #[.int .u64 (Go.bits .andNot .u64 (a0 : Int) 9223372036854775808), .agg #[.slice Ao19 t457.length co19, .int .i64 (wrap64 (t453 - x11_2))], .agg #[.slice Ao21 t460.length co21, .int .i64 (wrap64 (t453 - x11_2))]] ?_; (with_reducible refine (r_nearer.calls kj14 (Go.bits .andNot .u64 (a0 : Int) 9223372036854775808) _ _ t457 (wrap64 (t453 - x11_2)) _ _ t460 (wrap64 (t453 - x11_2)) t468 _ ?side1 ?side2 ?side3 ?side4 A33.out).mono ?_); (case side1 => refine (Kd.R_reads' (e := 3) (base := w.heap.size) (ok := fun k_ => (some k_ ≠ (.slice (some ad456) t452.length co16 : Value).ownBlock ∧ some k_ ≠ (.slice Ao21 t460.length co21 : Value).ownBlock)) (n := t457.length) (c := co19) ?_).2.2; exact (by (with_reducible repeat (first | apply Kd.R_alloc | apply Kd.R_drewN | apply Kd.R_drew)); exact (Kd.R_mono (Kd.R_far (p := ⟨gb467, 1, none⟩) (Kd.R_far (p := ⟨gb467, 0, none⟩) (Kd.R_types HO_464q0.out BK467.out (by decide)) (fun _ hk => hk.2) (.slice Ao19 t457.length co19)) (fun _ hk => hk.2) (.int .i64 (wrap64 (t453 - x11_2)))) (fun _ h_ => h_.1)))); (case side2 => exact (Kd.R_reads' HO_464q0.out).2.1); (case side3 => refine (Kd.R_reads' (e := 3) (base := w.heap.size) (ok := fun k_ => (some k_ ≠ (.slice (some ad456) t452.length co16 : Value).ownBlock ∧ (some k_ ≠ (.slice Ao19 t457.length co19 : Value).ownBlock ∧ some k_ ≠ (.slice Ao19 t457.length co19 : Value).ownBlock))) (n := t460.length) (c := co21) ?_).2.2; exact (by (with_reducible repeat (first | apply Kd.R_alloc | apply Kd.R_drewN | apply Kd.R_drew)); exact (Kd.R_mono (Kd.R_far (p := ⟨gb467, 1, none⟩) (Kd.R_far (p := ⟨gb467, 0, none⟩) (Kd.R_types HO_465q0.out BK467.out (by decide)) (fun _ hk => hk.2) (.slice Ao19 t457.length co19)) (fun _ hk => hk.2) (.int .i64 (wrap64 (t453 - x11_2)))) (fun _ h_ => h_.1)))); (case side4 => exact (Kd.R_reads' HO_465q0.out).2.1); rintro e w43 ⟨rfl, hb⟩; refine ⟨_, rfl, ?_⟩; have n0_ := am (Kd.R_below (by (with_reducible repeat (first | apply Kd.R_alloc | apply Kd.R_drewN | apply Kd.R_drew)); exact (Kd.R_mono (Kd.R_far (p := ⟨gb467, 1, none⟩) (Kd.R_far (p := ⟨gb467, 0, none⟩) (Kd.R_types HO_8.out BK467.out (by decide)) (fun _ hk => hk.2) (.slice Ao19 t457.length co19)) (fun _ hk => hk.2) (.int .i64 (wrap64 (t453 - x11_2)))) (fun _ h_ => h_.1))) hb); have n1_ := am (Kd.R_below (by (with_reducible repeat (first | apply Kd.R_alloc | apply Kd.R_drewN | apply Kd.R_drew)); exact (Kd.R_mono (Kd.R_far (p := ⟨gb467, 1, none⟩) (Kd.R_far (p := ⟨gb467, 0, none⟩) (Kd.R_types HO_10.out BK467.out (by decide)) (fun _ hk => hk.2) (.slice Ao19 t457.length co19)) (fun _ hk => hk.2) (.int .i64 (wrap64 (t453 - x11_2)))) (fun _ h_ => h_.1))) hb); have n2_ := am (Kd.R_below (by (with_reducible repeat (first | apply Kd.R_alloc | apply Kd.R_drewN | apply Kd.R_drew)); exact (Kd.R_mono (Kd.R_far (p := ⟨gb467, 1, none⟩) (Kd.R_far (p := ⟨gb467, 0, none⟩) (Kd.R_types HO_464q0.out BK467.out (by decide)) (fun _ hk => hk.2) (.slice Ao19 t457.length co19)) (fun _ hk => hk.2) (.int .i64 (wrap64 (t453 - x11_2)))) (fun _ h_ => h_.1))) hb); have n3_ := am (Kd.R_below (by (with_reducible repeat (first | apply Kd.R_alloc | apply Kd.R_drewN | apply Kd.R_drew)); exact (Kd.R_mono (Kd.R_far (p := ⟨gb467, 1, none⟩) (Kd.R_far (p := ⟨gb467, 0, none⟩) (Kd.R_types HO_465q0.out BK467.out (by decide)) (fun _ hk => hk.2) (.slice Ao19 t457.length co19)) (fun _ hk => hk.2) (.int .i64 (wrap64 (t453 - x11_2)))) (fun _ h_ => h_.1))) hb); have n4_ := am (blk_below (g := gb463) (o := .cells #[.slice Ao19 t457.length co19, .int .i64 (wrap64 (t453 - x11_2))] 72 (0, 0)) (by refine bf NB463_467 ?_; refine bf NB463_467 ?_; exact bk BK463) hb); have n5_ := am (blk_below (g := gb464) (o := .cells #[.slice Ao21 t460.length co21, .int .i64 (wrap64 (t453 - x11_2))] 72 (0, 0)) (by refine bf NB464_467 ?_; refine bf NB464_467 ?_; exact bk BK464) hb); have n6_ := am (blk_below (g := gb467) (o := .cells #[.slice Ao19 t457.length co19, .int .i64 (wrap64 (t453 - x11_2))] 72 (0, 0)) (by (with_reducible repeat (first | refine blk_drewN ?_ _ | refine blk_drew ?_ | refine blk_alloc ?_ _)); refine blk_put (cs := #[.slice Ao19 t457.length co19, .int .i64 0]) ?_ 1 _ rfl; (with_reducible repeat (first | refine blk_drewN ?_ _ | refine blk_drew ?_ | refine blk_alloc ?_ _)); refine blk_put (cs := #[.slice none 0 0, .int .i64 0]) ?_ 0 _ rfl; exact bk BK467) hb); have n7_ := lb HB hb; clear HO_8 HO_10 HO_464q0 HO_465q0 BK463 BK464 BK467 HB; have HO_8 := n0_; have HO_10 := n1_; have HO_464q0 := n2_; have HO_465q0 := n3_; have BK463 := n4_; have BK464 := n5_; have BK467 := n6_; have HB := n7_; clear n0_ n1_ n2_ n3_ n4_ n5_ n6_ n7_))
          (try simp only [Act.put, List.setIfInBounds_toArray, List.set_cons_zero, List.set_cons_succ])
          go_cut [99] (fun v99 wc => ∃ (kq : Nat) (x99_33 : Bool), v99 = .bool x99_33 ∧ Aside0 (r_Digits.j3 kq (((a0 : Int) / 9223372036854775808) == 1) t453 x11_2 x99_33 t460 (wrap64 (t453 - x11_2)) t457 (wrap64 (t453 - x11_2)) = some (r1, r2, r3)) ∧ Aside0 (kq ≤ kj14) ∧ Aside0 (Kd.R (Kd.int .i64) 3 wc w.heap.size (fun k_ => some k_ ≠ ((.slice Ao21 t460.length co21) : Value).ownBlock) (.slice Ao19 t457.length co19) t457) ∧ Aside0 (Kd.R (Kd.int .i64) 3 wc w.heap.size (fun k_ => some k_ ≠ ((.slice Ao19 t457.length co19) : Value).ownBlock ∧ some k_ ≠ ((.slice Ao19 t457.length co19) : Value).ownBlock) (.slice Ao21 t460.length co21) t460) ∧ Aside0 (Kd.R (Kd.int .i64) 3 wc w.heap.size (fun k_ => some k_ ≠ ((.slice Ao21 t460.length co21) : Value).ownBlock) (.slice Ao19 t457.length co19) t457) ∧ Aside0 (wc.heap[gb463]? = some (.cells #[(.slice Ao19 t457.length co19), .int .i64 (wrap64 (t453 - x11_2))] 72 (0, 0))) ∧ Aside0 (wc.heap[gb464]? = some (.cells #[(.slice Ao21 t460.length co21), .int .i64 (wrap64 (t453 - x11_2))] 72 (0, 0))) ∧ Aside0 (wc.heap[gb467]? = some (.cells #[(.slice Ao19 t457.length co19), .int .i64 (wrap64 (t453 - x11_2))] 72 (0, 0))) ∧ Aside0 (Below w.heap.size w wc))
          case first =>
           have H := HC34.out
           clear HC34
           by_cases c44 : t465 = true
           ·
            subst c44
            have H1 : (if t466 = true then (if t468 > 0 then (r_Digits.j3 kj14 (((a0 : Int) / 9223372036854775808) == 1) t453 x11_2 true t460 (wrap64 (t453 - x11_2)) t457 (wrap64 (t453 - x11_2))) else (if t468 = 0 then (if 0 < (t457.length : Int) then (r_Digits.j3 kj14 (((a0 : Int) / 9223372036854775808) == 1) t453 x11_2 ((Int.tmod (rd t457 0) 2) == 1) t460 (wrap64 (t453 - x11_2)) t457 (wrap64 (t453 - x11_2))) else (none)) else (r_Digits.j3 kj14 (((a0 : Int) / 9223372036854775808) == 1) t453 x11_2 false t460 (wrap64 (t453 - x11_2)) t457 (wrap64 (t453 - x11_2))))) else (r_Digits.j3 kj14 (((a0 : Int) / 9223372036854775808) == 1) t453 x11_2 false t460 (wrap64 (t453 - x11_2)) t457 (wrap64 (t453 - x11_2)))) = some (r1, r2, r3) := by rw [if_pos rfl] at H; exact H
            clear H
            have H := H1
            clear H1
            by_cases c45 : t466 = true
            ·
             subst c45
             have H1 : (if t468 > 0 then (r_Digits.j3 kj14 (((a0 : Int) / 9223372036854775808) == 1) t453 x11_2 true t460 (wrap64 (t453 - x11_2)) t457 (wrap64 (t453 - x11_2))) else (if t468 = 0 then (if 0 < (t457.length : Int) then (r_Digits.j3 kj14 (((a0 : Int) / 9223372036854775808) == 1) t453 x11_2 ((Int.tmod (rd t457 0) 2) == 1) t460 (wrap64 (t453 - x11_2)) t457 (wrap64 (t453 - x11_2))) else (none)) else (r_Digits.j3 kj14 (((a0 : Int) / 9223372036854775808) == 1) t453 x11_2 false t460 (wrap64 (t453 - x11_2)) t457 (wrap64 (t453 - x11_2))))) = some (r1, r2, r3) := by rw [if_pos rfl] at H; exact H
             clear H
             have H := H1
             clear H1
             by_cases c46 : t468 > 0
             ·
              rw [if_pos c46] at H
              have c46b0 : decide (0 < t468) = true := dt c46
              clear c46
              (first | rw [c46b0] | (simp only [i64_w, i32_w]; rw [c46b0]) | skip)
              have H' := am H
              clear H
              go_wp2
              go_meet
              case rel => exact ⟨_, (true), eqd, H', ⟨by have := HJ1.out; have := HK2.out; have := HJ14.out; first | omega | exact Nat.le_refl _⟩, ⟨by exact ry <| Kd.R_mono HO_464q0.out (fun _ hk => hk.2)⟩, ⟨by exact ry <| Kd.R_mono HO_465q0.out (fun _ hk => ⟨hk.2.2, hk.2.2⟩)⟩, ⟨by exact ry <| Kd.R_mono HO_464q0.out (fun _ hk => hk.2)⟩, ⟨bk BK463⟩, ⟨bk BK464⟩, ⟨bk BK467⟩, ⟨lk HB⟩⟩
             rw [if_neg c46] at H
             have c46b0 : decide (0 < t468) = false := decide_eq_false c46
             clear c46
             (first | rw [c46b0] | (simp only [i64_w, i32_w]; rw [c46b0]) | skip)
             by_cases c47 : t468 = 0
             ·
              rw [if_pos c47] at H
              have c47b0 : (t468 == 0) = true := beq_iff_eq.mpr c47
              have c47b1 : (t468 != 0) = false := bne_eq_false_iff_eq.mpr c47
              clear c47
              by_cases c48 : 0 < (t457.length : Int)
              ·
               rw [if_pos c48] at H
               have c48b0 := dt c48
               have c48b1 : decide (0 < t457.length) = true := dt (by omega)
               clear c48
               have H' := am H
               clear H
               have p469 : 0 ≤ (0 : Int) := (by omega)
               have q469 : 0 < (t457.length : Int) := od
               obtain ⟨ad469, e469, hx469_0⟩ := Kd.at_int (Kd.R_reads' HO_10.out).2.2 0 p469 q469
               cases e469
               have qi469 : (0 < t457.length) = True := eq_true (by omega)
               (try rw [show ((0 : Int)).toNat = 0 from rfl] at hx469_0)
               (try rw [Addr.add_zero'] at hx469_0)
               replace p469 := eq_true p469
               replace q469 := eq_true q469
               go_wp2
               go_meet
               case rel => exact ⟨_, (((Int.tmod (rd t457 0) 2) == 1)), eqd, H', ⟨by have := HJ1.out; have := HK2.out; have := HJ14.out; first | omega | exact Nat.le_refl _⟩, ⟨by exact ry <| Kd.R_mono HO_464q0.out (fun _ hk => hk.2)⟩, ⟨by exact ry <| Kd.R_mono HO_465q0.out (fun _ hk => ⟨hk.2.2, hk.2.2⟩)⟩, ⟨by exact ry <| Kd.R_mono HO_464q0.out (fun _ hk => hk.2)⟩, ⟨bk BK463⟩, ⟨bk BK464⟩, ⟨bk BK467⟩, ⟨lk HB⟩⟩
              rw [if_neg c48] at H
              exact absurd H (by simp)
             rw [if_neg c47] at H
             have c47b0 : (t468 == 0) = false := beq_eq_false_iff_ne.mpr c47
             have c47b1 : (t468 != 0) = true := bne_iff_ne.mpr c47
             have H' := am H
             clear H
             go_wp2
             go_meet
             case rel => exact ⟨_, (false), eqd, H', ⟨by have := HJ1.out; have := HK2.out; have := HJ14.out; first | omega | exact Nat.le_refl _⟩, ⟨by exact ry <| Kd.R_mono HO_464q0.out (fun _ hk => hk.2)⟩, ⟨by exact ry <| Kd.R_mono HO_465q0.out (fun _ hk => ⟨hk.2.2, hk.2.2⟩)⟩, ⟨by exact ry <| Kd.R_mono HO_464q0.out (fun _ hk => hk.2)⟩, ⟨bk BK463⟩, ⟨bk BK464⟩, ⟨bk BK467⟩, ⟨lk HB⟩⟩
            replace c45 := Bool.eq_false_iff.mpr c45
            subst c45
            have H1 : (r_Digits.j3 kj14 (((a0 : Int) / 9223372036854775808) == 1) t453 x11_2 false t460 (wrap64 (t453 - x11_2)) t457 (wrap64 (t453 - x11_2))) = some (r1, r2, r3) := by rw [if_neg (show ¬ (false = true) by decide)] at H; exact H
            clear H
            have H := H1
            clear H1
            have H' := am H
            clear H
            go_wp2
            go_meet
            case rel => exact ⟨_, (false), eqd, H', ⟨by have := HJ1.out; have := HK2.out; have := HJ14.out; first | omega | exact Nat.le_refl _⟩, ⟨by exact ry <| Kd.R_mono HO_464q0.out (fun _ hk => hk.2)⟩, ⟨by exact ry <| Kd.R_mono HO_465q0.out (fun _ hk => ⟨hk.2.2, hk.2.2⟩)⟩, ⟨by exact ry <| Kd.R_mono HO_464q0.out (fun _ hk => hk.2)⟩, ⟨bk BK463⟩, ⟨bk BK464⟩, ⟨bk BK467⟩, ⟨lk HB⟩⟩
           replace c44 := Bool.eq_false_iff.mpr c44
           subst c44
           have H1 : (r_Digits.j3 kj14 (((a0 : Int) / 9223372036854775808) == 1) t453 x11_2 true t460 (wrap64 (t453 - x11_2)) t457 (wrap64 (t453 - x11_2))) = some (r1, r2, r3) := by rw [if_neg (show ¬ (false = true) by decide)] at H; exact H
           clear H
           have H := H1
           clear H1
           have H' := am H
           clear H
           go_wp2
           go_meet
           case rel => exact ⟨_, (true), eqd, H', ⟨by have := HJ1.out; have := HK2.out; have := HJ14.out; first | omega | exact Nat.le_refl _⟩, ⟨by exact ry <| Kd.R_mono HO_464q0.out (fun _ hk => hk.2)⟩, ⟨by exact ry <| Kd.R_mono HO_465q0.out (fun _ hk => ⟨hk.2.2, hk.2.2⟩)⟩, ⟨by exact ry <| Kd.R_mono HO_464q0.out (fun _ hk => hk.2)⟩, ⟨bk BK463⟩, ⟨bk BK464⟩, ⟨bk BK467⟩, ⟨lk HB⟩⟩
          case rest =>
           clear HC34
           obtain ⟨kq, x99_33, rfl, HA, HJ33, HO_464q0, HO_465q0, HO_468q0, BK463, BK464, BK467, HB⟩ := hcut
           cases kq with
           | zero => exact absurd HA.out (by simp [r_Digits.j3])
           | succ kj33 =>
            have H := HA.out
            clear HA
            simp only [r_Digits.j3] at H
            by_cases c49 : x99_33 = true
            ·
             subst c49
             have H1 : ((r_text.f kj33 t460).bind fun t470 => (r_Digits.l1 kj33 (((a0 : Int) / 9223372036854775808) == 1) t470 (wrap64 ((wrap64 (t453 - x11_2)) + (t470.size : Int))))) = some (r1, r2, r3) := by rw [if_pos rfl] at H; exact H
             clear H
             have H := H1
             clear H1
             replace H := bm H
             obtain ⟨t470, A500, H⟩ := H
             replace H : (r_Digits.l1 kj33 (((a0 : Int) / 9223372036854775808) == 1) t470 (wrap64 ((wrap64 (t453 - x11_2)) + (t470.size : Int)))) = some (r1, r2, r3) := H
             have A50 := am A500
             clear A500
             have H' := am H
             clear H
             have hnb51 := NB464_463.out
             have hnc51 := NB463_464.out
             have hnb52 := NB464_467.out
             have hnc52 := NB467_464.out
             have hcz53_0 : wc.cell? ⟨gb464, 0, none⟩ = some (.slice Ao21 t460.length co21) := (blk_cell BK464.out 0).trans rfl
             have hcz53_1 : wc.cell? ⟨gb464, 1, none⟩ = some (.int .i64 (wrap64 (t453 - x11_2))) := (blk_cell BK464.out 1).trans rfl
             have hfz53_0 := blk_frozen BK464.out 0
             have hfz53_1 := blk_frozen BK464.out 1
             have hnb54 := NB467_463.out
             have hnc54 := NB463_467.out
             have hcz55_0 : wc.cell? ⟨gb467, 0, none⟩ = some (.slice Ao19 t457.length co19) := (blk_cell BK467.out 0).trans rfl
             have hcz55_1 : wc.cell? ⟨gb467, 1, none⟩ = some (.int .i64 (wrap64 (t453 - x11_2))) := (blk_cell BK467.out 1).trans rfl
             have hfz55_0 := blk_frozen BK467.out 0
             have hfz55_1 := blk_frozen BK467.out 1
             go_wp2_with (first | (refine gL (some 103) Tryd.func60 #[.slice Ao21 t460.length co21] ?_; (with_reducible refine (r_text.calls kj33 _ _ t460 t470 _ ?side1 ?side2 A50.out).mono ?_); (case side1 => refine (Kd.R_reads' (e := 3) (base := w.heap.size) (ok := fun k_ => (some k_ ≠ (.slice Ao19 t457.length co19 : Value).ownBlock ∧ some k_ ≠ (.slice Ao19 t457.length co19 : Value).ownBlock)) (n := t460.length) (c := co21) ?_).2.2; exact (by (with_reducible repeat (first | apply Kd.R_alloc | apply Kd.R_drewN | apply Kd.R_drew)); exact (Kd.R_mono (Kd.R_far (p := ⟨gb467, 1, none⟩) (Kd.R_far (p := ⟨gb467, 0, none⟩) (Kd.R_types HO_465q0.out BK467.out (by decide)) (fun _ hk => hk.2) (.slice Ao21 t460.length co21)) (fun _ hk => hk.2) (.int .i64 (wrap64 (t453 - x11_2)))) (fun _ h_ => h_.1)))); (case side2 => exact (Kd.R_reads' HO_465q0.out).2.1); rintro e w56 ⟨rfl, hb⟩; refine ⟨_, rfl, ?_⟩; have n0_ := am (Kd.R_below (by (with_reducible repeat (first | apply Kd.R_alloc | apply Kd.R_drewN | apply Kd.R_drew)); exact (Kd.R_mono (Kd.R_far (p := ⟨gb467, 1, none⟩) (Kd.R_far (p := ⟨gb467, 0, none⟩) (Kd.R_types HO_464q0.out BK467.out (by decide)) (fun _ hk => hk.2) (.slice Ao21 t460.length co21)) (fun _ hk => hk.2) (.int .i64 (wrap64 (t453 - x11_2)))) (fun _ h_ => h_.1))) hb); have n1_ := am (Kd.R_below (by (with_reducible repeat (first | apply Kd.R_alloc | apply Kd.R_drewN | apply Kd.R_drew)); exact (Kd.R_mono (Kd.R_far (p := ⟨gb467, 1, none⟩) (Kd.R_far (p := ⟨gb467, 0, none⟩) (Kd.R_types HO_465q0.out BK467.out (by decide)) (fun _ hk => hk.2) (.slice Ao21 t460.length co21)) (fun _ hk => hk.2) (.int .i64 (wrap64 (t453 - x11_2)))) (fun _ h_ => h_.1))) hb); have n2_ := am (Kd.R_below (by (with_reducible repeat (first | apply Kd.R_alloc | apply Kd.R_drewN | apply Kd.R_drew)); exact (Kd.R_mono (Kd.R_far (p := ⟨gb467, 1, none⟩) (Kd.R_far (p := ⟨gb467, 0, none⟩) (Kd.R_types HO_468q0.out BK467.out (by decide)) (fun _ hk => hk.2) (.slice Ao21 t460.length co21)) (fun _ hk => hk.2) (.int .i64 (wrap64 (t453 - x11_2)))) (fun _ h_ => h_.1))) hb); have n3_ := am (blk_below (g := gb463) (o := .cells #[.slice Ao19 t457.length co19, .int .i64 (wrap64 (t453 - x11_2))] 72 (0, 0)) (by refine bf NB463_467 ?_; refine bf NB463_467 ?_; exact bk BK463) hb); have n4_ := am (blk_below (g := gb464) (o := .cells #[.slice Ao21 t460.length co21, .int .i64 (wrap64 (t453 - x11_2))] 72 (0, 0)) (by refine bf NB464_467 ?_; refine bf NB464_467 ?_; exact bk BK464) hb); have n5_ := am (blk_below (g := gb467) (o := .cells #[.slice Ao21 t460.length co21, .int .i64 (wrap64 (t453 - x11_2))] 72 (0, 0)) (by (with_reducible repeat (first | refine blk_drewN ?_ _ | refine blk_drew ?_ | refine blk_alloc ?_ _)); refine blk_put (cs := #[.slice Ao21 t460.length co21, .int .i64 (wrap64 (t453 - x11_2))]) ?_ 1 _ rfl; (with_reducible repeat (first | refine blk_drewN ?_ _ | refine blk_drew ?_ | refine blk_alloc ?_ _)); refine blk_put (cs := #[.slice Ao19 t457.length co19, .int .i64 (wrap64 (t453 - x11_2))]) ?_ 0 _ rfl; exact bk BK467) hb); have n6_ := lb HB hb; clear HO_464q0 HO_465q0 HO_468q0 BK463 BK464 BK467 HB; have HO_464q0 := n0_; have HO_465q0 := n1_; have HO_468q0 := n2_; have BK463 := n3_; have BK464 := n4_; have BK467 := n5_; have HB := n6_; clear n0_ n1_ n2_ n3_ n4_ n5_ n6_))
             go_loopg [18] kj33 (fun kq v18 w' => ∃ (x18_5 : ByteArray), v18 = .string x18_5 ∧ Aside0 (r_Digits.l1 kq (((a0 : Int) / 9223372036854775808) == 1) x18_5 (wrap64 ((wrap64 (t453 - x11_2)) + (t470.size : Int))) = some (r1, r2, r3)) ∧ Aside0 (kq ≤ kj33) ∧ Aside0 (Kd.R (Kd.int .i64) 3 w' w.heap.size (fun k_ => some k_ ≠ ((.slice Ao21 t460.length co21) : Value).ownBlock ∧ some k_ ≠ ((.slice Ao21 t460.length co21) : Value).ownBlock) (.slice Ao19 t457.length co19) t457) ∧ Aside0 (Kd.R (Kd.int .i64) 3 w' w.heap.size (fun k_ => some k_ ≠ ((.slice Ao19 t457.length co19) : Value).ownBlock) (.slice Ao21 t460.length co21) t460) ∧ Aside0 (Kd.R (Kd.int .i64) 3 w' w.heap.size (fun k_ => some k_ ≠ ((.slice Ao19 t457.length co19) : Value).ownBlock) (.slice Ao21 t460.length co21) t460) ∧ Aside0 (w'.heap[gb463]? = some (.cells #[(.slice Ao19 t457.length co19), .int .i64 (wrap64 (t453 - x11_2))] 72 (0, 0))) ∧ Aside0 (w'.heap[gb464]? = some (.cells #[(.slice Ao21 t460.length co21), .int .i64 (wrap64 (t453 - x11_2))] 72 (0, 0))) ∧ Aside0 (w'.heap[gb467]? = some (.cells #[(.slice Ao21 t460.length co21), .int .i64 (wrap64 (t453 - x11_2))] 72 (0, 0))) ∧ Aside0 (Below w.heap.size w w'))
             case atStart => exact ⟨(t470), eqd, H', ⟨Nat.le_refl _⟩, ⟨by exact ry <| Kd.R_mono HO_464q0.out (fun _ hk => ⟨hk, hk⟩)⟩, ⟨by exact ry <| Kd.R_mono HO_465q0.out (fun _ hk => hk.1)⟩, ⟨by exact ry <| Kd.R_mono HO_465q0.out (fun _ hk => hk.1)⟩, ⟨bk BK463⟩, ⟨bk BK464⟩, ⟨bk BK467⟩, ⟨lk HB⟩⟩
             case round =>
              clear H'
              obtain ⟨x18_5, rfl, HA, HK5, HO_464q0, HO_465q0, HO_468q0, BK463, BK464, BK467, HB⟩ := hrel
              cases gk with
              | zero => exact absurd HA.out (by simp [r_Digits.l1])
              | succ k5 =>
               have H := HA.out
               clear HA
               simp only [r_Digits.l1] at H
               by_cases c57 : (x18_5.size : Int) > 1
               ·
                rw [if_pos c57] at H
                have c57b0 : decide (1 < (x18_5.size : Int)) = true := dt c57
                have c57b1 : decide (1 < x18_5.size) = true := dt (by omega)
                clear c57
                obtain ⟨ji58, hji58⟩ : ∃ j_ : Int, (wrap64 ((x18_5.size : Int) - 1)) = j_ := ⟨_, rfl⟩
                replace H : (if 0 ≤ (ji58) then (if (ji58) < (x18_5.size : Int) then (if (bt x18_5 (ji58)) = 48 then (if (ji58) ≤ (x18_5.size : Int) then (r_Digits.l1 k5 (((a0 : Int) / 9223372036854775808) == 1) (x18_5.extract 0 ((ji58) : Int).toNat) (wrap64 ((wrap64 (t453 - x11_2)) + (t470.size : Int)))) else (none)) else (some (x18_5, (wrap64 ((wrap64 (t453 - x11_2)) + (t470.size : Int))), (((a0 : Int) / 9223372036854775808) == 1)))) else (none)) else (none)) = some (r1, r2, r3) := by first | (rw [hji58] at H; exact H) | (simp only [hji58] at H ⊢; exact H)
                have hji58w : (IntKind.i64.wrap ((x18_5.size : Int) - 1)) = ji58 := (i64_w _).trans hji58
                by_cases c59 : 0 ≤ (ji58)
                ·
                 rw [if_pos c59] at H
                 have c59b0 := dt c59
                 clear c59
                 by_cases c60 : (ji58) < (x18_5.size : Int)
                 ·
                  rw [if_pos c60] at H
                  have c60b0 := dt c60
                  clear c60
                  by_cases c62 : (bt x18_5 (ji58)) = 48
                  ·
                   rw [if_pos c62] at H
                   have c62b0 : ((bt x18_5 (ji58)) == 48) = true := beq_iff_eq.mpr c62
                   have c62b1 : ((bt x18_5 (ji58)) != 48) = false := bne_eq_false_iff_eq.mpr c62
                   clear c62
                   have c63b0 := eq_true (od : 0 ≤ (ji58))
                   by_cases c64 : (ji58) ≤ (x18_5.size : Int)
                   ·
                    rw [if_pos c64] at H
                    have c64b0 := eq_true c64
                    have c64b1 := dt c64
                    clear c64
                    obtain ⟨y471, hy471⟩ : ∃ y_ : ByteArray, y_ = (x18_5.extract 0 ((ji58) : Int).toNat) := ⟨_, rfl⟩
                    replace H : (r_Digits.l1 k5 (((a0 : Int) / 9223372036854775808) == 1) y471 (wrap64 ((wrap64 (t453 - x11_2)) + (t470.size : Int)))) = some (r1, r2, r3) := by first | (rw [hy471]; exact H) | exact H
                    have Ny471 := am hy471
                    clear hy471
                    have H' := am H
                    clear H
                    have p61 : 0 ≤ ((ji58) : Int) := od
                    have q61 : (ji58) < (x18_5.size : Int) := od
                    have hx61 := bt_at x18_5 (ji58)
                    replace p61 := eq_true p61
                    replace q61 := eq_true q61
                    have hcs65 := Hd.str_to (P := Tryd.prog) (k := .i64) Tryd.underlying9 (j := (ji58)) (s := x18_5) (y := y471) oo oo Ny471.out
                    go_wp2
                    go_roundg k5
                    case measure => have := HJ1.out; have := HK2.out; have := HJ14.out; have := HJ33.out; have := HK5.out; omega
                    case rel => exact ⟨(y471), eqd, H', ⟨by have := HJ1.out; have := HK2.out; have := HJ14.out; have := HJ33.out; have := HK5.out; omega⟩, ⟨rk HO_464q0⟩, ⟨rk HO_465q0⟩, ⟨rk HO_468q0⟩, ⟨bk BK463⟩, ⟨bk BK464⟩, ⟨bk BK467⟩, ⟨lk HB⟩⟩
                   rw [if_neg c64] at H
                   exact absurd H (by simp)
                  rw [if_neg c62] at H
                  have c62b0 : ((bt x18_5 (ji58)) == 48) = false := beq_eq_false_iff_ne.mpr c62
                  have c62b1 : ((bt x18_5 (ji58)) != 48) = true := bne_iff_ne.mpr c62
                  simp only [Option.some.injEq, Prod.mk.injEq] at H
                  obtain ⟨rfl, rfl, rfl⟩ := H
                  have p61 : 0 ≤ ((ji58) : Int) := od
                  have q61 : (ji58) < (x18_5.size : Int) := od
                  have hx61 := bt_at x18_5 (ji58)
                  replace p61 := eq_true p61
                  replace q61 := eq_true q61
                  go_wp2
                  go_ret3
                  exact ⟨by first | rfl | (simp [errW_none, errW_some] <;> rfl) | (simp only [← hji8, ← hji58]; first | rfl | (simp [errW_none, errW_some] <;> rfl)) | (simp [*, errW_none, errW_some] <;> rfl), lk HB⟩
                 rw [if_neg c60] at H
                 exact absurd H (by simp)
                rw [if_neg c59] at H
                exact absurd H (by simp)
               rw [if_neg c57] at H
               have c57b0 : decide (1 < (x18_5.size : Int)) = false := decide_eq_false c57
               have c57b1 : decide (1 < x18_5.size) = false := decide_eq_false (by omega)
               clear c57
               simp only [Option.some.injEq, Prod.mk.injEq] at H
               obtain ⟨rfl, rfl, rfl⟩ := H
               go_wp2
               go_ret3
               exact ex (lk HB)
            replace c49 := Bool.eq_false_iff.mpr c49
            subst c49
            have H1 : ((r_text.f kj33 t457).bind fun t472 => (r_Digits.l1 kj33 (((a0 : Int) / 9223372036854775808) == 1) t472 (wrap64 ((wrap64 (t453 - x11_2)) + (t472.size : Int))))) = some (r1, r2, r3) := by rw [if_neg (show ¬ (false = true) by decide)] at H; exact H
            clear H
            have H := H1
            clear H1
            replace H := bm H
            obtain ⟨t472, A660, H⟩ := H
            replace H : (r_Digits.l1 kj33 (((a0 : Int) / 9223372036854775808) == 1) t472 (wrap64 ((wrap64 (t453 - x11_2)) + (t472.size : Int)))) = some (r1, r2, r3) := H
            have A66 := am A660
            clear A660
            have H' := am H
            clear H
            have hnb67 := NB467_463.out
            have hnc67 := NB463_467.out
            have hnb68 := NB467_464.out
            have hnc68 := NB464_467.out
            have hcz69_0 : wc.cell? ⟨gb467, 0, none⟩ = some (.slice Ao19 t457.length co19) := (blk_cell BK467.out 0).trans rfl
            have hcz69_1 : wc.cell? ⟨gb467, 1, none⟩ = some (.int .i64 (wrap64 (t453 - x11_2))) := (blk_cell BK467.out 1).trans rfl
            have hfz69_0 := blk_frozen BK467.out 0
            have hfz69_1 := blk_frozen BK467.out 1
            go_wp2_with (first | (refine gL (some 103) Tryd.func60 #[.slice Ao19 t457.length co19] ?_; (with_reducible refine (r_text.calls kj33 _ _ t457 t472 _ ?side1 ?side2 A66.out).mono ?_); (case side1 => exact ck (Kd.R_reads' HO_468q0.out).2.2); (case side2 => exact (Kd.R_reads' HO_468q0.out).2.1); rintro e w70 ⟨rfl, hb⟩; refine ⟨_, rfl, ?_⟩; replace HO_464q0 := am (Kd.R_below (rk HO_464q0) hb); replace HO_465q0 := am (Kd.R_below (rk HO_465q0) hb); replace HO_468q0 := am (Kd.R_below (rk HO_468q0) hb); replace BK463 := bb BK463 hb; replace BK464 := bb BK464 hb; replace BK467 := bb BK467 hb; replace HB := lb HB hb))
            go_loopg [18] kj33 (fun kq v18 w' => ∃ (x18_5 : ByteArray), v18 = .string x18_5 ∧ Aside0 (r_Digits.l1 kq (((a0 : Int) / 9223372036854775808) == 1) x18_5 (wrap64 ((wrap64 (t453 - x11_2)) + (t472.size : Int))) = some (r1, r2, r3)) ∧ Aside0 (kq ≤ kj33) ∧ Aside0 (Kd.R (Kd.int .i64) 3 w' w.heap.size (fun k_ => some k_ ≠ ((.slice Ao21 t460.length co21) : Value).ownBlock) (.slice Ao19 t457.length co19) t457) ∧ Aside0 (Kd.R (Kd.int .i64) 3 w' w.heap.size (fun k_ => some k_ ≠ ((.slice Ao19 t457.length co19) : Value).ownBlock ∧ some k_ ≠ ((.slice Ao19 t457.length co19) : Value).ownBlock) (.slice Ao21 t460.length co21) t460) ∧ Aside0 (Kd.R (Kd.int .i64) 3 w' w.heap.size (fun k_ => some k_ ≠ ((.slice Ao21 t460.length co21) : Value).ownBlock) (.slice Ao19 t457.length co19) t457) ∧ Aside0 (w'.heap[gb463]? = some (.cells #[(.slice Ao19 t457.length co19), .int .i64 (wrap64 (t453 - x11_2))] 72 (0, 0))) ∧ Aside0 (w'.heap[gb464]? = some (.cells #[(.slice Ao21 t460.length co21), .int .i64 (wrap64 (t453 - x11_2))] 72 (0, 0))) ∧ Aside0 (w'.heap[gb467]? = some (.cells #[(.slice Ao19 t457.length co19), .int .i64 (wrap64 (t453 - x11_2))] 72 (0, 0))) ∧ Aside0 (Below w.heap.size w w'))
            case atStart => exact ⟨(t472), eqd, H', ⟨Nat.le_refl _⟩, ⟨rk HO_464q0⟩, ⟨rk HO_465q0⟩, ⟨rk HO_468q0⟩, ⟨bk BK463⟩, ⟨bk BK464⟩, ⟨bk BK467⟩, ⟨lk HB⟩⟩
            case round =>
             clear H'
             obtain ⟨x18_5, rfl, HA, HK5, HO_464q0, HO_465q0, HO_468q0, BK463, BK464, BK467, HB⟩ := hrel
             cases gk with
             | zero => exact absurd HA.out (by simp [r_Digits.l1])
             | succ k5 =>
              have H := HA.out
              clear HA
              simp only [r_Digits.l1] at H
              by_cases c71 : (x18_5.size : Int) > 1
              ·
               rw [if_pos c71] at H
               have c71b0 : decide (1 < (x18_5.size : Int)) = true := dt c71
               have c71b1 : decide (1 < x18_5.size) = true := dt (by omega)
               clear c71
               obtain ⟨ji72, hji72⟩ : ∃ j_ : Int, (wrap64 ((x18_5.size : Int) - 1)) = j_ := ⟨_, rfl⟩
               replace H : (if 0 ≤ (ji72) then (if (ji72) < (x18_5.size : Int) then (if (bt x18_5 (ji72)) = 48 then (if (ji72) ≤ (x18_5.size : Int) then (r_Digits.l1 k5 (((a0 : Int) / 9223372036854775808) == 1) (x18_5.extract 0 ((ji72) : Int).toNat) (wrap64 ((wrap64 (t453 - x11_2)) + (t472.size : Int)))) else (none)) else (some (x18_5, (wrap64 ((wrap64 (t453 - x11_2)) + (t472.size : Int))), (((a0 : Int) / 9223372036854775808) == 1)))) else (none)) else (none)) = some (r1, r2, r3) := by first | (rw [hji72] at H; exact H) | (simp only [hji72] at H ⊢; exact H)
               have hji72w : (IntKind.i64.wrap ((x18_5.size : Int) - 1)) = ji72 := (i64_w _).trans hji72
               by_cases c73 : 0 ≤ (ji72)
               ·
                rw [if_pos c73] at H
                have c73b0 := dt c73
                clear c73
                by_cases c74 : (ji72) < (x18_5.size : Int)
                ·
                 rw [if_pos c74] at H
                 have c74b0 := dt c74
                 clear c74
                 by_cases c76 : (bt x18_5 (ji72)) = 48
                 ·
                  rw [if_pos c76] at H
                  have c76b0 : ((bt x18_5 (ji72)) == 48) = true := beq_iff_eq.mpr c76
                  have c76b1 : ((bt x18_5 (ji72)) != 48) = false := bne_eq_false_iff_eq.mpr c76
                  clear c76
                  have c77b0 := eq_true (od : 0 ≤ (ji72))
                  by_cases c78 : (ji72) ≤ (x18_5.size : Int)
                  ·
                   rw [if_pos c78] at H
                   have c78b0 := eq_true c78
                   have c78b1 := dt c78
                   clear c78
                   obtain ⟨y471, hy471⟩ : ∃ y_ : ByteArray, y_ = (x18_5.extract 0 ((ji72) : Int).toNat) := ⟨_, rfl⟩
                   replace H : (r_Digits.l1 k5 (((a0 : Int) / 9223372036854775808) == 1) y471 (wrap64 ((wrap64 (t453 - x11_2)) + (t472.size : Int)))) = some (r1, r2, r3) := by first | (rw [hy471]; exact H) | exact H
                   have Ny471 := am hy471
                   clear hy471
                   have H' := am H
                   clear H
                   have p75 : 0 ≤ ((ji72) : Int) := od
                   have q75 : (ji72) < (x18_5.size : Int) := od
                   have hx75 := bt_at x18_5 (ji72)
                   replace p75 := eq_true p75
                   replace q75 := eq_true q75
                   have hcs79 := Hd.str_to (P := Tryd.prog) (k := .i64) Tryd.underlying9 (j := (ji72)) (s := x18_5) (y := y471) oo oo Ny471.out
                   go_wp2
                   go_roundg k5
                   case measure => have := HJ1.out; have := HK2.out; have := HJ14.out; have := HJ33.out; have := HK5.out; omega
                   case rel => exact ⟨(y471), eqd, H', ⟨by have := HJ1.out; have := HK2.out; have := HJ14.out; have := HJ33.out; have := HK5.out; omega⟩, ⟨rk HO_464q0⟩, ⟨rk HO_465q0⟩, ⟨rk HO_468q0⟩, ⟨bk BK463⟩, ⟨bk BK464⟩, ⟨bk BK467⟩, ⟨lk HB⟩⟩
                  rw [if_neg c78] at H
                  exact absurd H (by simp)
                 rw [if_neg c76] at H
                 have c76b0 : ((bt x18_5 (ji72)) == 48) = false := beq_eq_false_iff_ne.mpr c76
                 have c76b1 : ((bt x18_5 (ji72)) != 48) = true := bne_iff_ne.mpr c76
                 simp only [Option.some.injEq, Prod.mk.injEq] at H
                 obtain ⟨rfl, rfl, rfl⟩ := H
                 have p75 : 0 ≤ ((ji72) : Int) := od
                 have q75 : (ji72) < (x18_5.size : Int) := od
                 have hx75 := bt_at x18_5 (ji72)
                 replace p75 := eq_true p75
                 replace q75 := eq_true q75
                 go_wp2
                 go_ret3
                 exact ⟨by first | rfl | (simp [errW_none, errW_some] <;> rfl) | (simp only [← hji8, ← hji72]; first | rfl | (simp [errW_none, errW_some] <;> rfl)) | (simp [*, errW_none, errW_some] <;> rfl), lk HB⟩
                rw [if_neg c74] at H
                exact absurd H (by simp)
               rw [if_neg c73] at H
               exact absurd H (by simp)
              rw [if_neg c71] at H
              have c71b0 : decide (1 < (x18_5.size : Int)) = false := decide_eq_false c71
              have c71b1 : decide (1 < x18_5.size) = false := decide_eq_false (by omega)
              clear c71
              simp only [Option.some.injEq, Prod.mk.injEq] at H
              obtain ⟨rfl, rfl, rfl⟩ := H
              go_wp2
              go_ret3
              exact ex (lk HB)
       rw [if_neg c10] at H
       exact absurd H (by simp)
      rw [if_neg c9] at H
      exact absurd H (by simp)
     rw [if_neg c7] at H
     have c7b0 := decide_eq_false c7
     clear c7
     simp only [Option.some.injEq, Prod.mk.injEq] at H
     obtain ⟨rfl, rfl, rfl⟩ := H
     obtain ⟨Ao80, co80, eo80⟩ := Kd.R_slice HO_8.out
     subst eo80
     go_wp2
     go_ret3
     exact ex (lk HB)
def num_units.f  : Option ((List (S98))) := some (([(⟨(⟨#[121]⟩ : ByteArray), 31536000000⟩ : S98), (⟨(⟨#[119]⟩ : ByteArray), 604800000⟩ : S98), (⟨(⟨#[100]⟩ : ByteArray), 86400000⟩ : S98), (⟨(⟨#[104]⟩ : ByteArray), 3600000⟩ : S98), (⟨(⟨#[109]⟩ : ByteArray), 60000⟩ : S98), (⟨(⟨#[115]⟩ : ByteArray), 1000⟩ : S98), (⟨(⟨#[109, 115]⟩ : ByteArray), 1⟩ : S98)] : List (S98)))
set_option maxHeartbeats 8000000 in
theorem num_units.calls  (r : List (S98)) (w : World) (h : num_units.f  = some r) :
  Calls Tryd.prog 77 #[] w fun e w' => ∃ v0_ : Value, e = .returned (v0_) ∧ Kd.R k98 98 w' w.heap.size (fun _ => True) v0_ r ∧ Below w.heap.size w w' := by
 have hu98 := Tryd.underlying98
 have HB := am (Below.refl w.heap.size w)
 have H : (some (([(⟨(⟨#[121]⟩ : ByteArray), 31536000000⟩ : S98), (⟨(⟨#[119]⟩ : ByteArray), 604800000⟩ : S98), (⟨(⟨#[100]⟩ : ByteArray), 86400000⟩ : S98), (⟨(⟨#[104]⟩ : ByteArray), 3600000⟩ : S98), (⟨(⟨#[109]⟩ : ByteArray), 60000⟩ : S98), (⟨(⟨#[115]⟩ : ByteArray), 1000⟩ : S98), (⟨(⟨#[109, 115]⟩ : ByteArray), 1⟩ : S98)] : List (S98)))) = some r := h
 clear h
 obtain ⟨y606, hy606⟩ : ∃ y_ : List (S98), y_ = (([(⟨(⟨#[121]⟩ : ByteArray), 31536000000⟩ : S98), (⟨(⟨#[119]⟩ : ByteArray), 604800000⟩ : S98), (⟨(⟨#[100]⟩ : ByteArray), 86400000⟩ : S98), (⟨(⟨#[104]⟩ : ByteArray), 3600000⟩ : S98), (⟨(⟨#[109]⟩ : ByteArray), 60000⟩ : S98), (⟨(⟨#[115]⟩ : ByteArray), 1000⟩ : S98), (⟨(⟨#[109, 115]⟩ : ByteArray), 1⟩ : S98)] : List (S98))) := ⟨_, rfl⟩
 replace H : (some y606) = some r := by first | (rw [hy606]; exact H) | exact H
 have Ny606 := am hy606
 clear hy606
 obtain rfl := Option.some.inj H
 go_enter Tryd.func77, Tryd.ntmps77
 go_wp2_with (first | ((with_reducible refine gate_dst (N := 8) rfl ?_); refine Kd.R_lit k98 _ 98 ?hg (N := 8) ?hd (xs := ([(⟨(⟨#[121]⟩ : ByteArray), 31536000000⟩ : S98), (⟨(⟨#[119]⟩ : ByteArray), 604800000⟩ : S98), (⟨(⟨#[100]⟩ : ByteArray), 86400000⟩ : S98), (⟨(⟨#[104]⟩ : ByteArray), 3600000⟩ : S98), (⟨(⟨#[109]⟩ : ByteArray), 60000⟩ : S98), (⟨(⟨#[115]⟩ : ByteArray), 1000⟩ : S98), (⟨(⟨#[109, 115]⟩ : ByteArray), 1⟩ : S98)] : List (S98))) (inner := [.string (⟨#[121]⟩ : ByteArray), .int .i64 31536000000, .string (⟨#[119]⟩ : ByteArray), .int .i64 604800000, .string (⟨#[100]⟩ : ByteArray), .int .i64 86400000, .string (⟨#[104]⟩ : ByteArray), .int .i64 3600000, .string (⟨#[109]⟩ : ByteArray), .int .i64 60000, .string (⟨#[115]⟩ : ByteArray), .int .i64 1000, .string (⟨#[109, 115]⟩ : ByteArray), .int .i64 1]) (ok := fun _ => True) (okp := fun _ => True) ?hr ?hp (fun _ hk => hk) trivial (Below.refl _ _) (Nat.le_refl _) (by simp) ?_; (case hd => rfl); (case hg => rfl); (case hr => first | (go_simp; done) | (go_simp; rfl)); (case hp => exact (Reps.c2 (show Kd.M k98 _ _ _ (⟨(⟨#[121]⟩ : ByteArray), 31536000000⟩ : S98) [.string (⟨#[121]⟩ : ByteArray), .int .i64 31536000000] from (k98_mkM _ _ _ (⟨(⟨#[121]⟩ : ByteArray), 31536000000⟩ : S98) )) (Reps.c2 (show Kd.M k98 _ _ _ (⟨(⟨#[119]⟩ : ByteArray), 604800000⟩ : S98) [.string (⟨#[119]⟩ : ByteArray), .int .i64 604800000] from (k98_mkM _ _ _ (⟨(⟨#[119]⟩ : ByteArray), 604800000⟩ : S98) )) (Reps.c2 (show Kd.M k98 _ _ _ (⟨(⟨#[100]⟩ : ByteArray), 86400000⟩ : S98) [.string (⟨#[100]⟩ : ByteArray), .int .i64 86400000] from (k98_mkM _ _ _ (⟨(⟨#[100]⟩ : ByteArray), 86400000⟩ : S98) )) (Reps.c2 (show Kd.M k98 _ _ _ (⟨(⟨#[104]⟩ : ByteArray), 3600000⟩ : S98) [.string (⟨#[104]⟩ : ByteArray), .int .i64 3600000] from (k98_mkM _ _ _ (⟨(⟨#[104]⟩ : ByteArray), 3600000⟩ : S98) )) (Reps.c2 (show Kd.M k98 _ _ _ (⟨(⟨#[109]⟩ : ByteArray), 60000⟩ : S98) [.string (⟨#[109]⟩ : ByteArray), .int .i64 60000] from (k98_mkM _ _ _ (⟨(⟨#[109]⟩ : ByteArray), 60000⟩ : S98) )) (Reps.c2 (show Kd.M k98 _ _ _ (⟨(⟨#[115]⟩ : ByteArray), 1000⟩ : S98) [.string (⟨#[115]⟩ : ByteArray), .int .i64 1000] from (k98_mkM _ _ _ (⟨(⟨#[115]⟩ : ByteArray), 1000⟩ : S98) )) (Reps.c2 (show Kd.M k98 _ _ _ (⟨(⟨#[109, 115]⟩ : ByteArray), 1⟩ : S98) [.string (⟨#[109, 115]⟩ : ByteArray), .int .i64 1] from (k98_mkM _ _ _ (⟨(⟨#[109, 115]⟩ : ByteArray), 1⟩ : S98) )) (Reps.none _ _))))))))); intro v607 w1 ho2 hb hg_ hnew_; clear hg_ hnew_; (first | rw [← Ny606.out] at ho2 | (simp only [Int.reduceToNat] at ho2; rw [← Ny606.out] at ho2)); have HO608 := am (Kd.R_lower ho2 (below_size (lk HB))); replace HB := lb HB hb; clear hb ho2))
 go_ret
 exact ⟨_, by first | rfl | (simp [errW_none, errW_some] <;> rfl) | (simp [*, errW_none, errW_some] <;> rfl), rk HO608, lk HB⟩
end Go.Proofs.YtjlnfnfdibfniaaDoor.F

